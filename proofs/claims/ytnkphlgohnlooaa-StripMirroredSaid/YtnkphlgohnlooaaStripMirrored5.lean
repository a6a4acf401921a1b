/- What the functions that the law StripMirrored reaches come to, and why it holds: part 5. -/
import Derived.Test.YtnkphlgohnlooaaStripMirrored4
namespace Go.Proofs.Ws
set_option maxHeartbeats 4000000
set_option maxRecDepth 100000
open Go Go.Fw Go.Gx Go.Sp
open Try
set_option linter.unusedVariables false
structure zP where
  sum3 : Int
  t11 : Int
def zO (n00 : (List Wy)) (s : zP) : Option (zP ⊕ Int) :=
 if s.t11 < (n00.length : Int) then
 ((ix n00 s.t11).bind fun t13 =>
 (mulc t13.cost t13.goes).bind fun t20 =>
 (addc s.sum3 t20).bind fun t21 =>
 (addc s.t11 1).bind fun t22 =>
 some (.inl (⟨t21, t22⟩ : zP))) else
 (some (.inr s.sum3))
def yE (n00 : (List Wy)) : Option Int :=
 (iterM FU (zO n00) (⟨0, 0⟩ : zP)).bind fun o =>
 some o
theorem KB (n00 : (List Wy)) (rb : Nat) (qa1 : Option Addr) (na1 ca1 : Nat) (w : World) (hw : HV w (keys [] []) [] [] [(rb, 0, [.slice qa1 na1 ca1]), (aB qa1, aO qa1, RWay.enc n00)] w)  (hna1 : n00.length = na1) (hqa1 : AOK na1 qa1) (hla1 : na1 ≤ ca1) {res : Int} (hm : yE n00 = some res) :
    Calls Try.prog 69 #[ptr rb 0] w (fun en w' => ∃ l : Unit, en = .returned (.int .i64 res) ∧ (True) ∧ HV w (keys [] []) [] [] [] w') := by
  unfold yE at hm
  refine kl func69 Y ntmps69 Y (e := [(0, _)]) Y hw (jp (jl Y Y (jV (jl Y Y (jo (jk (jp ?_)))))))
  refine je Y Y (jb Y Y Y (fun _ _ => jw Y) (j7 0 runUnderlying168 Y sizeOf166 Y Y (jb Y Y Y (fun w hh => jQ (isAgg166 w) Y (segCell (hh.seg 0 Y) 0 Y)) (jb Y Y Y (fun w _ => jR hna1 (runUnderlying166 w) Y) (je Y Y (jo ?_))))))
  obtain ⟨o, h1, h2⟩ := bindO hm
  refine jM (ι := Unit) (fun l => True) (fun l => [(3, .int .i64 o)]) (fun l => []) (fun l => []) ?_ ?_
  ·replace hm := h1
   refine jj ?_
   refine jD (ι := Unit) hm (fun s l_1 => True) (fun s l_1 => [(3, .int .i64 s.sum3), (9, .slice qa1 na1 ca1), (10, .int .i64 (n00.length : Int)), (11, .int .i64 s.t11)]) (fun s l_1 => []) (fun s l_1 => []) () (trivial) (sE Y) (fun w hh => hh) (fun s l_1 r hpl hm h3 => ?_)
   unfold zO at hm
   refine jp (zK Y Y Y (jo (jk ?_)))
   refine jr Y (fun h4 => ?_) (fun h4 => ?_)
   ·replace hm := ifD h4 hm
    refine js (ja (jk (jj (jp ?_))))
    obtain ⟨t13, h5, hm⟩ := bindO hm
    refine jb Y Y Y (fun w _ => q7 h5 (runUnderlying166 w) (sizeOf170 w) Y Y hna1 hqa1) ?_
    refine jb Y Y Y (fun w hh => kT RWay 0 [.int .i64 t13.fr, .int .i64 t13.dst, .int .i64 t13.lo, .int .i64 t13.hi, .int .i64 t13.cost, .int .i64 t13.goes] h5 (isAgg170 w) (sizeOf170 w) Y (hh.seg 1 Y) Y (Nat.add_zero _).symm) ?_
    refine jq (fun w => zeroValue170 w) Y (fun b h6 => ?_)
    refine jB (us := #[_, _, _, _, _, _]) (cs' := [_, _, _, _, _, _]) (S' := [_]) 0 (fun w => sizeOf170 w) Y Y Y Y Y Y Y (jo (jh (je Y Y (j7 4 runUnderlying170 Y sizeOf3 Y Y (kx 0 isAgg3 Y Y Y Y (j7 5 runUnderlying170 Y sizeOf3 Y Y (kx 0 isAgg3 Y Y Y Y ?_)))))))
    obtain ⟨t20, h7, hm⟩ := bindO hm
    refine jb Y Y Y (fun _ _ => Za h7 Y Y) ?_
    obtain ⟨t21, h8, hm⟩ := bindO hm
    refine yA h8 Y Y Y (jl Y Y (jx (jt (ja (jh ?_)))))
    obtain ⟨t22, h9, hm⟩ := bindO hm
    refine yA h9 Y Y Y (je Y Y (jx ?_))
    obtain rfl := sj hm
    refine ja ?_
    exact jz _ () Y (trivial) (sE Y) (hsE [] [] 0 Y Y Y Y)
   replace hm := ifE h4 hm
   refine jP (ji (ji (jC ?_)))
   obtain rfl := sj hm
   have hbo := h3 _ Y
   subst hbo
   exact jn () (trivial) (sE Y) (fun w hh => hh)
  intro l hj
  replace hm := h2
  refine ja (jp (je Y Y (jl Y Y (jo (ju ?_)))))
  obtain rfl := sj hm
  refine jm Y (fun w hh => (.tmp Y .nil)) (fun w hh => ⟨(), rfl, trivial, hh.se [] [] 2 Y Y Y rfl⟩)
structure Jr where
  r1 : Int
  r2 : Int
  r0 : (List (List Int))
def yc (s0 : Scalps) : Option Jr :=
 (kM s0).bind fun t11 =>
 oc t11 (fun t11a => some (⟨0, t11a, ([] : List (List Int))⟩ : Jr)) (fun t11b => (Jj s0.strips s0.carried).bind fun t20 =>
 (jW s0.strips s0.carried t11b (fun p : Pair => jI p s0.strips s0.carried)).bind fun t21 =>
 oc t21 (fun t21a => some (⟨0, 7, ([] : List (List Int))⟩ : Jr)) (fun t21b => (qZ t21b.t12 s0.strips s0.carried).bind fun t28 =>
 (yE t21b.t12).bind fun t30 =>
 some (⟨t30, 0, t28⟩ : Jr)))
theorem KV (s0 : Scalps) (qa0 : Option Addr) (na0 ca0 : Nat) (qa1 : Option Addr) (na1 ca1 : Nat) (w : World) (hw : HV w (keys [] []) [] [] [(aB qa0, aO qa0, RSt.enc s0.strips), (aB qa1, aO qa1, RSp.enc s0.carried)] w) (hna0 : s0.strips.length = na0) (hqa0 : AOK na0 qa0) (hla0 : na0 ≤ ca0) (hna1 : s0.carried.length = na1) (hqa1 : AOK na1 qa1) (hla1 : na1 ≤ ca1) {res : Jr} (hm : yc s0 = some res) :
    Calls Try.prog 17 #[.agg #[.slice qa0 na0 ca0, .slice qa1 na1 ca1]] w (fun en w' => ∃ l : DL, en = .returned (.tuple #[sL l.v, .int .i64 res.r1, .int .i64 res.r2]) ∧ (VOK 1 l.v.n l.v.cap (RwH.enc l.rs) l.v.sp l.v.q ∧ DOK RI res.r0 l.rs) ∧ HV w (keys [] []) [] [⟨32, RwH.enc l.rs, l.v.sp, l.v.q, dbl 3 RI res.r0 l.rs⟩] [] w') := by
  unfold yc at hm
  refine kl func17 Y ntmps17 Y (e := [(0, _)]) Y hw (jp ?_)
  refine jF Y Y (fun b h3 => ?_)
  refine jb Y Y Y (fun _ _ => qf Y) (jl Y Y (jl Y Y (jV (qX [_, _] 0 isAgg28 sizeOf28 Y Y Y Y ?_))))
  obtain ⟨t11, h4, hm⟩ := bindO hm
  rcases t11 with t11a | t11b
  ·replace hm := ocL hm
   refine jd [] [] Y Y Y Y Y Y Y call65 (fun w hh => kn s0 qa0 na0 ca0 qa1 na1 ca1 w (HV.callee (S0 := []) (vs0 := []) hh (roR hh 0 Y (roR hh 1 Y roN))) hna0 hqa0 hla0 hna1 hqa1 hla1 h4) (fun l h5 => ?_)
   have h6 := h5
   refine je Y Y (ka Y Y Y (ka Y Y Y (jl Y Y (jl Y Y (jo (jk (jp ?_)))))))
   refine je Y Y (jb Y Y Y (fun _ _ => Qk h6 Y Y) (jo (y8 Y Y (jp (je Y Y (jb Y Y Y (fun _ _ => qf Y) (jl Y Y ?_)))))))
   refine jl Y Y (jo (ju (jf (kG 32 ?_))))
   obtain rfl := sj hm
   refine jm Y (fun w hh => (.tmp Y (.tmp Y (.tmp Y .nil)))) (fun w hh => ⟨⟨⟨none, 0, 0, []⟩, []⟩, rfl, ⟨VOK.nil, DOK.nil⟩, hh.se [] [0] 2 Y Y Y rfl⟩)
  replace hm := ocR hm
  refine jd [] [] Y Y Y Y Y Y Y call65 (fun w hh => kn s0 qa0 na0 ca0 qa1 na1 ca1 w (HV.callee (S0 := []) (vs0 := []) hh (roR hh 0 Y (roR hh 1 Y roN))) hna0 hqa0 hla0 hna1 hqa1 hla1 h4) (fun l_1 h7 => ?_)
  refine jH (S' := [_, _, _]) (vs' := []) [0, 1, 2] [] 0 Y Y Y Y (je Y Y (ka Y Y Y (ka Y Y Y (jl Y Y (jl Y Y (jo (jk ?_)))))))
  refine jp (je Y Y (jb Y Y Y (fun _ _ => q5 Y Y) (jo (qS Y Y (js (ja (jp ?_)))))))
  refine je Y Y (je Y Y ?_)
  obtain ⟨t20, h8, hm⟩ := bindO hm
  refine jd [] [] Y Y Y Y Y Y Y call67 (fun w hh => K0 s0.strips s0.carried l_1.1 qa0 na0 ca0 qa1 na1 ca1 (.map (some l_1.2)) w (HV.callee (S0 := []) (vs0 := []) hh (roC (bsep (hh.bseg 0 Y)) (roR hh 0 Y (roR hh 1 Y roN)))) hna0 hqa0 hla0 hna1 hqa1 hla1 h8) (fun l_2 h9 => ?_)
  refine jH (S' := [_, _, _, _]) (vs' := []) [0, 1, 2, 3] [] 0 Y Y Y Y ?_
  obtain ⟨t21, h10, hm⟩ := bindO hm
  rcases t21 with t21a | t21b
  ·replace hm := ocL hm
   refine jH (S' := [_, _, _, _]) (vs' := []) [2, 0, 1, 3] [] 0 Y Y Y Y ?_
   refine jd [_] [] Y Y Y Y Y Y Y call66 (fun w hh => j2 s0.strips s0.carried t11b (fun p : Pair => jI p s0.strips s0.carried) l_1.1 qa0 na0 ca0 qa1 na1 ca1 l_1.2 122 (#[]) (#[ptr l_2 0]) ([(l_2, 0, [.func (.func 97) #[ptr l_1.1 0] #[]]), (l_1.1, 0, [.slice qa0 na0 ca0, .slice qa1 na1 ca1, .map (some l_1.2)]), (aB qa0, aO qa0, RSt.enc s0.strips), (aB qa1, aO qa1, RSp.enc s0.carried)]) w (HV.callee (S0 := [_]) (vs0 := []) hh (roA (roC (hh.bsepH 1 Y) (roR hh 0 Y (roR hh 1 Y roN))) (roC (hh.bsepH 0 Y) (roC (hh.bsepH 1 Y) (roR hh 0 Y (roR hh 1 Y roN)))))) hna0 hqa0 hla0 hna1 hqa1 hla1 (⟨fun a w => call122 a w, (fun p r hr w hT => clRet (zy p s0.strips s0.carried l_2 l_1.1 qa0 na0 ca0 qa1 na1 ca1 (.map (some l_1.2)) w (HVstart hT) hna0 hqa0 hla0 hna1 hqa1 hla1 hr))⟩ : ClOK Try.prog 122 #[] #[ptr l_2 0] ([(l_2, 0, [.func (.func 97) #[ptr l_1.1 0] #[]]), (l_1.1, 0, [.slice qa0 na0 ca0, .slice qa1 na1 ca1, .map (some l_1.2)]), (aB qa0, aO qa0, RSt.enc s0.strips), (aB qa1, aO qa1, RSp.enc s0.carried)]) (fun x : Pair => [.agg #[.int .i64 x.tenant, .int .i64 x.strip]]) (fun x : Int => .int .i64 x) (fun p : Pair => jI p s0.strips s0.carried)) h10) (fun l_3 h11 => ?_)
   have h12 := h11
   refine jH (S' := [_, _, _, _]) (vs' := [_]) [0, 1, 2, 3] [0] 0 Y Y Y Y (je Y Y (ka Y Y Y (ka Y Y Y ?_)))
   refine jq (fun w => zeroValue61 w) Y (fun b_1 h13 => ?_)
   refine jl Y Y (jB (us := #[_, _]) (cs' := [_, _]) (S' := [_, _, _, _, _]) 0 (fun w => sizeOf61 w) Y Y Y Y Y Y Y (jo (jk (jp (je Y Y (jb Y Y Y (fun w _ => Jz (runUnderlying118 w) Y Y) (jo ?_)))))))
   refine y8 Y Y (jp (jb Y Y Y (fun _ _ => qf Y) (jl Y Y (jl Y Y (jo (ju (jf ?_)))))))
   refine kG 32 ?_
   obtain rfl := sj hm
   refine jm Y (fun w hh => (.tmp Y (.tmp Y (.tmp Y .nil)))) (fun w hh => ⟨⟨⟨none, 0, 0, []⟩, []⟩, rfl, ⟨VOK.nil, DOK.nil⟩, hh.se [] [0] 2 Y Y Y rfl⟩)
  replace hm := ocR hm
  refine jH (S' := [_, _, _, _]) (vs' := []) [2, 0, 1, 3] [] 0 Y Y Y Y ?_
  refine jd [_] [] Y Y Y Y Y Y Y call66 (fun w hh => j2 s0.strips s0.carried t11b (fun p : Pair => jI p s0.strips s0.carried) l_1.1 qa0 na0 ca0 qa1 na1 ca1 l_1.2 122 (#[]) (#[ptr l_2 0]) ([(l_2, 0, [.func (.func 97) #[ptr l_1.1 0] #[]]), (l_1.1, 0, [.slice qa0 na0 ca0, .slice qa1 na1 ca1, .map (some l_1.2)]), (aB qa0, aO qa0, RSt.enc s0.strips), (aB qa1, aO qa1, RSp.enc s0.carried)]) w (HV.callee (S0 := [_]) (vs0 := []) hh (roA (roC (hh.bsepH 1 Y) (roR hh 0 Y (roR hh 1 Y roN))) (roC (hh.bsepH 0 Y) (roC (hh.bsepH 1 Y) (roR hh 0 Y (roR hh 1 Y roN)))))) hna0 hqa0 hla0 hna1 hqa1 hla1 (⟨fun a w => call122 a w, (fun p r hr w hT => clRet (zy p s0.strips s0.carried l_2 l_1.1 qa0 na0 ca0 qa1 na1 ca1 (.map (some l_1.2)) w (HVstart hT) hna0 hqa0 hla0 hna1 hqa1 hla1 hr))⟩ : ClOK Try.prog 122 #[] #[ptr l_2 0] ([(l_2, 0, [.func (.func 97) #[ptr l_1.1 0] #[]]), (l_1.1, 0, [.slice qa0 na0 ca0, .slice qa1 na1 ca1, .map (some l_1.2)]), (aB qa0, aO qa0, RSt.enc s0.strips), (aB qa1, aO qa1, RSp.enc s0.carried)]) (fun x : Pair => [.agg #[.int .i64 x.tenant, .int .i64 x.strip]]) (fun x : Int => .int .i64 x) (fun p : Pair => jI p s0.strips s0.carried)) h10) (fun l_4 h14 => ?_)
  obtain ⟨h15, h16⟩ := h14
  refine jH (S' := [_, _, _, _, _]) (vs' := [_, _]) [0, 1, 2, 3, 4] [0, 1] 0 Y Y Y Y (je Y Y (ka Y Y Y (ka Y Y Y ?_)))
  refine jq (fun w => zeroValue61 w) Y (fun b_2 h17 => ?_)
  refine jl Y Y (jB (us := #[_, _]) (cs' := [_, _]) (S' := [_, _, _, _, _, _]) 0 (fun w => sizeOf61 w) Y Y Y Y Y Y Y (jo (jk (jp (je Y Y (jb Y Y Y (fun w _ => Jz (runUnderlying118 w) Y Y) (jo ?_)))))))
  refine qS Y Y (js (ja (jp (je Y Y (je Y Y ?_)))))
  obtain ⟨t28, h18, hm⟩ := bindO hm
  refine jd [] [] Y Y Y Y Y Y Y call68 (fun w hh => QD t21b.t12 s0.strips s0.carried l_4.1 (qA l_4.2.2.q) l_4.2.2.n l_4.2.2.cap l_1.1 qa0 na0 ca0 qa1 na1 ca1 (.map (some l_1.2)) w (HV.callee (S0 := []) (vs0 := []) hh (roC (bsep (hh.bseg 2 Y)) (roC (hh.vsepA 1 Y h16) (roC (bsep (hh.bseg 4 Y)) (roR hh 0 Y (roR hh 1 Y roN)))))) (vlen RWay h16 Y) (AOK.q (vne h16)) (h16).hle hna0 hqa0 hla0 hna1 hqa1 hla1 h18) (fun l_5 h19 => ?_)
  obtain ⟨h20, h21⟩ := h19
  refine jH (S' := [_, _, _, _, _, _]) (vs' := [_, _, _]) [0, 1, 2, 3, 4, 5] [0, 1, 2] 0 Y Y Y Y (je Y Y ?_)
  obtain ⟨t30, h22, hm⟩ := bindO hm
  refine jd [] [] Y Y Y Y Y Y Y call69 (fun w hh => KB t21b.t12 l_4.1 (qA l_4.2.2.q) l_4.2.2.n l_4.2.2.cap w (HV.callee (S0 := []) (vs0 := []) hh (roC (bsep (hh.bseg 2 Y)) (roC (hh.vsepA 2 Y h16) roN))) (vlen RWay h16 Y) (AOK.q (vne h16)) (h16).hle h22) (fun l_6 h23 => ?_)
  refine jl Y Y (jl Y Y (jl Y Y (jo (ju ?_))))
  obtain rfl := sj hm
  refine jm Y (fun w hh => (.tmp Y (.tmp Y (.tmp Y .nil)))) (fun w hh => ⟨l_5, rfl, ⟨h20, h21⟩, hh.se [] [0] 2 Y Y Y rfl⟩)
def yS (p0 : Pair) (a110 : (Pair → Option Int)) : Option Int :=
 (a110 p0).bind fun t7 =>
 (negc t7).bind fun t8 =>
 some t8
theorem QU (p0 : Pair) (a110 : (Pair → Option Int)) (rb : Nat) (f_a110 : FuncId) (fs_a110 cs_a110 : Array Value) (T_a110 : List Sg) (w : World) (hw : HV w (keys [] []) [] [] ([(rb, 0, [.func (.func f_a110) fs_a110 cs_a110])] ++ T_a110) w)  (hcl_a110 : ClOK Try.prog f_a110 fs_a110 cs_a110 T_a110 (fun x : Pair => [.agg #[.int .i64 x.tenant, .int .i64 x.strip]]) (fun x : Int => .int .i64 x) a110) {res : Int} (hm : yS p0 a110 = some res) :
    Calls Try.prog 70 #[.agg #[.int .i64 p0.tenant, .int .i64 p0.strip], ptr rb 0] w (fun en w' => ∃ l : Unit, en = .returned (.int .i64 res) ∧ (True) ∧ HV w (keys [] []) [] [] [] w') := by
  unfold yS at hm
  refine kl func70 Y ntmps70 Y (e := [(0, _), (1, _)]) Y hw (jp ?_)
  refine jF Y Y (fun b h1 => ?_)
  refine jl Y Y (jV (j7 0 runUnderlying123 Y sizeOf121 Y Y (jb Y Y Y (fun w hh => jQ (isAgg121 w) Y (segCell (hh.seg 0 Y) 0 Y)) (qX [_, _] 0 isAgg128 sizeOf128 Y Y Y Y ?_))))
  obtain ⟨t7, h2, hm⟩ := bindO hm
  refine Q5 hcl_a110 (fun t ht => (List.mem_cons_of_mem _ ht)) h2 Y Y Y Y Y Y ?_
  obtain ⟨t8, h3, hm⟩ := bindO hm
  refine jb Y Y Y (fun _ _ => Yq h3 Y) (jl Y Y (jo (ju ?_)))
  obtain rfl := sj hm
  refine jm Y (fun w hh => (.tmp Y .nil)) (fun w hh => ⟨(), rfl, trivial, hh.selN [] [] (by decide) (by decide) Y rfl⟩)
structure JP where
  r1 : Int
  r2 : Int
  r0 : (List (List Int))
def zA (s0 : Scalps) : Option JP :=
 (kM s0).bind fun t12 =>
 oc t12 (fun t12a => some (⟨0, t12a, ([] : List (List Int))⟩ : JP)) (fun t12b => (Jj s0.strips s0.carried).bind fun t19 =>
 (jW s0.strips s0.carried t12b (fun p : Pair => yS p (fun p_1 : Pair => jI p_1 s0.strips s0.carried))).bind fun t24 =>
 oc t24 (fun t24a => some (⟨0, 7, ([] : List (List Int))⟩ : JP)) (fun t24b => (qZ t24b.t12 s0.strips s0.carried).bind fun t31 =>
 (yE t24b.t12).bind fun t33 =>
 (negc t33).bind fun t34 =>
 some (⟨t34, 0, t31⟩ : JP)))
theorem Yb (s0 : Scalps) (qa0 : Option Addr) (na0 ca0 : Nat) (qa1 : Option Addr) (na1 ca1 : Nat) (w : World) (hw : HV w (keys [] []) [] [] [(aB qa0, aO qa0, RSt.enc s0.strips), (aB qa1, aO qa1, RSp.enc s0.carried)] w) (hna0 : s0.strips.length = na0) (hqa0 : AOK na0 qa0) (hla0 : na0 ≤ ca0) (hna1 : s0.carried.length = na1) (hqa1 : AOK na1 qa1) (hla1 : na1 ≤ ca1) {res : JP} (hm : zA s0 = some res) :
    Calls Try.prog 18 #[.agg #[.slice qa0 na0 ca0, .slice qa1 na1 ca1]] w (fun en w' => ∃ l : DL, en = .returned (.tuple #[sL l.v, .int .i64 res.r1, .int .i64 res.r2]) ∧ (VOK 1 l.v.n l.v.cap (RwH.enc l.rs) l.v.sp l.v.q ∧ DOK RI res.r0 l.rs) ∧ HV w (keys [] []) [] [⟨32, RwH.enc l.rs, l.v.sp, l.v.q, dbl 3 RI res.r0 l.rs⟩] [] w') := by
  unfold zA at hm
  refine kl func18 Y ntmps18 Y (e := [(0, _)]) Y hw (jp ?_)
  refine jF Y Y (fun b h3 => ?_)
  refine jb Y Y Y (fun _ _ => qf Y) (jl Y Y (jl Y Y (jV (qX [_, _] 0 isAgg28 sizeOf28 Y Y Y Y ?_))))
  obtain ⟨t12, h4, hm⟩ := bindO hm
  rcases t12 with t12a | t12b
  ·replace hm := ocL hm
   refine jd [] [] Y Y Y Y Y Y Y call65 (fun w hh => kn s0 qa0 na0 ca0 qa1 na1 ca1 w (HV.callee (S0 := []) (vs0 := []) hh (roR hh 0 Y (roR hh 1 Y roN))) hna0 hqa0 hla0 hna1 hqa1 hla1 h4) (fun l h5 => ?_)
   have h6 := h5
   refine je Y Y (ka Y Y Y (ka Y Y Y (jl Y Y (jl Y Y (jo (jk (jp ?_)))))))
   refine je Y Y (jb Y Y Y (fun _ _ => Qk h6 Y Y) (jo (y8 Y Y (jp (je Y Y (jb Y Y Y (fun _ _ => qf Y) (jl Y Y ?_)))))))
   refine jl Y Y (jo (ju (jf (kG 32 ?_))))
   obtain rfl := sj hm
   refine jm Y (fun w hh => (.tmp Y (.tmp Y (.tmp Y .nil)))) (fun w hh => ⟨⟨⟨none, 0, 0, []⟩, []⟩, rfl, ⟨VOK.nil, DOK.nil⟩, hh.se [] [0] 2 Y Y Y rfl⟩)
  replace hm := ocR hm
  refine jd [] [] Y Y Y Y Y Y Y call65 (fun w hh => kn s0 qa0 na0 ca0 qa1 na1 ca1 w (HV.callee (S0 := []) (vs0 := []) hh (roR hh 0 Y (roR hh 1 Y roN))) hna0 hqa0 hla0 hna1 hqa1 hla1 h4) (fun l_1 h7 => ?_)
  refine jH (S' := [_, _, _]) (vs' := []) [0, 1, 2] [] 0 Y Y Y Y (je Y Y (ka Y Y Y (ka Y Y Y (jl Y Y (jl Y Y (jo (jk ?_)))))))
  refine jp (je Y Y (jb Y Y Y (fun _ _ => q5 Y Y) (jo (qS Y Y (js (ja (jp ?_)))))))
  refine je Y Y ?_
  obtain ⟨t19, h8, hm⟩ := bindO hm
  refine jd [] [] Y Y Y Y Y Y Y call67 (fun w hh => K0 s0.strips s0.carried l_1.1 qa0 na0 ca0 qa1 na1 ca1 (.map (some l_1.2)) w (HV.callee (S0 := []) (vs0 := []) hh (roC (bsep (hh.bseg 0 Y)) (roR hh 0 Y (roR hh 1 Y roN)))) hna0 hqa0 hla0 hna1 hqa1 hla1 h8) (fun l_2 h9 => ?_)
  refine jH (S' := [_, _, _, _]) (vs' := []) [0, 1, 2, 3] [] 0 Y Y Y Y ?_
  refine jq (fun w => zeroValue123 w) Y (fun b_1 h10 => ?_)
  refine jB (us := #[_]) (cs' := [_]) (S' := [_, _, _, _, _]) 0 (fun w => sizeOf123 w) Y Y Y Y Y Y Y (jV (je Y Y (jb Y Y Y (fun _ _ => jE (u := #[]) (u' := #[_]) Y Y) (jb Y Y Y (fun _ _ => jA (vs := [(0, _)]) (cells := [_]) Y Y) ?_))))
  obtain ⟨t24, h11, hm⟩ := bindO hm
  rcases t24 with t24a | t24b
  ·replace hm := ocL hm
   refine jH (S' := [_, _, _, _, _]) (vs' := []) [3, 0, 1, 2, 4] [] 0 Y Y Y Y ?_
   refine jd [_] [] Y Y Y Y Y Y Y call66 (fun w hh => j2 s0.strips s0.carried t12b (fun p : Pair => yS p (fun p_1 : Pair => jI p_1 s0.strips s0.carried)) l_1.1 qa0 na0 ca0 qa1 na1 ca1 l_1.2 70 (#[]) (#[ptr b_1 0]) ([(b_1, 0, [.func (.func 122) #[] #[ptr l_2 0]])] ++ [(l_2, 0, [.func (.func 97) #[ptr l_1.1 0] #[]]), (l_1.1, 0, [.slice qa0 na0 ca0, .slice qa1 na1 ca1, .map (some l_1.2)]), (aB qa0, aO qa0, RSt.enc s0.strips), (aB qa1, aO qa1, RSp.enc s0.carried)]) w (HV.callee (S0 := [_]) (vs0 := []) hh (roA (roC (hh.bsepH 2 Y) (roR hh 0 Y (roR hh 1 Y roN))) (roA (roC (hh.bsepH 0 Y) roN) (roC (hh.bsepH 1 Y) (roC (hh.bsepH 2 Y) (roR hh 0 Y (roR hh 1 Y roN))))))) hna0 hqa0 hla0 hna1 hqa1 hla1 (⟨fun a w => call70 a w, (fun p r hr w hT => clRet (QU p (fun p_1 : Pair => jI p_1 s0.strips s0.carried) b_1 122 (#[]) (#[ptr l_2 0]) ([(l_2, 0, [.func (.func 97) #[ptr l_1.1 0] #[]]), (l_1.1, 0, [.slice qa0 na0 ca0, .slice qa1 na1 ca1, .map (some l_1.2)]), (aB qa0, aO qa0, RSt.enc s0.strips), (aB qa1, aO qa1, RSp.enc s0.carried)]) w (HVstart hT) (⟨fun a w => call122 a w, (fun p_1 r hr w hT => clRet (zy p_1 s0.strips s0.carried l_2 l_1.1 qa0 na0 ca0 qa1 na1 ca1 (.map (some l_1.2)) w (HVstart hT) hna0 hqa0 hla0 hna1 hqa1 hla1 hr))⟩ : ClOK Try.prog 122 #[] #[ptr l_2 0] ([(l_2, 0, [.func (.func 97) #[ptr l_1.1 0] #[]]), (l_1.1, 0, [.slice qa0 na0 ca0, .slice qa1 na1 ca1, .map (some l_1.2)]), (aB qa0, aO qa0, RSt.enc s0.strips), (aB qa1, aO qa1, RSp.enc s0.carried)]) (fun x : Pair => [.agg #[.int .i64 x.tenant, .int .i64 x.strip]]) (fun x : Int => .int .i64 x) (fun p_1 : Pair => jI p_1 s0.strips s0.carried)) hr))⟩ : ClOK Try.prog 70 #[] #[ptr b_1 0] ([(b_1, 0, [.func (.func 122) #[] #[ptr l_2 0]])] ++ [(l_2, 0, [.func (.func 97) #[ptr l_1.1 0] #[]]), (l_1.1, 0, [.slice qa0 na0 ca0, .slice qa1 na1 ca1, .map (some l_1.2)]), (aB qa0, aO qa0, RSt.enc s0.strips), (aB qa1, aO qa1, RSp.enc s0.carried)]) (fun x : Pair => [.agg #[.int .i64 x.tenant, .int .i64 x.strip]]) (fun x : Int => .int .i64 x) (fun p : Pair => yS p (fun p_1 : Pair => jI p_1 s0.strips s0.carried))) h11) (fun l_3 h12 => ?_)
   have h13 := h12
   refine jH (S' := [_, _, _, _, _]) (vs' := [_]) [0, 1, 2, 3, 4] [0] 0 Y Y Y Y (je Y Y (ka Y Y Y (ka Y Y Y ?_)))
   refine jq (fun w => zeroValue61 w) Y (fun b_2 h14 => ?_)
   refine jl Y Y (jB (us := #[_, _]) (cs' := [_, _]) (S' := [_, _, _, _, _, _]) 0 (fun w => sizeOf61 w) Y Y Y Y Y Y Y (jo (jk (jp (je Y Y (jb Y Y Y (fun w _ => Jz (runUnderlying118 w) Y Y) (jo ?_)))))))
   refine y8 Y Y (jp (jb Y Y Y (fun _ _ => qf Y) (jl Y Y (jl Y Y (jo (ju (jf ?_)))))))
   refine kG 32 ?_
   obtain rfl := sj hm
   refine jm Y (fun w hh => (.tmp Y (.tmp Y (.tmp Y .nil)))) (fun w hh => ⟨⟨⟨none, 0, 0, []⟩, []⟩, rfl, ⟨VOK.nil, DOK.nil⟩, hh.se [] [0] 2 Y Y Y rfl⟩)
  replace hm := ocR hm
  refine jH (S' := [_, _, _, _, _]) (vs' := []) [3, 0, 1, 2, 4] [] 0 Y Y Y Y ?_
  refine jd [_] [] Y Y Y Y Y Y Y call66 (fun w hh => j2 s0.strips s0.carried t12b (fun p : Pair => yS p (fun p_1 : Pair => jI p_1 s0.strips s0.carried)) l_1.1 qa0 na0 ca0 qa1 na1 ca1 l_1.2 70 (#[]) (#[ptr b_1 0]) ([(b_1, 0, [.func (.func 122) #[] #[ptr l_2 0]])] ++ [(l_2, 0, [.func (.func 97) #[ptr l_1.1 0] #[]]), (l_1.1, 0, [.slice qa0 na0 ca0, .slice qa1 na1 ca1, .map (some l_1.2)]), (aB qa0, aO qa0, RSt.enc s0.strips), (aB qa1, aO qa1, RSp.enc s0.carried)]) w (HV.callee (S0 := [_]) (vs0 := []) hh (roA (roC (hh.bsepH 2 Y) (roR hh 0 Y (roR hh 1 Y roN))) (roA (roC (hh.bsepH 0 Y) roN) (roC (hh.bsepH 1 Y) (roC (hh.bsepH 2 Y) (roR hh 0 Y (roR hh 1 Y roN))))))) hna0 hqa0 hla0 hna1 hqa1 hla1 (⟨fun a w => call70 a w, (fun p r hr w hT => clRet (QU p (fun p_1 : Pair => jI p_1 s0.strips s0.carried) b_1 122 (#[]) (#[ptr l_2 0]) ([(l_2, 0, [.func (.func 97) #[ptr l_1.1 0] #[]]), (l_1.1, 0, [.slice qa0 na0 ca0, .slice qa1 na1 ca1, .map (some l_1.2)]), (aB qa0, aO qa0, RSt.enc s0.strips), (aB qa1, aO qa1, RSp.enc s0.carried)]) w (HVstart hT) (⟨fun a w => call122 a w, (fun p_1 r hr w hT => clRet (zy p_1 s0.strips s0.carried l_2 l_1.1 qa0 na0 ca0 qa1 na1 ca1 (.map (some l_1.2)) w (HVstart hT) hna0 hqa0 hla0 hna1 hqa1 hla1 hr))⟩ : ClOK Try.prog 122 #[] #[ptr l_2 0] ([(l_2, 0, [.func (.func 97) #[ptr l_1.1 0] #[]]), (l_1.1, 0, [.slice qa0 na0 ca0, .slice qa1 na1 ca1, .map (some l_1.2)]), (aB qa0, aO qa0, RSt.enc s0.strips), (aB qa1, aO qa1, RSp.enc s0.carried)]) (fun x : Pair => [.agg #[.int .i64 x.tenant, .int .i64 x.strip]]) (fun x : Int => .int .i64 x) (fun p_1 : Pair => jI p_1 s0.strips s0.carried)) hr))⟩ : ClOK Try.prog 70 #[] #[ptr b_1 0] ([(b_1, 0, [.func (.func 122) #[] #[ptr l_2 0]])] ++ [(l_2, 0, [.func (.func 97) #[ptr l_1.1 0] #[]]), (l_1.1, 0, [.slice qa0 na0 ca0, .slice qa1 na1 ca1, .map (some l_1.2)]), (aB qa0, aO qa0, RSt.enc s0.strips), (aB qa1, aO qa1, RSp.enc s0.carried)]) (fun x : Pair => [.agg #[.int .i64 x.tenant, .int .i64 x.strip]]) (fun x : Int => .int .i64 x) (fun p : Pair => yS p (fun p_1 : Pair => jI p_1 s0.strips s0.carried))) h11) (fun l_4 h15 => ?_)
  obtain ⟨h16, h17⟩ := h15
  refine jH (S' := [_, _, _, _, _, _]) (vs' := [_, _]) [0, 1, 2, 3, 4, 5] [0, 1] 0 Y Y Y Y (je Y Y (ka Y Y Y (ka Y Y Y ?_)))
  refine jq (fun w => zeroValue61 w) Y (fun b_3 h18 => ?_)
  refine jl Y Y (jB (us := #[_, _]) (cs' := [_, _]) (S' := [_, _, _, _, _, _, _]) 0 (fun w => sizeOf61 w) Y Y Y Y Y Y Y (jo (jk (jp (je Y Y (jb Y Y Y (fun w _ => Jz (runUnderlying118 w) Y Y) (jo ?_)))))))
  refine qS Y Y (js (ja (jp (je Y Y (je Y Y ?_)))))
  obtain ⟨t31, h19, hm⟩ := bindO hm
  refine jd [] [] Y Y Y Y Y Y Y call68 (fun w hh => QD t24b.t12 s0.strips s0.carried l_4.1 (qA l_4.2.2.q) l_4.2.2.n l_4.2.2.cap l_1.1 qa0 na0 ca0 qa1 na1 ca1 (.map (some l_1.2)) w (HV.callee (S0 := []) (vs0 := []) hh (roC (bsep (hh.bseg 2 Y)) (roC (hh.vsepA 1 Y h17) (roC (bsep (hh.bseg 5 Y)) (roR hh 0 Y (roR hh 1 Y roN)))))) (vlen RWay h17 Y) (AOK.q (vne h17)) (h17).hle hna0 hqa0 hla0 hna1 hqa1 hla1 h19) (fun l_5 h20 => ?_)
  obtain ⟨h21, h22⟩ := h20
  refine jH (S' := [_, _, _, _, _, _, _]) (vs' := [_, _, _]) [0, 1, 2, 3, 4, 5, 6] [0, 1, 2] 0 Y Y Y Y (je Y Y ?_)
  obtain ⟨t33, h23, hm⟩ := bindO hm
  refine jd [] [] Y Y Y Y Y Y Y call69 (fun w hh => KB t24b.t12 l_4.1 (qA l_4.2.2.q) l_4.2.2.n l_4.2.2.cap w (HV.callee (S0 := []) (vs0 := []) hh (roC (bsep (hh.bseg 2 Y)) (roC (hh.vsepA 2 Y h17) roN))) (vlen RWay h17 Y) (AOK.q (vne h17)) (h17).hle h23) (fun l_6 h24 => ?_)
  obtain ⟨t34, h25, hm⟩ := bindO hm
  refine jb Y Y Y (fun _ _ => Yq h25 Y) (jl Y Y (jl Y Y (jl Y Y (jo (ju ?_)))))
  obtain rfl := sj hm
  refine jm Y (fun w hh => (.tmp Y (.tmp Y (.tmp Y .nil)))) (fun w hh => ⟨l_5, rfl, ⟨h21, h22⟩, hh.se [] [0] 2 Y Y Y rfl⟩)
def Qh (holds0_c0 : Int) (holds0_c10 : (List Strip)) (holds0_c11 : (List Span)) : Option Unit :=
 some ()
theorem QV (holds0_c0 : Int) (holds0_c10 : (List Strip)) (holds0_c11 : (List Span)) (rb : Nat) (rb_1 : Nat) (rb_2 : Nat) (qa3 : Option Addr) (na3 ca3 : Nat) (qa4 : Option Addr) (na4 ca4 : Nat) (mv : Value) (w : World) (hw : HV w (keys [] []) [] [] [(rb, 0, [.int .i64 holds0_c0]), (rb_1, 0, [ptr rb_2 0]), (rb_2, 0, [.slice qa3 na3 ca3, .slice qa4 na4 ca4, mv]), (aB qa3, aO qa3, RSt.enc holds0_c10), (aB qa4, aO qa4, RSp.enc holds0_c11)] w)    (hna3 : holds0_c10.length = na3) (hqa3 : AOK na3 qa3) (hla3 : na3 ≤ ca3) (hna4 : holds0_c11.length = na4) (hqa4 : AOK na4 qa4) (hla4 : na4 ≤ ca4) {res : Unit} (hm : Qh holds0_c0 holds0_c10 holds0_c11 = some res) :
    Calls Try.prog 73 #[.func (.func 102) #[] #[ptr rb 0, ptr rb_1 0]] w (fun en w' => ∃ l : Nat, en = .returned (.agg #[.func (.func 122) #[] #[ptr l 0]]) ∧ (True) ∧ HV w (keys [] []) [kc l #[.func (.func 102) #[] #[ptr rb 0, ptr rb_1 0]] 131] [] [] w') := by
  unfold Qh at hm
  refine kl func73 Y ntmps73 Y (e := [(0, _)]) Y hw (jp ?_)
  refine jF Y Y (fun b h1 => ?_)
  refine jq (fun w => zeroValue123 w) Y (fun b_1 h2 => ?_)
  refine jV (jb Y Y Y (fun _ _ => jE (u := #[]) (u' := #[_]) Y Y) (jb Y Y Y (fun _ _ => jA (vs := [(0, _)]) (cells := [_]) Y Y) (jB (us := #[_]) (cs' := [_]) (S' := [_, _]) 0 (fun w => sizeOf123 w) Y Y Y Y Y Y Y (jo (ju ?_)))))
  obtain rfl := sj hm
  refine jm Y (fun w hh => (.cell Y (loadVar_agg (vs := [_]) (isAgg123 _) (sizeOf123 _) (hh.cells 0 Y Y)) .nil)) (fun w hh => ⟨b, rfl, trivial, hh.se [1] [] 5 Y Y Y rfl⟩)
def JG (p0 : Pair) (a11 : Int) (a220 : (List Strip)) (a221 : (List Span)) : Option Bool :=
 (if p0.tenant = a11 then
 ((Je a220 a221 p0).bind fun t12 =>
 some t12) else
 (some false)).bind fun o =>
 some o
theorem QO (p0 : Pair) (a11 : Int) (a220 : (List Strip)) (a221 : (List Span)) (rb : Nat) (rb_1 : Nat) (rb_2 : Nat) (qa3 : Option Addr) (na3 ca3 : Nat) (qa4 : Option Addr) (na4 ca4 : Nat) (mv : Value) (w : World) (hw : HV w (keys [] []) [] [] [(rb, 0, [.int .i64 a11]), (rb_1, 0, [ptr rb_2 0]), (rb_2, 0, [.slice qa3 na3 ca3, .slice qa4 na4 ca4, mv]), (aB qa3, aO qa3, RSt.enc a220), (aB qa4, aO qa4, RSp.enc a221)] w)    (hna3 : a220.length = na3) (hqa3 : AOK na3 qa3) (hla3 : na3 ≤ ca3) (hna4 : a221.length = na4) (hqa4 : AOK na4 qa4) (hla4 : na4 ≤ ca4) {res : Bool} (hm : JG p0 a11 a220 a221 = some res) :
    Calls Try.prog 102 #[.agg #[.int .i64 p0.tenant, .int .i64 p0.strip], ptr rb 0, ptr rb_1 0] w (fun en w' => ∃ l : Unit, en = .returned (.bool res) ∧ (True) ∧ HV w (keys [] []) [] [] [] w') := by
  unfold JG at hm
  refine kl func102 Y ntmps102 Y (e := [(0, _), (1, _), (2, _)]) Y hw (jp ?_)
  refine jF Y Y (fun b h1 => ?_)
  refine jl Y Y (jo (jk ?_))
  obtain ⟨o, h2, h3⟩ := bindO hm
  refine jM (ι := Unit) (fun l => True) (fun l => [(4, .bool o)]) (fun l => [kc b #[.int .i64 p0.tenant, .int .i64 p0.strip] 128]) (fun l => []) ?_ ?_
  ·replace hm := h2
   refine jh (j7 0 runUnderlying128 Y sizeOf3 Y Y (kx 0 isAgg3 Y Y Y Y (jb Y Y Y (fun w hh => jQ (isAgg3 w) Y (segCell (hh.seg 0 Y) 0 Y)) (jb Y Y Y (fun _ _ => JT Y Y) (je Y Y ?_)))))
   refine jZ 9 Y (fun h4 => ?_) (fun h4 => ?_)
   ·replace hm := ifD h4 hm
    refine jc Y Y (jb Y Y Y (fun w hh => jQ (isAgg115 w) Y (segCell (hh.seg 1 Y) 0 Y)) (jc Y Y (qX [_, _] 0 isAgg128 sizeOf128 Y Y Y Y (jc Y Y ?_))))
    obtain ⟨t12, h5, hm⟩ := bindO hm
    refine jd [] [] Y Y Y Y Y Y Y call97 (fun w hh => QT a220 a221 p0 rb_2 qa3 na3 ca3 qa4 na4 ca4 mv w (HV.callee (S0 := []) (vs0 := []) hh (roR hh 2 Y (roR hh 3 Y (roR hh 4 Y roN)))) hna3 hqa3 hla3 hna4 hqa4 hla4 h5) (fun l_1 h6 => ?_)
    refine qO Y Y Y (jl Y Y (jx ?_))
    obtain rfl := sj hm
    exact jn () (trivial) (sE Y) (fun w hh => hh)
   replace hm := ifE h4 hm
   refine g_k Y Y Y Y (g_k Y Y Y Y (g_k Y Y Y Y (yW Y Y Y (jl Y Y (jx ?_)))))
   obtain rfl := sj hm
   exact jn () (trivial) (sE Y) (fun w hh => hh)
  intro l hj
  replace hm := h3
  refine ja (ju ?_)
  obtain rfl := sj hm
  refine jm Y (fun w hh => (.tmp Y .nil)) (fun w hh => ⟨(), rfl, trivial, hh.se [] [] 5 Y Y Y rfl⟩)
def kQ (p0 : Pair) (a11_c0 : Int) (a11_c10 : (List Strip)) (a11_c11 : (List Span)) : Option Int :=
 (JG p0 a11_c0 a11_c10 a11_c11).bind fun t6 =>
 if t6 = true then
 (some 1) else
 (some 0)
theorem Kt (p0 : Pair) (a11_c0 : Int) (a11_c10 : (List Strip)) (a11_c11 : (List Span)) (rb : Nat) (rb_1 : Nat) (rb_2 : Nat) (rb_3 : Nat) (qa4 : Option Addr) (na4 ca4 : Nat) (qa5 : Option Addr) (na5 ca5 : Nat) (mv : Value) (w : World) (hw : HV w (keys [] []) [] [] [(rb, 0, [.func (.func 102) #[] #[ptr rb_1 0, ptr rb_2 0]]), (rb_1, 0, [.int .i64 a11_c0]), (rb_2, 0, [ptr rb_3 0]), (rb_3, 0, [.slice qa4 na4 ca4, .slice qa5 na5 ca5, mv]), (aB qa4, aO qa4, RSt.enc a11_c10), (aB qa5, aO qa5, RSp.enc a11_c11)] w)     (hna4 : a11_c10.length = na4) (hqa4 : AOK na4 qa4) (hla4 : na4 ≤ ca4) (hna5 : a11_c11.length = na5) (hqa5 : AOK na5 qa5) (hla5 : na5 ≤ ca5) {res : Int} (hm : kQ p0 a11_c0 a11_c10 a11_c11 = some res) :
    Calls Try.prog 122 #[.agg #[.int .i64 p0.tenant, .int .i64 p0.strip], ptr rb 0] w (fun en w' => ∃ l : Unit, en = .returned (.int .i64 res) ∧ (True) ∧ HV w (keys [] []) [] [] [] w') := by
  unfold kQ at hm
  refine kl func122 Y ntmps122 Y (e := [(0, _), (1, _)]) Y hw (jp ?_)
  refine jF Y Y (fun b h1 => ?_)
  refine jl Y Y (jo (jk (jp (jb Y Y Y (fun w hh => jQ (isAgg131 w) Y (segCell (hh.seg 0 Y) 0 Y)) (qX [_, _] 0 isAgg128 sizeOf128 Y Y Y Y ?_)))))
  obtain ⟨t6, h2, hm⟩ := bindO hm
  refine jd [] [] Y Y Y Y Y Y Y call102 (fun w hh => QO p0 a11_c0 a11_c10 a11_c11 rb_1 rb_2 rb_3 qa4 na4 ca4 qa5 na5 ca5 mv w (HV.callee (S0 := []) (vs0 := []) hh (roR hh 1 Y (roR hh 2 Y (roR hh 3 Y (roR hh 4 Y (roR hh 5 Y roN)))))) hna4 hqa4 hla4 hna5 hqa5 hla5 h2) (fun l h3 => ?_)
  refine jo ?_
  refine jr Y (fun h4 => ?_) (fun h4 => ?_)
  ·replace hm := ifT (h4) hm
   refine jp (jl Y Y (jo (ju (jf ?_))))
   obtain rfl := sj hm
   refine jm Y (fun w hh => (.tmp Y .nil)) (fun w hh => ⟨(), rfl, trivial, hh.se [] [] 6 Y Y Y rfl⟩)
  replace hm := ifN h4 hm
  refine js (ja (jp (jl Y Y (jo (ju ?_)))))
  obtain rfl := sj hm
  refine jm Y (fun w hh => (.tmp Y .nil)) (fun w hh => ⟨(), rfl, trivial, hh.se [] [] 6 Y Y Y rfl⟩)
def jO (p0 : Pair) (a110 : (Pair → Option Int)) : Option Int :=
 (a110 p0).bind fun t7 =>
 (negc t7).bind fun t8 =>
 some t8
theorem zj (p0 : Pair) (a110 : (Pair → Option Int)) (rb : Nat) (f_a110 : FuncId) (fs_a110 cs_a110 : Array Value) (T_a110 : List Sg) (w : World) (hw : HV w (keys [] []) [] [] ([(rb, 0, [.func (.func f_a110) fs_a110 cs_a110])] ++ T_a110) w)  (hcl_a110 : ClOK Try.prog f_a110 fs_a110 cs_a110 T_a110 (fun x : Pair => [.agg #[.int .i64 x.tenant, .int .i64 x.strip]]) (fun x : Int => .int .i64 x) a110) {res : Int} (hm : jO p0 a110 = some res) :
    Calls Try.prog 121 #[.agg #[.int .i64 p0.tenant, .int .i64 p0.strip], ptr rb 0] w (fun en w' => ∃ l : Unit, en = .returned (.int .i64 res) ∧ (True) ∧ HV w (keys [] []) [] [] [] w') := by
  unfold jO at hm
  refine kl func121 Y ntmps121 Y (e := [(0, _), (1, _)]) Y hw (jp ?_)
  refine jF Y Y (fun b h1 => ?_)
  refine jl Y Y (jV (j7 0 runUnderlying123 Y sizeOf121 Y Y (jb Y Y Y (fun w hh => jQ (isAgg121 w) Y (segCell (hh.seg 0 Y) 0 Y)) (qX [_, _] 0 isAgg128 sizeOf128 Y Y Y Y ?_))))
  obtain ⟨t7, h2, hm⟩ := bindO hm
  refine Q5 hcl_a110 (fun t ht => (List.mem_cons_of_mem _ ht)) h2 Y Y Y Y Y Y ?_
  obtain ⟨t8, h3, hm⟩ := bindO hm
  refine jb Y Y Y (fun _ _ => Yq h3 Y) (jl Y Y (jo (ju ?_)))
  obtain rfl := sj hm
  refine jm Y (fun w hh => (.tmp Y .nil)) (fun w hh => ⟨(), rfl, trivial, hh.selN [] [] (by decide) (by decide) Y rfl⟩)
structure q6 where
  r0 : Span
  r1 : Int
def qr (d00 : (List Strip)) (d01 : (List Span)) (d02 : (List (Pair × Bool))) (c1_0 : (Pair → Option Int)) : Option q6 :=
 (jW d00 d01 d02 c1_0).bind fun t13 =>
 oc t13 (fun t13a => (jW d00 d01 d02 (fun p : Pair => jO p c1_0)).bind fun t20 =>
 oc t20 (fun t20a => some (⟨(⟨0, 0⟩ : Span), 7⟩ : q6)) (fun t20b => some (⟨(⟨0, 0⟩ : Span), 7⟩ : q6))) (fun t13b => (jW d00 d01 d02 (fun p_1 : Pair => jO p_1 c1_0)).bind fun t20_1 =>
 oc t20_1 (fun t20_1a => (yE t13b.t12).bind fun t27 =>
 none) (fun t20_1b => (yE t13b.t12).bind fun t27_1 =>
 (yE t20_1b.t12).bind fun t29 =>
 (negc t29).bind fun t30 =>
 some (⟨(⟨t27_1, t30⟩ : Span), 0⟩ : q6)))
theorem z6 (d00 : (List Strip)) (d01 : (List Span)) (d02 : (List (Pair × Bool))) (c1_0 : (Pair → Option Int)) (rb : Nat) (qa1 : Option Addr) (na1 ca1 : Nat) (qa2 : Option Addr) (na2 ca2 : Nat) (pb : Nat) (f_c1_0 : FuncId) (fs_c1_0 cs_c1_0 : Array Value) (T_c1_0 : List Sg) (w : World) (hw : HV w (keys [(pb, gobj (kR RPr) kB d02)] []) [(pb, gobj (kR RPr) kB d02)] [] ([(rb, 0, [.slice qa1 na1 ca1, .slice qa2 na2 ca2, .map (some pb)]), (aB qa1, aO qa1, RSt.enc d00), (aB qa2, aO qa2, RSp.enc d01)] ++ T_c1_0) w)  (hna1 : d00.length = na1) (hqa1 : AOK na1 qa1) (hla1 : na1 ≤ ca1) (hna2 : d01.length = na2) (hqa2 : AOK na2 qa2) (hla2 : na2 ≤ ca2) (hcl_c1_0 : ClOK Try.prog f_c1_0 fs_c1_0 cs_c1_0 T_c1_0 (fun x : Pair => [.agg #[.int .i64 x.tenant, .int .i64 x.strip]]) (fun x : Int => .int .i64 x) c1_0) {res : q6} (hm : qr d00 d01 d02 c1_0 = some res) :
    Calls Try.prog 72 #[ptr rb 0, .agg #[.func (.func f_c1_0) fs_c1_0 cs_c1_0]] w (fun en w' => ∃ l : Unit, en = .returned (.tuple #[.agg #[.int .i64 res.r0.lo, .int .i64 res.r0.hi], .int .i64 res.r1]) ∧ (True) ∧ HV w (keys [(pb, gobj (kR RPr) kB d02)] []) [(pb, gobj (kR RPr) kB d02)] [] [] w') := by
  unfold qr at hm
  refine kl func72 Y ntmps72 Y (e := [(0, _), (1, _)]) Y hw (jp ?_)
  refine jF Y Y (fun b h1 => ?_)
  refine jq (fun w => zeroValue37 w) Y (fun b_1 h2 => ?_)
  refine jl Y Y (jV (je Y Y (qX [_] 1 isAgg123 sizeOf123 Y Y Y Y ?_)))
  obtain ⟨t13, h3, hm⟩ := bindO hm
  rcases t13 with t13a | t13b
  ·replace hm := ocL hm
   refine jH (S' := [_, _, _]) (vs' := []) [2, 0, 1] [] 0 Y Y Y Y ?_
   refine jd [_] [] Y Y Y Y Y Y Y call66 (fun w hh => j2 d00 d01 d02 c1_0 rb qa1 na1 ca1 qa2 na2 ca2 pb f_c1_0 fs_c1_0 cs_c1_0 T_c1_0 w (HV.callee (S0 := [_]) (vs0 := []) hh (roA (roR hh 0 Y (roR hh 1 Y (roR hh 2 Y roN))) (hh.rsepT (fun t ht => (List.mem_cons_of_mem _ (List.mem_cons_of_mem _ (List.mem_cons_of_mem _ ht))))))) hna1 hqa1 hla1 hna2 hqa2 hla2 hcl_c1_0 h3) (fun l h4 => ?_)
   have h5 := h4
   refine jH (S' := [_, _, _]) (vs' := [_]) [0, 1, 2] [0] 0 Y Y Y Y (je Y Y (ka Y Y Y (ka Y Y Y ?_)))
   refine jq (fun w => zeroValue61 w) Y (fun b_2 h6 => ?_)
   refine jl Y Y (jB (us := #[_, _]) (cs' := [_, _]) (S' := [_, _, _, _]) 0 (fun w => sizeOf61 w) Y Y Y Y Y Y Y (jV (je Y Y (jb Y Y Y (fun _ _ => jE (u := #[]) (u' := #[_]) Y Y) (jb Y Y Y (fun _ _ => jA (vs := [(0, _)]) (cells := [_]) Y Y) ?_)))))
   obtain ⟨t20, h7, hm⟩ := bindO hm
   rcases t20 with t20a | t20b
   ·replace hm := ocL hm
    refine jH (S' := [_, _, _, _]) (vs' := [_]) [1, 0, 2, 3] [0] 0 Y Y Y Y ?_
    refine jd [_] [] Y Y Y Y Y Y Y call66 (fun w hh => j2 d00 d01 d02 (fun p : Pair => jO p c1_0) rb qa1 na1 ca1 qa2 na2 ca2 pb 121 (#[]) (#[ptr b 0]) ([(b, 0, [.func (.func f_c1_0) fs_c1_0 cs_c1_0])] ++ T_c1_0) w (HV.callee (S0 := [_]) (vs0 := []) hh (roA (roR hh 0 Y (roR hh 1 Y (roR hh 2 Y roN))) (roA (roC (hh.bsepH 2 Y) roN) (hh.rsepT (fun t ht => (List.mem_cons_of_mem _ (List.mem_cons_of_mem _ (List.mem_cons_of_mem _ ht)))))))) hna1 hqa1 hla1 hna2 hqa2 hla2 (⟨fun a w => call121 a w, (fun p r hr w hT => clRet (zj p c1_0 b f_c1_0 fs_c1_0 cs_c1_0 T_c1_0 w (HVstart hT) hcl_c1_0 hr))⟩ : ClOK Try.prog 121 #[] #[ptr b 0] ([(b, 0, [.func (.func f_c1_0) fs_c1_0 cs_c1_0])] ++ T_c1_0) (fun x : Pair => [.agg #[.int .i64 x.tenant, .int .i64 x.strip]]) (fun x : Int => .int .i64 x) (fun p : Pair => jO p c1_0)) h7) (fun l_1 h8 => ?_)
    have h9 := h8
    refine jH (S' := [_, _, _, _]) (vs' := [_, _]) [0, 1, 2, 3] [0, 1] 0 Y Y Y Y (je Y Y (ka Y Y Y (ka Y Y Y ?_)))
    refine jq (fun w => zeroValue61 w) Y (fun b_3 h10 => ?_)
    refine jl Y Y (jB (us := #[_, _]) (cs' := [_, _]) (S' := [_, _, _, _, _]) 0 (fun w => sizeOf61 w) Y Y Y Y Y Y Y (jo (jk (jp (je Y Y (jb Y Y Y (fun w _ => Jz (runUnderlying118 w) Y Y) (jo ?_)))))))
    refine y8 Y Y (jp (jb Y Y Y (fun _ _ => jA (vs := []) (cells := [_, _]) Y Y) (jB (us := #[_, _]) (cs' := [_, _]) (S' := [_, _, _, _, _]) 3 (fun w => sizeOf37 w) Y Y Y Y Y Y Y (jl Y Y (jo (ju (jf ?_)))))))
    obtain rfl := sj hm
    refine jm Y (fun w hh => (.cell Y (loadVar_agg (vs := [_, _]) (isAgg37 _) (sizeOf37 _) (hh.cells 3 Y Y)) (.tmp Y .nil))) (fun w hh => ⟨(), rfl, trivial, hh.selN [1] [] (by decide) (by decide) Y rfl⟩)
   replace hm := ocR hm
   refine jH (S' := [_, _, _, _]) (vs' := [_]) [1, 0, 2, 3] [0] 0 Y Y Y Y ?_
   refine jd [_] [] Y Y Y Y Y Y Y call66 (fun w hh => j2 d00 d01 d02 (fun p : Pair => jO p c1_0) rb qa1 na1 ca1 qa2 na2 ca2 pb 121 (#[]) (#[ptr b 0]) ([(b, 0, [.func (.func f_c1_0) fs_c1_0 cs_c1_0])] ++ T_c1_0) w (HV.callee (S0 := [_]) (vs0 := []) hh (roA (roR hh 0 Y (roR hh 1 Y (roR hh 2 Y roN))) (roA (roC (hh.bsepH 2 Y) roN) (hh.rsepT (fun t ht => (List.mem_cons_of_mem _ (List.mem_cons_of_mem _ (List.mem_cons_of_mem _ ht)))))))) hna1 hqa1 hla1 hna2 hqa2 hla2 (⟨fun a w => call121 a w, (fun p r hr w hT => clRet (zj p c1_0 b f_c1_0 fs_c1_0 cs_c1_0 T_c1_0 w (HVstart hT) hcl_c1_0 hr))⟩ : ClOK Try.prog 121 #[] #[ptr b 0] ([(b, 0, [.func (.func f_c1_0) fs_c1_0 cs_c1_0])] ++ T_c1_0) (fun x : Pair => [.agg #[.int .i64 x.tenant, .int .i64 x.strip]]) (fun x : Int => .int .i64 x) (fun p : Pair => jO p c1_0)) h7) (fun l_2 h11 => ?_)
   obtain ⟨h12, h13⟩ := h11
   refine jH (S' := [_, _, _, _, _]) (vs' := [_, _, _]) [0, 1, 2, 3, 4] [0, 1, 2] 0 Y Y Y Y (je Y Y (ka Y Y Y (ka Y Y Y ?_)))
   refine jq (fun w => zeroValue61 w) Y (fun b_4 h14 => ?_)
   refine jl Y Y (jB (us := #[_, _]) (cs' := [_, _]) (S' := [_, _, _, _, _, _]) 0 (fun w => sizeOf61 w) Y Y Y Y Y Y Y (jo (jk (jp (je Y Y (jb Y Y Y (fun w _ => Jz (runUnderlying118 w) Y Y) (jo ?_)))))))
   refine y8 Y Y (jp (jb Y Y Y (fun _ _ => jA (vs := []) (cells := [_, _]) Y Y) (jB (us := #[_, _]) (cs' := [_, _]) (S' := [_, _, _, _, _, _]) 4 (fun w => sizeOf37 w) Y Y Y Y Y Y Y (jl Y Y (jo (ju (jf ?_)))))))
   obtain rfl := sj hm
   refine jm Y (fun w hh => (.cell Y (loadVar_agg (vs := [_, _]) (isAgg37 _) (sizeOf37 _) (hh.cells 4 Y Y)) (.tmp Y .nil))) (fun w hh => ⟨(), rfl, trivial, hh.selN [1] [] (by decide) (by decide) Y rfl⟩)
  replace hm := ocR hm
  refine jH (S' := [_, _, _]) (vs' := []) [2, 0, 1] [] 0 Y Y Y Y ?_
  refine jd [_] [] Y Y Y Y Y Y Y call66 (fun w hh => j2 d00 d01 d02 c1_0 rb qa1 na1 ca1 qa2 na2 ca2 pb f_c1_0 fs_c1_0 cs_c1_0 T_c1_0 w (HV.callee (S0 := [_]) (vs0 := []) hh (roA (roR hh 0 Y (roR hh 1 Y (roR hh 2 Y roN))) (hh.rsepT (fun t ht => (List.mem_cons_of_mem _ (List.mem_cons_of_mem _ (List.mem_cons_of_mem _ ht))))))) hna1 hqa1 hla1 hna2 hqa2 hla2 hcl_c1_0 h3) (fun l_3 h15 => ?_)
  obtain ⟨h16, h17⟩ := h15
  refine jH (S' := [_, _, _, _]) (vs' := [_, _]) [0, 1, 2, 3] [0, 1] 0 Y Y Y Y (je Y Y (ka Y Y Y (ka Y Y Y ?_)))
  refine jq (fun w => zeroValue61 w) Y (fun b_5 h18 => ?_)
  refine jl Y Y (jB (us := #[_, _]) (cs' := [_, _]) (S' := [_, _, _, _, _]) 0 (fun w => sizeOf61 w) Y Y Y Y Y Y Y (jV (je Y Y (jb Y Y Y (fun _ _ => jE (u := #[]) (u' := #[_]) Y Y) (jb Y Y Y (fun _ _ => jA (vs := [(0, _)]) (cells := [_]) Y Y) ?_)))))
  obtain ⟨t20_1, h19, hm⟩ := bindO hm
  rcases t20_1 with t20_1a | t20_1b
  ·replace hm := ocL hm
   refine jH (S' := [_, _, _, _, _]) (vs' := [_, _]) [1, 0, 2, 3, 4] [0, 1] 0 Y Y Y Y ?_
   refine jd [_] [] Y Y Y Y Y Y Y call66 (fun w hh => j2 d00 d01 d02 (fun p_1 : Pair => jO p_1 c1_0) rb qa1 na1 ca1 qa2 na2 ca2 pb 121 (#[]) (#[ptr b 0]) ([(b, 0, [.func (.func f_c1_0) fs_c1_0 cs_c1_0])] ++ T_c1_0) w (HV.callee (S0 := [_]) (vs0 := []) hh (roA (roR hh 0 Y (roR hh 1 Y (roR hh 2 Y roN))) (roA (roC (hh.bsepH 3 Y) roN) (hh.rsepT (fun t ht => (List.mem_cons_of_mem _ (List.mem_cons_of_mem _ (List.mem_cons_of_mem _ ht)))))))) hna1 hqa1 hla1 hna2 hqa2 hla2 (⟨fun a w => call121 a w, (fun p_1 r hr w hT => clRet (zj p_1 c1_0 b f_c1_0 fs_c1_0 cs_c1_0 T_c1_0 w (HVstart hT) hcl_c1_0 hr))⟩ : ClOK Try.prog 121 #[] #[ptr b 0] ([(b, 0, [.func (.func f_c1_0) fs_c1_0 cs_c1_0])] ++ T_c1_0) (fun x : Pair => [.agg #[.int .i64 x.tenant, .int .i64 x.strip]]) (fun x : Int => .int .i64 x) (fun p_1 : Pair => jO p_1 c1_0)) h19) (fun l_4 h20 => ?_)
   have h21 := h20
   refine jH (S' := [_, _, _, _, _]) (vs' := [_, _, _]) [0, 1, 2, 3, 4] [0, 1, 2] 0 Y Y Y Y (je Y Y (ka Y Y Y (ka Y Y Y ?_)))
   refine jq (fun w => zeroValue61 w) Y (fun b_6 h22 => ?_)
   refine jl Y Y (jB (us := #[_, _]) (cs' := [_, _]) (S' := [_, _, _, _, _, _]) 0 (fun w => sizeOf61 w) Y Y Y Y Y Y Y (jo (jk (jp (je Y Y (jb Y Y Y (fun w _ => Jz (runUnderlying118 w) Y Y) (jo ?_)))))))
   refine qS Y Y (js (ja (jp (je Y Y ?_))))
   obtain ⟨t27, h23, hm⟩ := bindO hm
   refine jd [] [] Y Y Y Y Y Y Y call69 (fun w hh => KB t13b.t12 l_3.1 (qA l_3.2.2.q) l_3.2.2.n l_3.2.2.cap w (HV.callee (S0 := []) (vs0 := []) hh (roC (bsep (hh.bseg 3 Y)) (roC (hh.vsepA 2 Y h17) roN))) (vlen RWay h17 Y) (AOK.q (vne h17)) (h17).hle h23) (fun l_5 h24 => ?_)
   refine je Y Y ?_
   exact absurd hm (by simp)
  replace hm := ocR hm
  refine jH (S' := [_, _, _, _, _]) (vs' := [_, _]) [1, 0, 2, 3, 4] [0, 1] 0 Y Y Y Y ?_
  refine jd [_] [] Y Y Y Y Y Y Y call66 (fun w hh => j2 d00 d01 d02 (fun p_1 : Pair => jO p_1 c1_0) rb qa1 na1 ca1 qa2 na2 ca2 pb 121 (#[]) (#[ptr b 0]) ([(b, 0, [.func (.func f_c1_0) fs_c1_0 cs_c1_0])] ++ T_c1_0) w (HV.callee (S0 := [_]) (vs0 := []) hh (roA (roR hh 0 Y (roR hh 1 Y (roR hh 2 Y roN))) (roA (roC (hh.bsepH 3 Y) roN) (hh.rsepT (fun t ht => (List.mem_cons_of_mem _ (List.mem_cons_of_mem _ (List.mem_cons_of_mem _ ht)))))))) hna1 hqa1 hla1 hna2 hqa2 hla2 (⟨fun a w => call121 a w, (fun p_1 r hr w hT => clRet (zj p_1 c1_0 b f_c1_0 fs_c1_0 cs_c1_0 T_c1_0 w (HVstart hT) hcl_c1_0 hr))⟩ : ClOK Try.prog 121 #[] #[ptr b 0] ([(b, 0, [.func (.func f_c1_0) fs_c1_0 cs_c1_0])] ++ T_c1_0) (fun x : Pair => [.agg #[.int .i64 x.tenant, .int .i64 x.strip]]) (fun x : Int => .int .i64 x) (fun p_1 : Pair => jO p_1 c1_0)) h19) (fun l_6 h25 => ?_)
  obtain ⟨h26, h27⟩ := h25
  refine jH (S' := [_, _, _, _, _, _]) (vs' := [_, _, _, _]) [0, 1, 2, 3, 4, 5] [0, 1, 2, 3] 0 Y Y Y Y (je Y Y (ka Y Y Y (ka Y Y Y ?_)))
  refine jq (fun w => zeroValue61 w) Y (fun b_7 h28 => ?_)
  refine jl Y Y (jB (us := #[_, _]) (cs' := [_, _]) (S' := [_, _, _, _, _, _, _]) 0 (fun w => sizeOf61 w) Y Y Y Y Y Y Y (jo (jk (jp (je Y Y (jb Y Y Y (fun w _ => Jz (runUnderlying118 w) Y Y) (jo ?_)))))))
  refine qS Y Y (js (ja (jp (je Y Y ?_))))
  obtain ⟨t27_1, h29, hm⟩ := bindO hm
  refine jd [] [] Y Y Y Y Y Y Y call69 (fun w hh => KB t13b.t12 l_3.1 (qA l_3.2.2.q) l_3.2.2.n l_3.2.2.cap w (HV.callee (S0 := []) (vs0 := []) hh (roC (bsep (hh.bseg 4 Y)) (roC (hh.vsepA 3 Y h17) roN))) (vlen RWay h17 Y) (AOK.q (vne h17)) (h17).hle h29) (fun l_7 h30 => ?_)
  refine je Y Y ?_
  obtain ⟨t29, h31, hm⟩ := bindO hm
  refine jd [] [] Y Y Y Y Y Y Y call69 (fun w hh => KB t20_1b.t12 l_6.1 (qA l_6.2.2.q) l_6.2.2.n l_6.2.2.cap w (HV.callee (S0 := []) (vs0 := []) hh (roC (bsep (hh.bseg 2 Y)) (roC (hh.vsepA 1 Y h27) roN))) (vlen RWay h27 Y) (AOK.q (vne h27)) (h27).hle h31) (fun l_8 h32 => ?_)
  obtain ⟨t30, h33, hm⟩ := bindO hm
  refine jb Y Y Y (fun _ _ => Yq h33 Y) (jb Y Y Y (fun _ _ => jA (vs := [(0, _), (1, _)]) (cells := [_, _]) Y Y) (jB (us := #[_, _]) (cs' := [_, _]) (S' := [_, _, _, _, _, _, _]) 5 (fun w => sizeOf37 w) Y Y Y Y Y Y Y (jl Y Y (jo (ju ?_)))))
  obtain rfl := sj hm
  refine jm Y (fun w hh => (.cell Y (loadVar_agg (vs := [_, _]) (isAgg37 _) (sizeOf37 _) (hh.cells 5 Y Y)) (.tmp Y .nil))) (fun w hh => ⟨(), rfl, trivial, hh.selN [1] [] (by decide) (by decide) Y rfl⟩)
structure qN where
  r1 : Int
  r0 : (List Int)
structure y9 where
  t21 : Int
  out6 : (List Int)
structure Qu where
  x8 : Span
  e9 : Int
def Kw (s0 : Scalps) (t12b : (List (Pair × Bool))) (s : y9) : Option (y9 ⊕ ((List Int) ⊕ qN)) :=
 if s.t21 < (s0.carried.length : Int) then
 ((((Qh s.t21 s0.strips s0.carried).bind fun t27 =>
 (qr s0.strips s0.carried t12b (fun p_1 : Pair => kQ p_1 s.t21 s0.strips s0.carried)).bind fun t28 =>
 some (⟨t28.r0, t28.r1⟩ : Qu)).bind fun o_2 =>
 if o_2.e9 = 0 then
 (if o_2.x8.hi = 0 then
 ((appc 8 s.out6 [1]).bind fun t44 =>
 some (.inl t44)) else
 (if 0 < o_2.x8.lo then
 ((appc 8 s.out6 [2]).bind fun t51 =>
 some (.inl t51)) else
 ((appc 8 s.out6 [0]).bind fun t33 =>
 some (.inl t33)))) else
 (some (.inr (⟨o_2.e9, []⟩ : qN)))).bind fun o_1 =>
 oc o_1 (fun j_2 => (addc s.t21 1).bind fun t52 =>
 some (.inl (⟨t52, j_2⟩ : y9))) (fun r_1 => some (.inr (.inr r_1)))) else
 (some (.inr (.inl s.out6)))
def Kq (s0 : Scalps) : Option qN :=
 (kM s0).bind fun t12 =>
 oc t12 (fun t12a => some (⟨t12a, []⟩ : qN)) (fun t12b => (iterM FU (Kw s0 t12b) (⟨0, []⟩ : y9)).bind fun o =>
 oc o (fun j_3 => some (⟨0, j_3⟩ : qN)) (fun r_2 => some r_2))
theorem Yf (s0 : Scalps) (qa0 : Option Addr) (na0 ca0 : Nat) (qa1 : Option Addr) (na1 ca1 : Nat) (w : World) (hw : HV w (keys [] []) [] [] [(aB qa0, aO qa0, RSt.enc s0.strips), (aB qa1, aO qa1, RSp.enc s0.carried)] w) (hna0 : s0.strips.length = na0) (hqa0 : AOK na0 qa0) (hla0 : na0 ≤ ca0) (hna1 : s0.carried.length = na1) (hqa1 : AOK na1 qa1) (hla1 : na1 ≤ ca1) {res : qN} (hm : Kq s0 = some res) :
    Calls Try.prog 44 #[.agg #[.slice qa0 na0 ca0, .slice qa1 na1 ca1]] w (fun en w' => ∃ l : VL, en = .returned (.tuple #[sL l, .int .i64 res.r1]) ∧ (VOK 1 l.n l.cap (RI.enc res.r0) l.sp l.q) ∧ HV w (keys [] []) [] [vL 91 l (RI.enc res.r0)] [] w') := by
  unfold Kq at hm
  refine kl func44 Y ntmps44 Y (e := [(0, _)]) Y hw (jp ?_)
  refine jF Y Y (fun b h2 => ?_)
  refine jb Y Y Y (fun _ _ => qf Y) (jl Y Y (jV (qX [_, _] 0 isAgg28 sizeOf28 Y Y Y Y ?_)))
  obtain ⟨t12, h3, hm⟩ := bindO hm
  rcases t12 with t12a | t12b
  ·replace hm := ocL hm
   refine jd [] [] Y Y Y Y Y Y Y call65 (fun w hh => kn s0 qa0 na0 ca0 qa1 na1 ca1 w (HV.callee (S0 := []) (vs0 := []) hh (roR hh 0 Y (roR hh 1 Y roN))) hna0 hqa0 hla0 hna1 hqa1 hla1 h3) (fun l h4 => ?_)
   have h5 := h4
   refine je Y Y (ka Y Y Y (ka Y Y Y ?_))
   refine jq (fun w => zeroValue115 w) Y (fun b_1 h6 => ?_)
   refine yo (cs' := #[_]) (S' := [_, _]) 0 (fun w => sizeOf115 w) Y Y Y Y Y Y Y (jl Y Y (jo (jk (jp (je Y Y (jb Y Y Y (fun _ _ => Qk h5 Y Y) (jo ?_)))))))
   refine y8 Y Y (jp (je Y Y (jb Y Y Y (fun _ _ => qf Y) (jl Y Y (jo (ju (jf ?_)))))))
   refine kG 91 ?_
   obtain rfl := sj hm
   refine jm Y (fun w hh => (.tmp Y (.tmp Y .nil))) (fun w hh => ⟨⟨none, 0, 0, []⟩, rfl, VOK.nil, hh.se [] [0] 2 Y Y Y rfl⟩)
  replace hm := ocR hm
  refine jd [] [] Y Y Y Y Y Y Y call65 (fun w hh => kn s0 qa0 na0 ca0 qa1 na1 ca1 w (HV.callee (S0 := []) (vs0 := []) hh (roR hh 0 Y (roR hh 1 Y roN))) hna0 hqa0 hla0 hna1 hqa1 hla1 h3) (fun l_1 h7 => ?_)
  refine jH (S' := [_, _, _]) (vs' := []) [0, 1, 2] [] 0 Y Y Y Y (je Y Y (ka Y Y Y (ka Y Y Y ?_)))
  refine jq (fun w => zeroValue115 w) Y (fun b_2 h8 => ?_)
  refine yo (cs' := #[_]) (S' := [_, _, _, _]) 0 (fun w => sizeOf115 w) Y Y Y Y Y Y Y (jl Y Y (jo (jk (jp (je Y Y (jb Y Y Y (fun _ _ => q5 Y Y) (jo ?_)))))))
  refine qS Y Y (js (ja (jp (jb Y Y Y (fun _ _ => qf Y) (jo (jk (jp ?_)))))))
  refine j7 1 runUnderlying28 Y sizeOf26 Y Y (kx 3 isAgg26 Y Y Y Y (jb Y Y Y (fun w _ => jR hna1 (runUnderlying26 w) Y) (je Y Y (jo (kG 91 ?_)))))
  obtain ⟨o, h9, h10⟩ := bindO hm
  refine jM (ι := (List Int) × VL) (fun j => o = .inl j.1 ∧ VOK 1 j.2.n j.2.cap (RI.enc j.1) j.2.sp j.2.q) (fun j => [(6, sL j.2)]) (fun j => [kc b_2 #[ptr l_1.1 0] 115, kc l_1.1 #[.slice qa0 na0 ca0, .slice qa1 na1 ca1, .map (some l_1.2)] 163, (l_1.2, gobj (kR RPr) kB t12b), kc b #[.slice qa0 na0 ca0, .slice qa1 na1 ca1] 28]) (fun j => [vL 91 j.2 (RI.enc j.1)]) ?_ ?_
  ·replace hm := h9
   refine jj ?_
   refine jD (ι := VL) hm (fun s l_2 => VOK 1 l_2.n l_2.cap (RI.enc s.out6) l_2.sp l_2.q) (fun s l_2 => [(4, ptr b_2 0), (6, sL l_2), (20, .int .i64 (s0.carried.length : Int)), (21, .int .i64 s.t21)]) (fun s l_2 => [kc b_2 #[ptr l_1.1 0] 115, kc l_1.1 #[.slice qa0 na0 ca0, .slice qa1 na1 ca1, .map (some l_1.2)] 163, (l_1.2, gobj (kR RPr) kB t12b), kc b #[.slice qa0 na0 ca0, .slice qa1 na1 ca1] 28]) (fun s l_2 => [vL 91 l_2 (RI.enc s.out6)]) ⟨none, 0, 0, []⟩ (VOK.nil) (sE Y) (fun w hh => hh) (fun s l_2 r hpl hm h13 => ?_)
   have h12 := hpl
   unfold Kw at hm
   refine jp (zK Y Y Y (jo (jk ?_)))
   refine jr Y (fun h14 => ?_) (fun h14 => ?_)
   ·replace hm := ifD h14 hm
    refine js (ja (jk ?_))
    obtain ⟨o_1, h15, h16⟩ := bindO hm
    refine jM (ι := (List Int) × VL) (fun j_1 => o_1 = .inl j_1.1 ∧ VOK 1 j_1.2.n j_1.2.cap (RI.enc j_1.1) j_1.2.sp j_1.2.q) (fun j_1 => [(4, ptr b_2 0), (6, sL j_1.2), (20, .int .i64 (s0.carried.length : Int)), (21, .int .i64 s.t21)]) (fun j_1 => [kc b_2 #[ptr l_1.1 0] 115, kc l_1.1 #[.slice qa0 na0 ca0, .slice qa1 na1 ca1, .map (some l_1.2)] 163, (l_1.2, gobj (kR RPr) kB t12b), kc b #[.slice qa0 na0 ca0, .slice qa1 na1 ca1] 28]) (fun j_1 => [vL 91 j_1.2 (RI.enc j_1.1)]) ?_ ?_
    ·replace hm := h15
     refine jj (jp (je Y Y ?_))
     refine jq (fun w => zeroValue3 w) Y (fun b_3 h18 => ?_)
     refine yo (cs' := #[_]) (S' := [_, _, _, _, _]) 0 (fun w => sizeOf3 w) Y Y Y Y Y Y Y (jo (jk ?_))
     obtain ⟨o_2, h19, h20⟩ := bindO hm
     refine jM (ι := Nat) (fun l_3 => True) (fun l_3 => [(4, ptr b_2 0), (6, sL l_2), (8, ptr l_3 0), (9, .int .i64 o_2.e9), (20, .int .i64 (s0.carried.length : Int)), (21, .int .i64 s.t21)]) (fun l_3 => [kc b_3 #[.int .i64 s.t21] 3, kc b_2 #[ptr l_1.1 0] 115, kc l_1.1 #[.slice qa0 na0 ca0, .slice qa1 na1 ca1, .map (some l_1.2)] 163, (l_1.2, gobj (kR RPr) kB t12b), kc b #[.slice qa0 na0 ca0, .slice qa1 na1 ca1] 28, kc l_3 #[.int .i64 o_2.x8.lo, .int .i64 o_2.x8.hi] 37]) (fun l_3 => [vL 91 l_2 (RI.enc s.out6)]) ?_ ?_
     ·replace hm := h19
      obtain ⟨t27, h21, hm⟩ := bindO hm
      obtain ⟨t28, h22, hm⟩ := bindO hm
      refine j4 none (.hoist 0 (.free 1 (.br (.alt 2 (.br (.alt 3 (.free 4 (.free 5 (.free 6 (.one 7 (.one 8 (.free 9 .done)))))) (.alt 7 (.one 3 (.free 4 (.free 5 (.free 6 (.one 8 (.free 9 .done)))))) .nil))) (.alt 7 (.one 2 (.one 3 (.free 4 (.free 5 (.free 6 (.one 8 (.free 9 .done))))))) .nil))))) _ Y (by decide +kernel) (fun w k hh => hh.draw k) (fun w hh => hh) ?_
      refine qW 1 isAgg115 Y Y Y Y Y (jg Y Y Y Y (fun _ _ => jE (u := #[]) (u' := #[_, _]) Y Y) (ZF ?_))
      refine J4 Y ?_ ?_
      ·refine jd [] [] Y Y Y Y Y Y Y call73 (fun w hh => QV s.t21 s0.strips s0.carried b_3 b_2 l_1.1 qa0 na0 ca0 qa1 na1 ca1 (.map (some l_1.2)) w (HV.callee (S0 := []) (vs0 := []) hh (roC (bsep (hh.bseg 0 Y)) (roC (bsep (hh.bseg 1 Y)) (roC (bsep (hh.bseg 2 Y)) (roR hh 0 Y (roR hh 1 Y roN)))))) hna0 hqa0 hla0 hna1 hqa1 hla1 h21) (fun l_4 h23 => ?_)
       refine jH (S' := [_, _, _, _, _, _]) (vs' := [_]) [0, 1, 2, 3, 4, 5] [0] 0 Y Y Y Y (jv (hsE [1, 2, 3, 4, 5] [0] 0 Y Y Y Y) (ZF ?_))
       refine J4 Y ?_ ?_
       ·refine jH (S' := [_, _, _, _, _, _]) (vs' := [_]) [4, 0, 1, 2, 3, 5] [0] 0 Y Y Y Y ?_
        refine jd [_] [] Y Y Y Y Y Y Y call72 (fun w hh => z6 s0.strips s0.carried t12b (fun p_1 : Pair => kQ p_1 s.t21 s0.strips s0.carried) l_1.1 qa0 na0 ca0 qa1 na1 ca1 l_1.2 122 (#[]) (#[ptr l_4 0]) ([(l_4, 0, [.func (.func 102) #[] #[ptr b_3 0, ptr b_2 0]]), (b_3, 0, [.int .i64 s.t21]), (b_2, 0, [ptr l_1.1 0]), (l_1.1, 0, [.slice qa0 na0 ca0, .slice qa1 na1 ca1, .map (some l_1.2)]), (aB qa0, aO qa0, RSt.enc s0.strips), (aB qa1, aO qa1, RSp.enc s0.carried)]) w (HV.callee (S0 := [_]) (vs0 := []) hh (roA (roC (hh.bsepH 3 Y) (roR hh 0 Y (roR hh 1 Y roN))) (roC (hh.bsepH 0 Y) (roC (hh.bsepH 1 Y) (roC (hh.bsepH 2 Y) (roC (hh.bsepH 3 Y) (roR hh 0 Y (roR hh 1 Y roN)))))))) hna0 hqa0 hla0 hna1 hqa1 hla1 (⟨fun a w => call122 a w, (fun p_1 r hr w hT => clRet (Kt p_1 s.t21 s0.strips s0.carried l_4 b_3 b_2 l_1.1 qa0 na0 ca0 qa1 na1 ca1 (.map (some l_1.2)) w (HVstart hT) hna0 hqa0 hla0 hna1 hqa1 hla1 hr))⟩ : ClOK Try.prog 122 #[] #[ptr l_4 0] ([(l_4, 0, [.func (.func 102) #[] #[ptr b_3 0, ptr b_2 0]]), (b_3, 0, [.int .i64 s.t21]), (b_2, 0, [ptr l_1.1 0]), (l_1.1, 0, [.slice qa0 na0 ca0, .slice qa1 na1 ca1, .map (some l_1.2)]), (aB qa0, aO qa0, RSt.enc s0.strips), (aB qa1, aO qa1, RSp.enc s0.carried)]) (fun x : Pair => [.agg #[.int .i64 x.tenant, .int .i64 x.strip]]) (fun x : Int => .int .i64 x) (fun p_1 : Pair => kQ p_1 s.t21 s0.strips s0.carried)) h22) (fun l_5 h24 => ?_)
        refine jH (S' := [_, _, _, _, _, _]) (vs' := [_]) [0, 1, 2, 3, 4, 5] [0] 0 Y Y Y Y (jv (hsE [2, 3, 4, 0, 5] [0] 0 Y Y Y Y) (kU Y Y Y (jg Y Y Y Y (fun _ _ => q8 Y Y) (jg Y Y Y Y (fun _ _ => q8 Y Y) (jK Y ?_)))))
        refine jq (fun w => zeroValue37 w) Y (fun b_4 h25 => ?_)
        refine jv (hsE [3, 4, 5, 1, 6] [0] 0 Y Y Y Y) (jK Y (jB (us := #[_, _]) (cs' := [_, _]) (S' := [_, _, _, _, _, _, _]) 0 (fun w => sizeOf37 w) Y Y Y Y Y Y Y (jv (hsE [3, 4, 5, 1, 6] [0] 0 Y Y Y Y) (jg Y Y Y Y (fun _ _ => jU Y) (jN ?_)))))
        obtain rfl := sj hm
        exact jn b_4 (trivial) (sE Y) (hsE [3, 4, 5, 1, 6, 0] [0] 0 Y Y Y Y)
       refine J4 Y ?_ ?_
       refine jq (fun w => zeroValue37 w) Y (fun b_5 h26 => ?_)
       refine jv (hsE [2, 3, 4, 5, 6] [0] 0 Y Y Y Y) (jK Y (jH (S' := [_, _, _, _, _, _, _]) (vs' := [_]) [5, 0, 1, 2, 3, 4, 6] [0] 0 Y Y Y Y ?_))
       refine jd [_] [] Y Y Y Y Y Y Y call72 (fun w hh => z6 s0.strips s0.carried t12b (fun p_3 : Pair => kQ p_3 s.t21 s0.strips s0.carried) l_1.1 qa0 na0 ca0 qa1 na1 ca1 l_1.2 122 (#[]) (#[ptr l_4 0]) ([(l_4, 0, [.func (.func 102) #[] #[ptr b_3 0, ptr b_2 0]]), (b_3, 0, [.int .i64 s.t21]), (b_2, 0, [ptr l_1.1 0]), (l_1.1, 0, [.slice qa0 na0 ca0, .slice qa1 na1 ca1, .map (some l_1.2)]), (aB qa0, aO qa0, RSt.enc s0.strips), (aB qa1, aO qa1, RSp.enc s0.carried)]) w (HV.callee (S0 := [_]) (vs0 := []) hh (roA (roC (hh.bsepH 4 Y) (roR hh 0 Y (roR hh 1 Y roN))) (roC (hh.bsepH 1 Y) (roC (hh.bsepH 2 Y) (roC (hh.bsepH 3 Y) (roC (hh.bsepH 4 Y) (roR hh 0 Y (roR hh 1 Y roN)))))))) hna0 hqa0 hla0 hna1 hqa1 hla1 (⟨fun a w => call122 a w, (fun p_3 r hr w hT => clRet (Kt p_3 s.t21 s0.strips s0.carried l_4 b_3 b_2 l_1.1 qa0 na0 ca0 qa1 na1 ca1 (.map (some l_1.2)) w (HVstart hT) hna0 hqa0 hla0 hna1 hqa1 hla1 hr))⟩ : ClOK Try.prog 122 #[] #[ptr l_4 0] ([(l_4, 0, [.func (.func 102) #[] #[ptr b_3 0, ptr b_2 0]]), (b_3, 0, [.int .i64 s.t21]), (b_2, 0, [ptr l_1.1 0]), (l_1.1, 0, [.slice qa0 na0 ca0, .slice qa1 na1 ca1, .map (some l_1.2)]), (aB qa0, aO qa0, RSt.enc s0.strips), (aB qa1, aO qa1, RSp.enc s0.carried)]) (fun x : Pair => [.agg #[.int .i64 x.tenant, .int .i64 x.strip]]) (fun x : Int => .int .i64 x) (fun p_3 : Pair => kQ p_3 s.t21 s0.strips s0.carried)) h22) (fun l_6 h27 => ?_)
       refine jH (S' := [_, _, _, _, _, _, _]) (vs' := [_]) [0, 1, 2, 3, 4, 5, 6] [0] 0 Y Y Y Y (jv (hsE [3, 4, 5, 0, 6] [0] 0 Y Y Y Y) (kU Y Y Y (jg Y Y Y Y (fun _ _ => q8 Y Y) (jg Y Y Y Y (fun _ _ => q8 Y Y) (jK Y (jB (us := #[_, _]) (cs' := [_, _]) (S' := [_, _, _, _, _, _, _]) 1 (fun w => sizeOf37 w) Y Y Y Y Y Y Y (jv (hsE [3, 4, 5, 0, 6] [0] 0 Y Y Y Y) ?_)))))))
       refine jg Y Y Y Y (fun _ _ => jU Y) (jN ?_)
       obtain rfl := sj hm
       exact jn b_5 (trivial) (sE Y) (hsE [3, 4, 5, 0, 6, 1] [0] 0 Y Y Y Y)
       exact Q2
      refine J4 Y ?_ ?_
      refine jq (fun w => zeroValue37 w) Y (fun b_6 h28 => ?_)
      refine jv (hsE [1, 2, 3, 4, 5] [0] 0 Y Y Y Y) (jK Y ?_)
      refine jd [] [] Y Y Y Y Y Y Y call73 (fun w hh => QV s.t21 s0.strips s0.carried b_3 b_2 l_1.1 qa0 na0 ca0 qa1 na1 ca1 (.map (some l_1.2)) w (HV.callee (S0 := []) (vs0 := []) hh (roC (bsep (hh.bseg 1 Y)) (roC (bsep (hh.bseg 2 Y)) (roC (bsep (hh.bseg 3 Y)) (roR hh 0 Y (roR hh 1 Y roN)))))) hna0 hqa0 hla0 hna1 hqa1 hla1 h21) (fun l_7 h29 => ?_)
      refine jH (S' := [_, _, _, _, _, _, _]) (vs' := [_]) [0, 1, 2, 3, 4, 5, 6] [0] 0 Y Y Y Y (jv (hsE [2, 3, 4, 5, 6] [0] 0 Y Y Y Y) (jK Y (jH (S' := [_, _, _, _, _, _, _]) (vs' := [_]) [5, 0, 1, 2, 3, 4, 6] [0] 0 Y Y Y Y ?_)))
      refine jd [_] [] Y Y Y Y Y Y Y call72 (fun w hh => z6 s0.strips s0.carried t12b (fun p_5 : Pair => kQ p_5 s.t21 s0.strips s0.carried) l_1.1 qa0 na0 ca0 qa1 na1 ca1 l_1.2 122 (#[]) (#[ptr l_7 0]) ([(l_7, 0, [.func (.func 102) #[] #[ptr b_3 0, ptr b_2 0]]), (b_3, 0, [.int .i64 s.t21]), (b_2, 0, [ptr l_1.1 0]), (l_1.1, 0, [.slice qa0 na0 ca0, .slice qa1 na1 ca1, .map (some l_1.2)]), (aB qa0, aO qa0, RSt.enc s0.strips), (aB qa1, aO qa1, RSp.enc s0.carried)]) w (HV.callee (S0 := [_]) (vs0 := []) hh (roA (roC (hh.bsepH 4 Y) (roR hh 0 Y (roR hh 1 Y roN))) (roC (hh.bsepH 0 Y) (roC (hh.bsepH 2 Y) (roC (hh.bsepH 3 Y) (roC (hh.bsepH 4 Y) (roR hh 0 Y (roR hh 1 Y roN)))))))) hna0 hqa0 hla0 hna1 hqa1 hla1 (⟨fun a w => call122 a w, (fun p_5 r hr w hT => clRet (Kt p_5 s.t21 s0.strips s0.carried l_7 b_3 b_2 l_1.1 qa0 na0 ca0 qa1 na1 ca1 (.map (some l_1.2)) w (HVstart hT) hna0 hqa0 hla0 hna1 hqa1 hla1 hr))⟩ : ClOK Try.prog 122 #[] #[ptr l_7 0] ([(l_7, 0, [.func (.func 102) #[] #[ptr b_3 0, ptr b_2 0]]), (b_3, 0, [.int .i64 s.t21]), (b_2, 0, [ptr l_1.1 0]), (l_1.1, 0, [.slice qa0 na0 ca0, .slice qa1 na1 ca1, .map (some l_1.2)]), (aB qa0, aO qa0, RSt.enc s0.strips), (aB qa1, aO qa1, RSp.enc s0.carried)]) (fun x : Pair => [.agg #[.int .i64 x.tenant, .int .i64 x.strip]]) (fun x : Int => .int .i64 x) (fun p_5 : Pair => kQ p_5 s.t21 s0.strips s0.carried)) h22) (fun l_8 h30 => ?_)
      refine jH (S' := [_, _, _, _, _, _, _]) (vs' := [_]) [0, 1, 2, 3, 4, 5, 6] [0] 0 Y Y Y Y (jv (hsE [3, 4, 5, 0, 6] [0] 0 Y Y Y Y) (kU Y Y Y (jg Y Y Y Y (fun _ _ => q8 Y Y) (jg Y Y Y Y (fun _ _ => q8 Y Y) (jK Y (jB (us := #[_, _]) (cs' := [_, _]) (S' := [_, _, _, _, _, _, _]) 2 (fun w => sizeOf37 w) Y Y Y Y Y Y Y (jv (hsE [3, 4, 5, 0, 6] [0] 0 Y Y Y Y) ?_)))))))
      refine jg Y Y Y Y (fun _ _ => jU Y) (jN ?_)
      obtain rfl := sj hm
      exact jn b_6 (trivial) (sE Y) (hsE [3, 4, 5, 0, 6, 2] [0] 0 Y Y Y Y)
      exact Q2
     intro l_3 hj
     replace hm := h20
     refine ja (jj (jp (je Y Y (jb Y Y Y (fun _ _ => q5 Y Y) (jl Y Y (jo ?_))))))
     refine jr Y (fun h31 => ?_) (fun h31 => ?_)
     ·replace hm := ifF (of_ndec_true h31) hm
      refine jp (je Y Y (jb Y Y Y (fun _ _ => qf Y) (jl Y Y (jo (ju (jy (jy ?_)))))))
      obtain rfl := sj hm
      refine jf ?_
      replace hm := ocR h16
      refine jf (jf (jy ?_))
      obtain rfl := sj hm
      have hbo := h13 _ Y
      subst hbo
      refine jf ?_
      replace hm := ocR h10
      refine jf (kG 91 ?_)
      obtain rfl := sj hm
      refine jm Y (fun w hh => (.tmp Y (.tmp Y .nil))) (fun w hh => ⟨⟨none, 0, 0, []⟩, rfl, VOK.nil, hh.se [] [0] 2 Y Y Y rfl⟩)
     replace hm := ifT (of_ndec_false h31) hm
     refine jp (j7 1 runUnderlying37 Y sizeOf3 Y Y (kx 5 isAgg3 Y Y Y Y (jb Y Y Y (fun _ _ => JT Y Y) (jl Y Y (jo ?_)))))
     refine jr Y (fun h32 => ?_) (fun h32 => ?_)
     ·replace hm := ifD h32 hm
      refine jh (je Y Y ?_)
      refine kS RI [1] (ps := [(0, _)]) (cells := [_]) (fun w => runUnderlying88 w) (fun w => sizeOf91 w) (fun w => zeroValue91 w) Y Y Y Y Y Y Y Y (fun L h33 => ?_)
      obtain ⟨t44, h34, hm⟩ := bindO hm
      refine yT RI 1 h34 underlying88 YK Y Y Y Y Y h12 Y Y (vlen RI h33 Y) (AOK.q (vne h33)) (fun w hh => (hh.vsegA 0 Y h33)) Y (fun L_1 h35 h35n => ?_)
      refine jH (S' := [_, _, _, _, _, _]) (vs' := [_, _]) [0, 1, 2, 3, 4, 5] [0, 1] 0 Y Y Y Y (jl Y Y (jx (jt (jt ?_))))
      obtain rfl := sj hm
      exact jn (t44, L_1) (⟨rfl, h35⟩) (sE Y) (hsE [1, 2, 3, 4] [1] 0 Y Y Y Y)
     replace hm := ifE h32 hm
     refine jp (j7 0 runUnderlying37 Y sizeOf3 Y Y (kx 5 isAgg3 Y Y Y Y (jb Y Y Y (fun _ _ => Yv Y Y) (jl Y Y (jo ?_)))))
     refine jr Y (fun h36 => ?_) (fun h36 => ?_)
     ·replace hm := ifD h36 hm
      refine jh (je Y Y ?_)
      refine kS RI [2] (ps := [(0, _)]) (cells := [_]) (fun w => runUnderlying88 w) (fun w => sizeOf91 w) (fun w => zeroValue91 w) Y Y Y Y Y Y Y Y (fun L_2 h37 => ?_)
      obtain ⟨t51, h38, hm⟩ := bindO hm
      refine yT RI 1 h38 underlying88 YK Y Y Y Y Y h12 Y Y (vlen RI h37 Y) (AOK.q (vne h37)) (fun w hh => (hh.vsegA 0 Y h37)) Y (fun L_3 h39 h39n => ?_)
      refine jH (S' := [_, _, _, _, _, _]) (vs' := [_, _]) [0, 1, 2, 3, 4, 5] [0, 1] 0 Y Y Y Y (jl Y Y (jx (jt (jt ?_))))
      obtain rfl := sj hm
      exact jn (t51, L_3) (⟨rfl, h39⟩) (sE Y) (hsE [1, 2, 3, 4] [1] 0 Y Y Y Y)
     replace hm := ifE h36 hm
     refine jh (je Y Y ?_)
     refine kS RI [0] (ps := [(0, _)]) (cells := [_]) (fun w => runUnderlying88 w) (fun w => sizeOf91 w) (fun w => zeroValue91 w) Y Y Y Y Y Y Y Y (fun L_4 h40 => ?_)
     obtain ⟨t33, h41, hm⟩ := bindO hm
     refine yT RI 1 h41 underlying88 YK Y Y Y Y Y h12 Y Y (vlen RI h40 Y) (AOK.q (vne h40)) (fun w hh => (hh.vsegA 0 Y h40)) Y (fun L_5 h42 h42n => ?_)
     refine jH (S' := [_, _, _, _, _, _]) (vs' := [_, _]) [0, 1, 2, 3, 4, 5] [0, 1] 0 Y Y Y Y (jl Y Y (jx (jt (jt ?_))))
     obtain rfl := sj hm
     exact jn (t33, L_5) (⟨rfl, h42⟩) (sE Y) (hsE [1, 2, 3, 4] [1] 0 Y Y Y Y)
    rintro ⟨j_2, l_9⟩ hj
    obtain ⟨h44, h43⟩ := hj
    subst h44
    replace hm := ocL h16
    refine ja (jh ?_)
    obtain ⟨t52, h45, hm⟩ := bindO hm
    refine yA h45 Y Y Y (je Y Y (jx ?_))
    obtain rfl := sj hm
    refine ja ?_
    exact jz _ l_9 Y (h43) (sE Y) (fun w hh => hh)
   replace hm := ifE h14 hm
   refine jP (ji (ji (jC ?_)))
   obtain rfl := sj hm
   have hbo := h13 _ Y
   subst hbo
   exact jn (s.out6, l_2) (⟨rfl, h12⟩) (sE Y) (fun w hh => hh)
  rintro ⟨j_3, l_10⟩ hj
  obtain ⟨h47, h46⟩ := hj
  subst h47
  replace hm := ocL h10
  refine ja (jp (je Y Y (jl Y Y (jl Y Y (jo (ju ?_))))))
  obtain rfl := sj hm
  refine jm Y (fun w hh => (.tmp Y (.tmp Y .nil))) (fun w hh => ⟨l_10, rfl, h46, hh.se [] [0] 2 Y Y Y rfl⟩)
def Ky (n0 : Int) : Option Bool :=
 (Kv n0 (-20) 20).bind fun t4 =>
 some t4
theorem Yk (n0 : Int)  (w : World) (hw : HV w (keys [] []) [] [] [] w)  {res : Bool} (hm : Ky n0 = some res) :
    Calls Try.prog 99 #[.int .i64 n0] w (fun en w' => ∃ l : Unit, en = .returned (.bool res) ∧ (True) ∧ HV w (keys [] []) [] [] [] w') := by
  unfold Ky at hm
  refine kl func99 Y ntmps99 Y (e := [(0, _)]) Y hw (jp (jl Y Y (jV (je Y Y ?_))))
  obtain ⟨t4, h1, hm⟩ := bindO hm
  refine jd [] [] Y Y Y Y Y Y Y call57 (fun w hh => Qv n0 (-20) 20 w (HV.callee (S0 := []) (vs0 := []) hh roN)  h1) (fun l h2 => ?_)
  refine jl Y Y (jo (ju ?_))
  obtain rfl := sj hm
  refine jm Y (fun w hh => (.tmp Y .nil)) (fun w hh => ⟨(), rfl, trivial, hh⟩)
def Jf (x0 : Int) : Option Bool :=
 (Ky x0).bind fun t6 =>
 some (!t6)
theorem QI (x0 : Int) (rb : Nat) (w : World) (hw : HV w (keys [] []) [] [] [(rb, 0, [.func (.func 99) #[] #[]])] w)  {res : Bool} (hm : Jf x0 = some res) :
    Calls Try.prog 128 #[.int .i64 x0, ptr rb 0] w (fun en w' => ∃ l : Unit, en = .returned (.bool res) ∧ (True) ∧ HV w (keys [] []) [] [] [] w') := by
  unfold Jf at hm
  refine kl func128 Y ntmps128 Y (e := [(0, _), (1, _)]) Y hw (jp (jl Y Y (jV (jb Y Y Y (fun w hh => jQ (isAgg71 w) Y (segCell (hh.seg 0 Y) 0 Y)) (je Y Y ?_)))))
  obtain ⟨t6, h1, hm⟩ := bindO hm
  refine jd [] [] Y Y Y Y Y Y Y call99 (fun w hh => Yk x0 w (HV.callee (S0 := []) (vs0 := []) hh roN)  h1) (fun l h2 => ?_)
  refine jb Y Y Y (fun _ _ => qv Y) (jl Y Y (jo (ju ?_)))
  obtain rfl := sj hm
  refine jm Y (fun w hh => (.tmp Y .nil)) (fun w hh => ⟨(), rfl, trivial, hh.se [] [] 1 Y Y Y rfl⟩)
def yQ (s0 : (List Int)) (s : Int) : Option (Int ⊕ (Unit ⊕ Int)) :=
 if s < (s0.length : Int) then
 ((ix s0 s).bind fun t14 =>
 (Jf t14).bind fun t16 =>
 if t16 = true then
 (some (.inr (.inr s))) else
 ((addc s 1).bind fun t18 =>
 some (.inl t18))) else
 (some (.inr (.inl ())))
def yd (s0 : (List Int)) : Option Int :=
 (iterM FU (yQ s0) 0).bind fun o =>
 oc o (fun j => some (-1)) (fun r_1 => some r_1)
theorem Kr (s0 : (List Int)) (qa0 : Option Addr) (na0 ca0 : Nat) (rb : Nat) (w : World) (hw : HV w (keys [] []) [] [] [(aB qa0, aO qa0, RI.enc s0), (rb, 0, [.func (.func 99) #[] #[]])] w) (hna0 : s0.length = na0) (hqa0 : AOK na0 qa0) (hla0 : na0 ≤ ca0)  {res : Int} (hm : yd s0 = some res) :
    Calls Try.prog 146 #[.slice qa0 na0 ca0, .func (.func 128) #[] #[ptr rb 0]] w (fun en w' => ∃ l : Unit, en = .returned (.int .i64 res) ∧ (True) ∧ HV w (keys [] []) [] [] [] w') := by
  unfold yd at hm
  refine kl func146 Y ntmps146 Y (e := [(0, _), (1, _)]) Y hw (jp (jl Y Y (jo (jk (jp (je Y Y (jb Y Y Y (fun w _ => jR hna0 (runUnderlying32 w) Y) ?_)))))))
  refine je Y Y (jo ?_)
  obtain ⟨o, h1, h2⟩ := bindO hm
  refine jM (ι := Unit) (fun j => o = .inl j) (fun j => []) (fun j => []) (fun j => []) ?_ ?_
  ·replace hm := h1
   refine jj ?_
   refine jD (ι := Unit) hm (fun s l => True) (fun s l => [(0, .slice qa0 na0 ca0), (1, .func (.func 128) #[] #[ptr rb 0]), (7, .int .i64 (s0.length : Int)), (8, .int .i64 s)]) (fun s l => []) (fun s l => []) () (trivial) (sE Y) (fun w hh => hh) (fun s l r hpl hm h3 => ?_)
   unfold yQ at hm
   refine jp (zK Y Y Y (jo (jk ?_)))
   refine jr Y (fun h4 => ?_) (fun h4 => ?_)
   ·replace hm := ifD h4 hm
    refine js (ja (jk (jj (jp (je Y Y (jl Y Y (jV ?_)))))))
    refine je Y Y (je Y Y (je Y Y ?_))
    obtain ⟨t14, h5, hm⟩ := bindO hm
    refine jb Y Y Y (fun w _ => q7 h5 (runUnderlying32 w) (sizeOf3 w) Y Y hna0 hqa0) (jb Y Y Y (fun w hh => qx RI 0 h5 (isAgg3 w) Y (hh.seg 0 Y) Y (Nat.add_zero _).symm) ?_)
    obtain ⟨t16, h6, hm⟩ := bindO hm
    refine jd [] [] Y Y Y Y Y Y Y call128 (fun w hh => QI t14 rb w (HV.callee (S0 := []) (vs0 := []) hh (roR hh 1 Y roN))  h6) (fun l_1 h7 => ?_)
    refine jo ?_
    refine jr Y (fun h8 => ?_) (fun h8 => ?_)
    ·replace hm := ifT (h8) hm
     refine jp (je Y Y (jl Y Y (jo (ju (jy (jf (jf ?_)))))))
     refine jy ?_
     obtain rfl := sj hm
     have hbo := h3 _ Y
     subst hbo
     refine jf ?_
     replace hm := ocR h2
     refine jf ?_
     obtain rfl := sj hm
     refine jm Y (fun w hh => (.tmp Y .nil)) (fun w hh => ⟨(), rfl, trivial, hh.se [] [] 2 Y Y Y rfl⟩)
    replace hm := ifN h8 hm
    refine js (jt (ja (jh ?_)))
    obtain ⟨t18, h9, hm⟩ := bindO hm
    refine yA h9 Y Y Y (je Y Y (jx ?_))
    obtain rfl := sj hm
    refine ja ?_
    exact jz _ () Y (trivial) (sE Y) (fun w hh => hh)
   replace hm := ifE h4 hm
   refine jP (ji (ji (jC ?_)))
   obtain rfl := sj hm
   have hbo := h3 _ Y
   subst hbo
   exact jn () (Y) (.nil) (fun w hh => hh)
  intro j hj
  have h10 := hj
  subst h10
  replace hm := ocL h2
  refine ja (jp (jl Y Y (jo (ju ?_))))
  obtain rfl := sj hm
  refine jm Y (fun w hh => (.tmp Y .nil)) (fun w hh => ⟨(), rfl, trivial, hh.se [] [] 2 Y Y Y rfl⟩)
def qj (s0 : (List Int)) : Option Bool :=
 (yd s0).bind fun t7 =>
 some (decide (0 ≤ t7))
theorem J0 (s0 : (List Int)) (qa0 : Option Addr) (na0 ca0 : Nat) (rb : Nat) (w : World) (hw : HV w (keys [] []) [] [] [(aB qa0, aO qa0, RI.enc s0), (rb, 0, [.func (.func 99) #[] #[]])] w) (hna0 : s0.length = na0) (hqa0 : AOK na0 qa0) (hla0 : na0 ≤ ca0)  {res : Bool} (hm : qj s0 = some res) :
    Calls Try.prog 127 #[.slice qa0 na0 ca0, .func (.func 128) #[] #[ptr rb 0]] w (fun en w' => ∃ l : Unit, en = .returned (.bool res) ∧ (True) ∧ HV w (keys [] []) [] [] [] w') := by
  unfold qj at hm
  refine kl func127 Y ntmps127 Y (e := [(0, _), (1, _)]) Y hw (jp (jl Y Y (jV (je Y Y (je Y Y ?_)))))
  obtain ⟨t7, h1, hm⟩ := bindO hm
  refine jd [] [] Y Y Y Y Y Y Y call146 (fun w hh => Kr s0 qa0 na0 ca0 rb w (HV.callee (S0 := []) (vs0 := []) hh (roR hh 0 Y (roR hh 1 Y roN))) hna0 hqa0 hla0 h1) (fun l h2 => ?_)
  refine jb Y Y Y (fun _ _ => K4 Y Y) (jl Y Y (jo (ju ?_)))
  obtain rfl := sj hm
  refine jm Y (fun w hh => (.tmp Y .nil)) (fun w hh => ⟨(), rfl, trivial, hh.se [] [] 2 Y Y Y rfl⟩)
def Jc (l0 : (List Int)) : Option Bool :=
 (qj l0).bind fun t7 =>
 some (!t7)
theorem KZ (l0 : (List Int)) (qa0 : Option Addr) (na0 ca0 : Nat) (w : World) (hw : HV w (keys [] []) [] [] [(aB qa0, aO qa0, RI.enc l0)] w) (hna0 : l0.length = na0) (hqa0 : AOK na0 qa0) (hla0 : na0 ≤ ca0) {res : Bool} (hm : Jc l0 = some res) :
    Calls Try.prog 91 #[.slice qa0 na0 ca0, .func (.func 99) #[] #[]] w (fun en w' => ∃ l : Unit, en = .returned (.bool res) ∧ (True) ∧ HV w (keys [] []) [] [] [] w') := by
  unfold Jc at hm
  refine kl func91 Y ntmps91 Y (e := [(0, _), (1, _)]) Y hw (jp ?_)
  refine jF Y Y (fun b h1 => ?_)
  refine jl Y Y (jV (je Y Y (jb Y Y Y (fun _ _ => jE (u := #[]) (u' := #[_]) Y Y) ?_)))
  obtain ⟨t7, h2, hm⟩ := bindO hm
  refine jd [] [] Y Y Y Y Y Y Y call127 (fun w hh => J0 l0 qa0 na0 ca0 b w (HV.callee (S0 := []) (vs0 := []) hh (roR hh 0 Y (roC (bsep (hh.bseg 0 Y)) roN))) hna0 hqa0 hla0 h2) (fun l h3 => ?_)
  refine jb Y Y Y (fun _ _ => qv Y) (jl Y Y (jo (ju ?_)))
  obtain rfl := sj hm
  refine jm Y (fun w hh => (.tmp Y .nil)) (fun w hh => ⟨(), rfl, trivial, hh.se [] [] 1 Y Y Y rfl⟩)
def KF (mark0 : Int) (x1 : Span) : Option Int :=
 if 0 < mark0 then
 ((mulc mark0 x1.lo).bind fun t10 =>
 some t10) else
 ((mulc mark0 x1.hi).bind fun t14 =>
 some t14)
theorem QW (mark0 : Int) (x1 : Span)  (w : World) (hw : HV w (keys [] []) [] [] [] w)  {res : Int} (hm : KF mark0 x1 = some res) :
    Calls Try.prog 101 #[.int .i64 mark0, .agg #[.int .i64 x1.lo, .int .i64 x1.hi]] w (fun en w' => ∃ l : Unit, en = .returned (.int .i64 res) ∧ (True) ∧ HV w (keys [] []) [] [] [] w') := by
  unfold KF at hm
  refine kl func101 Y ntmps101 Y (e := [(0, _), (1, _)]) Y hw (jp ?_)
  refine jF Y Y (fun b h1 => ?_)
  refine jl Y Y (jo (jk (jp (je Y Y (jb Y Y Y (fun _ _ => Yv Y Y) (jo ?_))))))
  refine jr Y (fun h2 => ?_) (fun h2 => ?_)
  ·replace hm := ifD h2 hm
   refine jp (je Y Y (j7 0 runUnderlying37 Y sizeOf3 Y Y (kx 0 isAgg3 Y Y Y Y ?_)))
   obtain ⟨t10, h3, hm⟩ := bindO hm
   refine jb Y Y Y (fun _ _ => Za h3 Y Y) (jl Y Y (jo (ju (jf ?_))))
   obtain rfl := sj hm
   refine jm Y (fun w hh => (.tmp Y .nil)) (fun w hh => ⟨(), rfl, trivial, hh.se [] [] 0 Y Y Y rfl⟩)
  replace hm := ifE h2 hm
  refine js (ja (jp (je Y Y (j7 1 runUnderlying37 Y sizeOf3 Y Y (kx 0 isAgg3 Y Y Y Y ?_)))))
  obtain ⟨t14, h4, hm⟩ := bindO hm
  refine jb Y Y Y (fun _ _ => Za h4 Y Y) (jl Y Y (jo (ju ?_)))
  obtain rfl := sj hm
  refine jm Y (fun w hh => (.tmp Y .nil)) (fun w hh => ⟨(), rfl, trivial, hh.se [] [] 0 Y Y Y rfl⟩)
structure qm where
  r0 : Int
  r1 : Int
structure za where
  sum10 : Int
  t60 : Int
def K1 (m1 : Marks) (t63 : Int) (s : za) (s0 : Scalps) (x : Int) (s_1 : Unit) : Option (Unit ⊕ Int) :=
 (ix m1.strips x).bind fun t73 =>
 (addc t63 t73).bind fun t75 =>
 (jI (⟨s.t60, x⟩ : Pair) s0.strips s0.carried).bind fun t81 =>
 if t81 < t75 then
 (some (.inr 8)) else
 (some (.inl ()))
def K3 (m1 : Marks) (s0 : Scalps) (t18b : (List (Pair × Bool))) (s : za) : Option (za ⊕ (Int ⊕ qm)) :=
 if s.t60 < (m1.tenants.length : Int) then
 ((ix m1.tenants s.t60).bind fun t63 =>
 (JS s0.strips s0.carried s.t60).bind fun t67 =>
 if (s0.strips.length : Int) ≤ 1000000 then ((iterX (K1 m1 t63 s s0) (reachL s0.strips.length t18b t67) ()).bind fun o_3 =>
 oc o_3 (fun s_1 => (ix s0.carried s.t60).bind fun t88 =>
 (KF t63 t88).bind fun t90 =>
 (addc s.sum10 t90).bind fun t91 =>
 (addc s.t60 1).bind fun t92 =>
 some (.inl (⟨t91, t92⟩ : za))) (fun b_7 => some (.inr (.inr (⟨0, b_7⟩ : qm))))) else none) else
 (some (.inr (.inl s.sum10)))
structure z9 where
  sum10 : Int
  t96 : Int
def KW (m1 : Marks) (s0 : Scalps) (s_2 : z9) : Option (z9 ⊕ Int) :=
 if s_2.t96 < (m1.strips.length : Int) then
 ((ix m1.strips s_2.t96).bind fun t99 =>
 (ix s0.strips s_2.t96).bind fun t106 =>
 (kb (⟨t106.tenant, (⟨t106.lay.lo, t106.lay.hi⟩ : Span), (⟨t106.seeded.lo, t106.seeded.hi⟩ : Span), (⟨t106.left.lo, t106.left.hi⟩ : Span)⟩ : Strip)).bind fun t108 =>
 (KF t99 t108).bind fun t109 =>
 (addc s_2.sum10 t109).bind fun t110 =>
 (addc s_2.t96 1).bind fun t111 =>
 some (.inl (⟨t110, t111⟩ : z9))) else
 (some (.inr s_2.sum10))
def Qd (s0 : Scalps) (m1 : Marks) : Option qm :=
 (kM s0).bind fun t18 =>
 oc t18 (fun t18a => some (⟨0, t18a⟩ : qm)) (fun t18b => (if (m1.strips.length : Int) = (s0.strips.length : Int) then
 (some (!decide ((m1.tenants.length : Int) = (s0.carried.length : Int)))) else
 (some true)).bind fun o =>
 if o = true then
 (some (⟨0, 2⟩ : qm)) else
 (((Jc m1.strips).bind fun t46 =>
 if (!t46) = true then
 (some true) else
 ((Jc m1.tenants).bind fun t52 =>
 some (!t52))).bind fun o_1 =>
 if o_1 = true then
 (some (⟨0, 3⟩ : qm)) else
 ((Jj s0.strips s0.carried).bind fun t56 =>
 (iterM FU (K3 m1 s0 t18b) (⟨0, 0⟩ : za)).bind fun o_2 =>
 oc o_2 (fun j_1 => (iterM FU (KW m1 s0) (⟨j_1, 0⟩ : z9)).bind fun o_4 =>
 some (⟨o_4, 0⟩ : qm)) (fun r_3 => some r_3))))
theorem Y2 (s0 : Scalps) (m1 : Marks) (qa0 : Option Addr) (na0 ca0 : Nat) (qa1 : Option Addr) (na1 ca1 : Nat) (qa2 : Option Addr) (na2 ca2 : Nat) (qa3 : Option Addr) (na3 ca3 : Nat) (w : World) (hw : HV w (keys [] []) [] [] [(aB qa0, aO qa0, RSt.enc s0.strips), (aB qa1, aO qa1, RSp.enc s0.carried), (aB qa2, aO qa2, RI.enc m1.strips), (aB qa3, aO qa3, RI.enc m1.tenants)] w) (hna0 : s0.strips.length = na0) (hqa0 : AOK na0 qa0) (hla0 : na0 ≤ ca0) (hna1 : s0.carried.length = na1) (hqa1 : AOK na1 qa1) (hla1 : na1 ≤ ca1) (hna2 : m1.strips.length = na2) (hqa2 : AOK na2 qa2) (hla2 : na2 ≤ ca2) (hna3 : m1.tenants.length = na3) (hqa3 : AOK na3 qa3) (hla3 : na3 ≤ ca3) {res : qm} (hm : Qd s0 m1 = some res) :
    Calls Try.prog 40 #[.agg #[.slice qa0 na0 ca0, .slice qa1 na1 ca1], .agg #[.slice qa2 na2 ca2, .slice qa3 na3 ca3]] w (fun en w' => ∃ l : Unit, en = .returned (.tuple #[.int .i64 res.r0, .int .i64 res.r1]) ∧ (True) ∧ HV w (keys [] []) [] [] [] w') := by
  unfold Qd at hm
  refine YR (args := [.agg #[.slice qa0 na0 ca0, .slice qa1 na1 ca1], .agg #[.slice qa2 na2 ca2, .slice qa3 na3 ca3]]) func40 Y ntmps40 Y (e := [(0, _), (1, _)]) Y (H := HV w (keys [] []) [] [] [(aB qa0, aO qa0, RSt.enc s0.strips), (aB qa1, aO qa1, RSp.enc s0.carried), (aB qa2, aO qa2, RI.enc m1.strips), (aB qa3, aO qa3, RI.enc m1.tenants)]) hw ?_
  refine Yy (jp ?_)
  refine jF Y Y (fun b h1 => ?_)
  refine jF Y Y (fun b_1 h2 => ?_)
  refine jq (fun w => zeroValue3 w) Y (fun b_2 h3 => ?_)
  refine jq (fun w => zeroValue33 w) Y (fun b_3 h4 => ?_)
  refine jV (qX [_, _] 3 isAgg28 sizeOf28 Y Y Y Y ?_)
  obtain ⟨t18, h5, hm⟩ := bindO hm
  rcases t18 with t18a | t18b
  ·replace hm := ocL hm
   refine jd [] [] Y Y Y Y Y Y Y call65 (fun w hh => kn s0 qa0 na0 ca0 qa1 na1 ca1 w (HV.callee (S0 := []) (vs0 := []) hh (roR hh 0 Y (roR hh 1 Y roN))) hna0 hqa0 hla0 hna1 hqa1 hla1 h5) (fun l h6 => ?_)
   have h7 := h6
   refine je Y Y (ka Y Y Y (ka Y Y Y (jl Y Y (jl Y Y (jV (jl Y Y (jo ?_)))))))
   refine jk (jj (jp (je Y Y (jb Y Y Y (fun _ _ => Qk h7 Y Y) (jl Y Y (jo (y8 Y Y ?_)))))))
   refine jp (je Y Y (yo (cs' := #[_]) (S' := [_, _, _, _]) 1 (fun w => sizeOf3 w) Y Y Y Y Y Y Y (yo (cs' := #[_]) (S' := [_, _, _, _]) 0 (fun w => sizeOf33 w) Y Y Y Y Y Y Y (jo (ju (jy (jf ?_)))))))
   obtain rfl := sj hm
   refine KC Y Y Y (fun w hh => (.cell Y (loadVar_one (isAgg3 _) (hh.cell 1 Y Y)) (.cell Y (loadVar_one (isAgg33 _) (hh.cell 0 Y Y)) .nil))) (fun w hh => ⟨(), rfl, trivial, hh.se [] [] 4 Y Y Y rfl⟩)
  replace hm := ocR hm
  refine jd [] [] Y Y Y Y Y Y Y call65 (fun w hh => kn s0 qa0 na0 ca0 qa1 na1 ca1 w (HV.callee (S0 := []) (vs0 := []) hh (roR hh 0 Y (roR hh 1 Y roN))) hna0 hqa0 hla0 hna1 hqa1 hla1 h5) (fun l_1 h8 => ?_)
  refine jH (S' := [_, _, _, _, _, _]) (vs' := [_]) [0, 1, 2, 3, 4, 5] [0] 0 Y Y Y Y (je Y Y (ka Y Y Y (ka Y Y Y (jl Y Y (jl Y Y (jV (jl Y Y ?_)))))))
  refine jo (jk (jj (jp (je Y Y (jb Y Y Y (fun _ _ => q5 Y Y) (jl Y Y (jo ?_)))))))
  refine qS Y Y (jk ?_)
  obtain ⟨o, h9, h10⟩ := bindO hm
  refine QY (ι := Unit) (fun l_2 => mks []) (fun l_2 => True) (fun l_2 => [(2, ptr b 0), (3, ptr b_1 0), (4, ptr b_2 0), (5, ptr b_3 0), (6, ptr l_1.1 0), (8, .func (.func 99) #[] #[]), (25, .bool o)]) (fun l_2 => [kc l_1.1 #[.slice qa0 na0 ca0, .slice qa1 na1 ca1, .map (some l_1.2)] 163, (l_1.2, gobj (kR RPr) kB t18b), kc b_3 #[.int .i64 0] 33, kc b_2 #[.int .i64 0] 3, kc b_1 #[.slice qa2 na2 ca2, .slice qa3 na3 ca3] 81, kc b #[.slice qa0 na0 ca0, .slice qa1 na1 ca1] 28]) (fun l_2 => [mkV []]) ?_ ?_
  ·replace hm := h9
   refine jh (j7 0 runUnderlying81 Y sizeOf32 Y Y (kx 4 isAgg32 Y Y Y Y (jb Y Y Y (fun w _ => jR hna2 (runUnderlying32 w) Y) (j7 0 runUnderlying28 Y sizeOf25 Y Y (kx 5 isAgg25 Y Y Y Y (jb Y Y Y (fun w _ => jR hna0 (runUnderlying25 w) Y) (jb Y Y Y (fun _ _ => q5 Y Y) ?_)))))))
   refine je Y Y ?_
   refine jZ 33 Y (fun h11 => ?_) (fun h11 => ?_)
   ·replace hm := ifF (of_ndec_true h11) hm
    refine g_k Y Y Y Y (g_k Y Y Y Y (g_k Y Y Y Y (g_k Y Y Y Y (g_k Y Y Y Y (g_k Y Y Y Y (g_k Y Y Y Y (qO Y Y Y ?_)))))))
    refine jl Y Y (jx ?_)
    obtain rfl := sj hm
    exact Kp () Y (trivial) (sE Y) (fun w hh => hh)
   replace hm := ifT (of_ndec_false h11) hm
   refine jc Y Y (j7 1 runUnderlying81 Y sizeOf32 Y Y (jc Y Y (kx 4 isAgg32 Y Y Y Y (jc Y Y (jb Y Y Y (fun w _ => jR hna3 (runUnderlying32 w) Y) (jc Y Y (j7 1 runUnderlying28 Y sizeOf26 Y Y ?_)))))))
   refine jc Y Y (kx 5 isAgg26 Y Y Y Y (jc Y Y (jb Y Y Y (fun w _ => jR hna1 (runUnderlying26 w) Y) (jc Y Y (jb Y Y Y (fun _ _ => q5 Y Y) (yW Y Y Y (jl Y Y ?_)))))))
   refine jx ?_
   obtain rfl := sj hm
   exact Kp () Y (trivial) (sE Y) (fun w hh => hh)
  intro l_2 hj
  replace hm := h10
  refine ja ?_
  refine jr Y (fun h12 => ?_) (fun h12 => ?_)
  ·replace hm := ifT (h12) hm
   refine jp (yo (cs' := #[_]) (S' := [_, _, _, _, _, _]) 3 (fun w => sizeOf3 w) Y Y Y Y Y Y Y (yo (cs' := #[_]) (S' := [_, _, _, _, _, _]) 2 (fun w => sizeOf33 w) Y Y Y Y Y Y Y (jo (ju (jy (jf ?_))))))
   obtain rfl := sj hm
   refine KC Y Y Y (fun w hh => (.cell Y (loadVar_one (isAgg3 _) (hh.cell 3 Y Y)) (.cell Y (loadVar_one (isAgg33 _) (hh.cell 2 Y Y)) .nil))) (fun w hh => ⟨(), rfl, trivial, hh.se [] [] 4 Y Y Y rfl⟩)
  replace hm := ifN h12 hm
  refine jk ?_
  obtain ⟨o_1, h13, h14⟩ := bindO hm
  refine QY (ι := Unit) (fun l_3 => mks []) (fun l_3 => True) (fun l_3 => [(2, ptr b 0), (3, ptr b_1 0), (4, ptr b_2 0), (5, ptr b_3 0), (6, ptr l_1.1 0), (42, .bool o_1)]) (fun l_3 => [kc l_1.1 #[.slice qa0 na0 ca0, .slice qa1 na1 ca1, .map (some l_1.2)] 163, (l_1.2, gobj (kR RPr) kB t18b), kc b_3 #[.int .i64 0] 33, kc b_2 #[.int .i64 0] 3, kc b_1 #[.slice qa2 na2 ca2, .slice qa3 na3 ca3] 81, kc b #[.slice qa0 na0 ca0, .slice qa1 na1 ca1] 28]) (fun l_3 => [mkV []]) ?_ ?_
  ·replace hm := h13
   refine jh (j7 0 runUnderlying81 Y sizeOf32 Y Y (kx 4 isAgg32 Y Y Y Y (je Y Y ?_)))
   obtain ⟨t46, h15, hm⟩ := bindO hm
   refine jd [] [] Y Y Y Y Y Y Y call91 (fun w hh => KZ m1.strips qa2 na2 ca2 w (HV.callee (S0 := []) (vs0 := []) hh (roR hh 2 Y roN)) hna2 hqa2 hla2 h15) (fun l_4 h16 => ?_)
   refine jb Y Y Y (fun _ _ => qv Y) (je Y Y ?_)
   refine jZ 48 Y (fun h17 => ?_) (fun h17 => ?_)
   ·replace hm := ifT (h17) hm
    refine g_k Y Y Y Y (g_k Y Y Y Y (g_k Y Y Y Y (g_k Y Y Y Y (g_k Y Y Y Y (qO Y Y Y (jl Y Y (jx ?_)))))))
    obtain rfl := sj hm
    exact Kp () Y (trivial) (sE Y) (fun w hh => hh)
   replace hm := ifN h17 hm
   refine jc Y Y (j7 1 runUnderlying81 Y sizeOf32 Y Y (jc Y Y (kx 4 isAgg32 Y Y Y Y (jc Y Y (je Y Y (jc Y Y ?_))))))
   obtain ⟨t52, h18, hm⟩ := bindO hm
   refine jd [] [] Y Y Y Y Y Y Y call91 (fun w hh => KZ m1.tenants qa3 na3 ca3 w (HV.callee (S0 := []) (vs0 := []) hh (roR hh 3 Y roN)) hna3 hqa3 hla3 h18) (fun l_5 h19 => ?_)
   refine jc Y Y (jb Y Y Y (fun _ _ => qv Y) (yW Y Y Y (jl Y Y (jx ?_))))
   obtain rfl := sj hm
   exact Kp () Y (trivial) (sE Y) (fun w hh => hh)
  intro l_3 hj
  replace hm := h14
  refine ja ?_
  refine jr Y (fun h20 => ?_) (fun h20 => ?_)
  ·replace hm := ifT (h20) hm
   refine jp (yo (cs' := #[_]) (S' := [_, _, _, _, _, _]) 3 (fun w => sizeOf3 w) Y Y Y Y Y Y Y (yo (cs' := #[_]) (S' := [_, _, _, _, _, _]) 2 (fun w => sizeOf33 w) Y Y Y Y Y Y Y (jo (ju (jy (jf ?_))))))
   obtain rfl := sj hm
   refine KC Y Y Y (fun w hh => (.cell Y (loadVar_one (isAgg3 _) (hh.cell 3 Y Y)) (.cell Y (loadVar_one (isAgg33 _) (hh.cell 2 Y Y)) .nil))) (fun w hh => ⟨(), rfl, trivial, hh.se [] [] 4 Y Y Y rfl⟩)
  replace hm := ifN h20 hm
  refine js (jt (ja (jp (je Y Y ?_))))
  obtain ⟨t56, h21, hm⟩ := bindO hm
  refine jd [] [] Y Y Y Y Y Y Y call67 (fun w hh => K0 s0.strips s0.carried l_1.1 qa0 na0 ca0 qa1 na1 ca1 (.map (some l_1.2)) w (HV.callee (S0 := []) (vs0 := []) hh (roC (bsep (hh.bseg 0 Y)) (roR hh 0 Y (roR hh 1 Y roN)))) hna0 hqa0 hla0 hna1 hqa1 hla1 h21) (fun l_6 h22 => ?_)
  refine jH (S' := [_, _, _, _, _, _, _]) (vs' := [_]) [0, 1, 2, 3, 4, 5, 6] [0] 0 Y Y Y Y ?_
  refine jq (fun w => zeroValue123 w) Y (fun b_4 h23 => ?_)
  refine jB (us := #[_]) (cs' := [_]) (S' := [_, _, _, _, _, _, _, _]) 0 (fun w => sizeOf123 w) Y Y Y Y Y Y Y (jV (jl Y Y (jo (jk (jp (j7 1 runUnderlying81 Y sizeOf32 Y Y (kx 6 isAgg32 Y Y Y Y ?_)))))))
  refine jb Y Y Y (fun w _ => jR hna3 (runUnderlying32 w) Y) (je Y Y (jo ?_))
  obtain ⟨o_2, h24, h25⟩ := bindO hm
  refine QY (ι := Int × List Nat) (fun j => mks j.2) (fun j => o_2 = .inl j.1) (fun j => [(2, ptr b 0), (3, ptr b_1 0), (4, ptr b_2 0), (5, ptr b_3 0), (10, .int .i64 j.1)]) (fun j => [kc b_4 #[.func (.func 122) #[] #[ptr l_6 0]] 123, kc l_6 #[.func (.func 97) #[ptr l_1.1 0] #[]] 131, kc l_1.1 #[.slice qa0 na0 ca0, .slice qa1 na1 ca1, .map (some l_1.2)] 163, (l_1.2, gobj (kR RPr) kB t18b), kc b_3 #[.int .i64 0] 33, kc b_2 #[.int .i64 0] 3, kc b_1 #[.slice qa2 na2 ca2, .slice qa3 na3 ca3] 81, kc b #[.slice qa0 na0 ca0, .slice qa1 na1 ca1] 28]) (fun j => [mkV j.2]) ?_ ?_
  ·replace hm := h24
   refine jj ?_
   refine Qq (ι := List Nat) hm (fun s l_7 => mks l_7) (fun s l_7 => True) (fun s l_7 => [(2, ptr b 0), (3, ptr b_1 0), (4, ptr b_2 0), (5, ptr b_3 0), (6, ptr l_1.1 0), (9, ptr b_4 0), (10, .int .i64 s.sum10), (58, .slice qa3 na3 ca3), (59, .int .i64 (m1.tenants.length : Int)), (60, .int .i64 s.t60)]) (fun s l_7 => [kc b_4 #[.func (.func 122) #[] #[ptr l_6 0]] 123, kc l_6 #[.func (.func 97) #[ptr l_1.1 0] #[]] 131, kc l_1.1 #[.slice qa0 na0 ca0, .slice qa1 na1 ca1, .map (some l_1.2)] 163, (l_1.2, gobj (kR RPr) kB t18b), kc b_3 #[.int .i64 0] 33, kc b_2 #[.int .i64 0] 3, kc b_1 #[.slice qa2 na2 ca2, .slice qa3 na3 ca3] 81, kc b #[.slice qa0 na0 ca0, .slice qa1 na1 ca1] 28]) (fun s l_7 => [mkV l_7]) [] Y (trivial) (sE Y) (fun w hh => hh) (fun s l_7 r hpl hm h26 => ?_)
   unfold K3 at hm
   refine jp (zK Y Y Y (jo (jk ?_)))
   refine jr Y (fun h27 => ?_) (fun h27 => ?_)
   ·replace hm := ifD h27 hm
    refine js (ja (jk (jj (jp (je Y Y ?_)))))
    obtain ⟨t63, h28, hm⟩ := bindO hm
    refine jb Y Y Y (fun w _ => q7 h28 (runUnderlying32 w) (sizeOf3 w) Y Y hna3 hqa3) (jb Y Y Y (fun w hh => qx RI 0 h28 (isAgg3 w) Y (hh.seg 3 Y) Y (Nat.add_zero _).symm) ?_)
    refine jq (fun w => zeroValue3 w) Y (fun b_5 h29 => ?_)
    refine jq (fun w => zeroValue3 w) Y (fun b_6 h30 => ?_)
    refine yo (cs' := #[_]) (S' := [_, _, _, _, _, _, _, _, _, _]) 1 (fun w => sizeOf3 w) Y Y Y Y Y Y Y (yo (cs' := #[_]) (S' := [_, _, _, _, _, _, _, _, _, _]) 0 (fun w => sizeOf3 w) Y Y Y Y Y Y Y (jo (jk (jp (je Y Y (kx 1 isAgg3 Y Y Y Y ?_))))))
    obtain ⟨t67, h31, hm⟩ := bindO hm
    refine jd [] [] Y Y Y Y Y Y Y call100 (fun w hh => QX s0.strips s0.carried s.t60 l_1.1 qa0 na0 ca0 qa1 na1 ca1 (.map (some l_1.2)) w (HV.callee (S0 := []) (vs0 := []) hh (roC (bsep (hh.bseg 4 Y)) (roR hh 0 Y (roR hh 1 Y roN)))) hna0 hqa0 hla0 hna1 hqa1 hla1 h31) (fun l_8 h32 => ?_)
    refine jH (S' := [_, _, _, _, _, _, _, _, _, _, _, _]) (vs' := [_]) [0, 1, 2, 3, 4, 5, 6, 7, 8, 9, 10, 11] [0] 0 Y Y Y Y (jo (jj ?_))
    obtain ⟨h33, hm⟩ := ifO hm
    refine Zf (e' := [(2, ptr b 0), (3, ptr b_1 0), (4, ptr b_2 0), (5, ptr b_3 0), (6, ptr l_1.1 0), (9, ptr b_4 0), (10, .int .i64 s.sum10), (11, ptr b_5 0), (12, ptr b_6 0), (58, .slice qa3 na3 ca3), (59, .int .i64 (m1.tenants.length : Int)), (60, .int .i64 s.t60), (67, .func (.func 134) #[] #[ptr l_8.1 0, ptr l_8.2 0])]) (sE Y) ?_
    obtain ⟨o_3, h34, hm⟩ := bindO hm
    refine YV (ι := Unit) (ι' := Unit) (reachL s0.strips.length t18b t67) (fun x => .int .i64 x) h34 (fun s_1 l_9 => True) (fun s_1 l_9 => [kc l_8.1 #[ptr l_1.1 0] 115, kc l_8.2 #[.int .i64 t67] 3, kc b_6 #[.int .i64 t63] 3, kc b_5 #[.int .i64 s.t60] 3, kc b_4 #[.func (.func 122) #[] #[ptr l_6 0]] 123, kc l_6 #[.func (.func 97) #[ptr l_1.1 0] #[]] 131, kc l_1.1 #[.slice qa0 na0 ca0, .slice qa1 na1 ca1, .map (some l_1.2)] 163, (l_1.2, gobj (kR RPr) kB t18b), kc b_3 #[.int .i64 0] 33, kc b_2 #[.int .i64 0] 3, kc b_1 #[.slice qa2 na2 ca2, .slice qa3 na3 ca3] 81, kc b #[.slice qa0 na0 ca0, .slice qa1 na1 ca1] 28]) (fun s_1 l_9 => [mkV l_7]) (fun b_7 l_10 => True) (fun b_7 l_10 => [kc l_8.1 #[ptr l_1.1 0] 115, kc l_8.2 #[.int .i64 t67] 3, kc b_6 #[.int .i64 t63] 3, kc b_5 #[.int .i64 s.t60] 3, kc b_4 #[.func (.func 122) #[] #[ptr l_6 0]] 123, kc l_6 #[.func (.func 97) #[ptr l_1.1 0] #[]] 131, kc l_1.1 #[.slice qa0 na0 ca0, .slice qa1 na1 ca1, .map (some l_1.2)] 163, (l_1.2, gobj (kR RPr) kB t18b), kc b_3 #[.int .i64 b_7] 33, kc b_2 #[.int .i64 0] 3, kc b_1 #[.slice qa2 na2 ca2, .slice qa3 na3 ca3] 81, kc b #[.slice qa0 na0 ca0, .slice qa1 na1 ca1] 28]) (fun b_7 l_10 => [mkV l_7]) () (trivial) (fun w hh => hh) (RdReach l_8.1 l_8.2 l_1.1 l_1.2 t67 qa0 na0 ca0 t18b) (fun s_1 l_9 w h35 hh => ⟨hh.cell 0 Y rfl, hh.cell 1 Y rfl, hh.cell 6 Y rfl, hh.cell 6 Y rfl, hh.get 7 rfl⟩) (fun b_7 l_10 w h35 hh => ⟨hh.cell 0 Y rfl, hh.cell 1 Y rfl, hh.cell 6 Y rfl, hh.cell 6 Y rfl, hh.get 7 rfl⟩) (it_reach _ _ _ l_8.1 l_8.2 l_1.1 l_1.2 t67 qa0 na0 ca0 s0.strips t18b hna0 h33) Y call134 Y (e1 := fun x => (13, .int .i64 x) :: (68, .int .i64 x) :: [(2, ptr b 0), (3, ptr b_1 0), (4, ptr b_2 0), (5, ptr b_3 0), (6, ptr l_1.1 0), (9, ptr b_4 0), (10, .int .i64 s.sum10), (11, ptr b_5 0), (12, ptr b_6 0), (58, .slice qa3 na3 ca3), (59, .int .i64 (m1.tenants.length : Int)), (60, .int .i64 s.t60), (67, .func (.func 134) #[] #[ptr l_8.1 0, ptr l_8.2 0])]) (fun x lr H X hX => ?_) (fun x s_1 r_1 l_9 lr w1 h35 hm h36 => ?_) (fun s_1 l_9 D h37 h35 => ?_) (fun b_7 l_10 D h37 h35 => ?_)
    ·refine jh ?_
     refine jl Y Y (jo ?_)
     exact hX
    ·unfold K1 at hm
     refine jj (jk ?_)
     refine j4 none (.hoist 0 (.free 1 (.hoist 2 (.free 3 (.free 4 (.hoist 5 (.free 6 (.free 7 (.hoist 8 (.hoist 9 (.free 10 (.free 11 (.one 12 (.free 13 .done)))))))))))))) _ Y (by decide +kernel) (fun w k hh => hh.draw k) (fun w hh => hh) ?_
     refine qW 2 isAgg3 Y Y Y Y Y (qo 0 runUnderlying81 sizeOf32 Y Y Y Y (qW 10 isAgg32 Y Y Y Y Y (kU Y Y Y ?_)))
     obtain ⟨t73, h38, hm⟩ := bindO hm
     refine jg Y Y Y Y (fun w _ => q7 h38 (runUnderlying32 w) (sizeOf3 w) Y Y hna2 hqa2) (jG Y Y Y Y (fun w hh => qx RI 0 h38 (isAgg3 w) Y (hh.seg 2 Y) Y (Nat.add_zero _).symm) ?_)
     obtain ⟨t75, h39, hm⟩ := bindO hm
     refine jg Y Y Y Y (fun _ _ => KL h39 Y Y) (qo 0 runUnderlying123 sizeOf121 Y Y Y Y (qW 4 isAgg121 Y Y Y Y Y (qW 3 isAgg3 Y Y Y Y Y (kU Y Y Y (jg Y Y Y Y (fun _ _ => jA (vs := [(0, _), (1, _)]) (cells := [_, _]) Y Y) (jK Y ?_))))))
     obtain ⟨t81, h40, hm⟩ := bindO hm
     refine jd [] [] Y Y Y Y Y Y Y call122 (fun w hh => zy (⟨s.t60, x⟩ : Pair) s0.strips s0.carried l_6 l_1.1 qa0 na0 ca0 qa1 na1 ca1 (.map (some l_1.2)) w (HV.callee (S0 := []) (vs0 := []) hh (roC (bsep (hh.bseg 5 Y)) (roC (bsep (hh.bseg 6 Y)) (roR hh 0 Y (roR hh 1 Y roN))))) hna0 hqa0 hla0 hna1 hqa1 hla1 h40) (fun l_11 h41 => ?_)
     refine jv (fun w hh => hh) (jg Y Y Y Y (fun _ _ => Yv Y Y) (jN (ja ?_)))
     refine jr Y (fun h42 => ?_) (fun h42 => ?_)
     ·replace hm := ifD h42 hm
      refine jp (yo (cs' := #[_]) (S' := [_, _, _, _, _, _, _, _, _, _, _, _]) 9 (fun w => sizeOf3 w) Y Y Y Y Y Y Y (yo (cs' := #[_]) (S' := [_, _, _, _, _, _, _, _, _, _, _, _]) 8 (fun w => sizeOf33 w) Y Y Y Y Y Y Y (jo (ju (jy ?_)))))
      obtain rfl := sj hm
      exact Z3 8 () Y (trivial) (hsE [0, 1, 2, 3, 4, 5, 6, 7, 8, 9, 10, 11] [0] 4 Y Y Y Y)
     replace hm := ifE h42 hm
     refine js (jt ?_)
     obtain rfl := sj hm
     exact ZX () () Y (trivial) (hsE [0, 1, 2, 3, 4, 5, 6, 7, 8, 9, 10, 11] [0] 4 Y Y Y Y)
    ·subst h37
     replace hm := ocL hm
     refine Ya 0 Y Y (jt (ja ?_))
     refine j4 none (.free 0 (.hoist 1 (.free 2 (.hoist 3 (.hoist 4 (.free 5 (.hoist 6 (.one 7 (.free 8 (.free 9 .done)))))))))) _ Y (by decide +kernel) (fun w k hh => hh.draw k) (fun w hh => hh) ?_
     refine kU Y Y Y (qW 2 isAgg3 Y Y Y Y Y (qo 1 runUnderlying28 sizeOf26 Y Y Y Y (qW 11 isAgg26 Y Y Y Y Y (qW 3 isAgg3 Y Y Y Y Y ?_))))
     obtain ⟨t88, h43, hm⟩ := bindO hm
     refine jg Y Y Y Y (fun w _ => q7 h43 (runUnderlying26 w) (sizeOf37 w) Y Y hna1 hqa1) ?_
     refine jG Y Y Y Y (fun w hh => kT RSp 0 [.int .i64 t88.lo, .int .i64 t88.hi] h43 (isAgg37 w) (sizeOf37 w) Y (hh.seg 1 Y) Y (Nat.add_zero _).symm) ?_
     refine jK Y ?_
     obtain ⟨t90, h44, hm⟩ := bindO hm
     refine jd [] [] Y Y Y Y Y Y Y call101 (fun w hh => QW t63 t88 w (HV.callee (S0 := []) (vs0 := []) hh roN)  h44) (fun l_12 h45 => ?_)
     refine jv (fun w hh => hh) ?_
     obtain ⟨t91, h46, hm⟩ := bindO hm
     refine jg Y Y Y Y (fun _ _ => KL h46 Y Y) (jg Y Y Y Y (fun _ _ => jU Y) (jN (jt (ja (jh ?_)))))
     obtain ⟨t92, h47, hm⟩ := bindO hm
     refine yA h47 Y Y Y (je Y Y (jx ?_))
     obtain rfl := sj hm
     refine ja ?_
     exact KY _ (D :: l_7) Y Y (trivial) (sE Y) (hsE [4, 5, 6, 7, 8, 9, 10, 11] [0] 0 Y Y Y Y)
    subst h37
    replace hm := ocR hm
    refine Ya 0 Y Y (jy (jf (jy (jf (jf (jy ?_))))))
    obtain rfl := sj hm
    have hbo := h26 _ Y
    subst hbo
    refine jf ?_
    replace hm := ocR h25
    refine jf ?_
    obtain rfl := sj hm
    refine KC Y Y Y (fun w hh => (.cell Y (loadVar_one (isAgg3 _) (hh.cell 9 Y Y)) (.cell Y (loadVar_one (isAgg33 _) (hh.cell 8 Y Y)) .nil))) (fun w hh => ⟨(), rfl, trivial, hh.se [] [] 4 Y Y Y rfl⟩)
   replace hm := ifE h27 hm
   refine jP (ji (ji (jC ?_)))
   obtain rfl := sj hm
   have hbo := h26 _ Y
   subst hbo
   exact Kp (s.sum10, l_7) Y (Y) (sE Y) (fun w hh => hh)
  rintro ⟨j_1, l_13⟩ hj
  have h48 := hj
  subst h48
  replace hm := ocL h25
  refine ja (jk (jp (j7 0 runUnderlying81 Y sizeOf32 Y Y (kx 6 isAgg32 Y Y Y Y (jb Y Y Y (fun w _ => jR hna2 (runUnderlying32 w) Y) (je Y Y (jo ?_)))))))
  obtain ⟨o_4, h49, h50⟩ := bindO hm
  refine QY (ι := Unit) (fun l_14 => mks l_13) (fun l_14 => True) (fun l_14 => [(4, ptr b_2 0), (5, ptr b_3 0), (10, .int .i64 o_4)]) (fun l_14 => [kc b_4 #[.func (.func 122) #[] #[ptr l_6 0]] 123, kc l_6 #[.func (.func 97) #[ptr l_1.1 0] #[]] 131, kc l_1.1 #[.slice qa0 na0 ca0, .slice qa1 na1 ca1, .map (some l_1.2)] 163, (l_1.2, gobj (kR RPr) kB t18b), kc b_3 #[.int .i64 0] 33, kc b_2 #[.int .i64 0] 3, kc b_1 #[.slice qa2 na2 ca2, .slice qa3 na3 ca3] 81, kc b #[.slice qa0 na0 ca0, .slice qa1 na1 ca1] 28]) (fun l_14 => [mkV l_13]) ?_ ?_
  ·replace hm := h49
   refine jj ?_
   refine Qq (ι := Unit) hm (fun s_2 l_15 => mks l_13) (fun s_2 l_15 => True) (fun s_2 l_15 => [(2, ptr b 0), (4, ptr b_2 0), (5, ptr b_3 0), (10, .int .i64 s_2.sum10), (94, .slice qa2 na2 ca2), (95, .int .i64 (m1.strips.length : Int)), (96, .int .i64 s_2.t96)]) (fun s_2 l_15 => [kc b_4 #[.func (.func 122) #[] #[ptr l_6 0]] 123, kc l_6 #[.func (.func 97) #[ptr l_1.1 0] #[]] 131, kc l_1.1 #[.slice qa0 na0 ca0, .slice qa1 na1 ca1, .map (some l_1.2)] 163, (l_1.2, gobj (kR RPr) kB t18b), kc b_3 #[.int .i64 0] 33, kc b_2 #[.int .i64 0] 3, kc b_1 #[.slice qa2 na2 ca2, .slice qa3 na3 ca3] 81, kc b #[.slice qa0 na0 ca0, .slice qa1 na1 ca1] 28]) (fun s_2 l_15 => [mkV l_13]) () Y (trivial) (sE Y) (fun w hh => hh) (fun s_2 l_15 r_2 hpl hm h51 => ?_)
   unfold KW at hm
   refine jp (zK Y Y Y (jo (jk ?_)))
   refine jr Y (fun h52 => ?_) (fun h52 => ?_)
   ·replace hm := ifD h52 hm
    refine js (ja (jk (jj (jp (je Y Y ?_)))))
    obtain ⟨t99, h53, hm⟩ := bindO hm
    refine jb Y Y Y (fun w _ => q7 h53 (runUnderlying32 w) (sizeOf3 w) Y Y hna2 hqa2) (jb Y Y Y (fun w hh => qx RI 0 h53 (isAgg3 w) Y (hh.seg 2 Y) Y (Nat.add_zero _).symm) (jl Y Y (jl Y Y (jo (jh (je Y Y (je Y Y ?_)))))))
    refine j7 0 runUnderlying28 Y sizeOf25 Y Y (kx 7 isAgg25 Y Y Y Y (je Y Y ?_))
    obtain ⟨t106, h54, hm⟩ := bindO hm
    refine jb Y Y Y (fun w _ => q7 h54 (runUnderlying25 w) (sizeOf77 w) Y Y hna0 hqa0) ?_
    refine jb Y Y Y (fun w hh => kT RSt 0 [.int .i64 t106.tenant, .int .i64 t106.lay.lo, .int .i64 t106.lay.hi, .int .i64 t106.seeded.lo, .int .i64 t106.seeded.hi, .int .i64 t106.left.lo, .int .i64 t106.left.hi] h54 (isAgg77 w) (sizeOf77 w) Y (hh.seg 0 Y) Y (Nat.add_zero _).symm) ?_
    obtain ⟨t108, h55, hm⟩ := bindO hm
    refine jd [] [] Y Y Y Y Y Y Y call64 (fun w hh => qM (⟨t106.tenant, (⟨t106.lay.lo, t106.lay.hi⟩ : Span), (⟨t106.seeded.lo, t106.seeded.hi⟩ : Span), (⟨t106.left.lo, t106.left.hi⟩ : Span)⟩ : Strip) w (HV.callee (S0 := []) (vs0 := []) hh roN)  h55) (fun l_16 h56 => ?_)
    obtain ⟨t109, h57, hm⟩ := bindO hm
    refine jd [] [] Y Y Y Y Y Y Y call101 (fun w hh => QW t99 t108 w (HV.callee (S0 := []) (vs0 := []) hh roN)  h57) (fun l_17 h58 => ?_)
    obtain ⟨t110, h59, hm⟩ := bindO hm
    refine yA h59 Y Y Y (jl Y Y (jx (jt (ja (jh ?_)))))
    obtain ⟨t111, h60, hm⟩ := bindO hm
    refine yA h60 Y Y Y (je Y Y (jx ?_))
    obtain rfl := sj hm
    refine ja ?_
    exact KY _ () Y Y (trivial) (sE Y) (fun w hh => hh)
   replace hm := ifE h52 hm
   refine jP (ji (ji (jC ?_)))
   obtain rfl := sj hm
   have hbo := h51 _ Y
   subst hbo
   exact Kp () Y (trivial) (sE Y) (fun w hh => hh)
  intro l_14 hj
  replace hm := h50
  refine ja (jp (je Y Y (yo (cs' := #[_]) (S' := [_, _, _, _, _, _, _, _]) 5 (fun w => sizeOf3 w) Y Y Y Y Y Y Y (yo (cs' := #[_]) (S' := [_, _, _, _, _, _, _, _]) 4 (fun w => sizeOf33 w) Y Y Y Y Y Y Y (jo (ju ?_))))))
  obtain rfl := sj hm
  refine KC Y Y Y (fun w hh => (.cell Y (loadVar_one (isAgg3 _) (hh.cell 5 Y Y)) (.cell Y (loadVar_one (isAgg33 _) (hh.cell 4 Y Y)) .nil))) (fun w hh => ⟨(), rfl, trivial, hh.se [] [] 4 Y Y Y rfl⟩)
def km (s10 : (List Int)) (s21 : (List Int)) (s : Int) : Option (Int ⊕ (Unit ⊕ Bool)) :=
 if s < (s10.length : Int) then
 ((ix s10 s).bind fun t18 =>
 (ix s21 s).bind fun t22 =>
 if t18 = t22 then
 ((addc s 1).bind fun t25 =>
 some (.inl t25)) else
 (some (.inr (.inr false)))) else
 (some (.inr (.inl ())))
def j5 (s10 : (List Int)) (s21 : (List Int)) : Option Bool :=
 if (s10.length : Int) = (s21.length : Int) then
 ((iterM FU (km s10 s21) 0).bind fun o =>
 oc o (fun j => some true) (fun r_1 => some r_1)) else
 (some false)
theorem yP (s10 : (List Int)) (s21 : (List Int)) (qa0 : Option Addr) (na0 ca0 : Nat) (qa1 : Option Addr) (na1 ca1 : Nat) (w : World) (hw : HV w (keys [] []) [] [] [(aB qa0, aO qa0, RI.enc s10), (aB qa1, aO qa1, RI.enc s21)] w) (hna0 : s10.length = na0) (hqa0 : AOK na0 qa0) (hla0 : na0 ≤ ca0) (hna1 : s21.length = na1) (hqa1 : AOK na1 qa1) (hla1 : na1 ≤ ca1) {res : Bool} (hm : j5 s10 s21 = some res) :
    Calls Try.prog 123 #[.slice qa0 na0 ca0, .slice qa1 na1 ca1] w (fun en w' => ∃ l : Unit, en = .returned (.bool res) ∧ (True) ∧ HV w (keys [] []) [] [] [] w') := by
  unfold j5 at hm
  refine kl func123 Y ntmps123 Y (e := [(0, _), (1, _)]) Y hw (jp (jl Y Y (jo (jk (jp (je Y Y (jb Y Y Y (fun w _ => jR hna0 (runUnderlying88 w) Y) ?_)))))))
  refine je Y Y (jb Y Y Y (fun w _ => jR hna1 (runUnderlying88 w) Y) (jb Y Y Y (fun _ _ => q5 Y Y) (jo ?_)))
  refine jr Y (fun h1 => ?_) (fun h1 => ?_)
  ·replace hm := ifF (of_ndec_true h1) hm
   refine jp (jl Y Y (jo (ju (jf ?_))))
   obtain rfl := sj hm
   refine jm Y (fun w hh => (.tmp Y .nil)) (fun w hh => ⟨(), rfl, trivial, hh.se [] [] 2 Y Y Y rfl⟩)
  replace hm := ifT (of_ndec_false h1) hm
  refine js (ja (jk (jp (je Y Y (jb Y Y Y (fun w _ => jR hna0 (runUnderlying88 w) Y) (je Y Y (jo ?_)))))))
  obtain ⟨o, h2, h3⟩ := bindO hm
  refine jM (ι := Unit) (fun j => o = .inl j) (fun j => []) (fun j => []) (fun j => []) ?_ ?_
  ·replace hm := h2
   refine jj ?_
   refine jD (ι := Unit) hm (fun s l => True) (fun s l => [(0, .slice qa0 na0 ca0), (1, .slice qa1 na1 ca1), (12, .int .i64 (s10.length : Int)), (13, .int .i64 s)]) (fun s l => []) (fun s l => []) () (trivial) (sE Y) (fun w hh => hh) (fun s l r hpl hm h4 => ?_)
   unfold km at hm
   refine jp (zK Y Y Y (jo (jk ?_)))
   refine jr Y (fun h5 => ?_) (fun h5 => ?_)
   ·replace hm := ifD h5 hm
    refine js (ja (jk (jj (jp (je Y Y (jl Y Y (jo ?_)))))))
    refine jk ?_
    refine j4 none (.free 0 (.free 1 (.free 2 (.hoist 3 (.free 4 (.free 5 (.free 6 (.hoist 7 (.free 8 .done))))))))) _ Y (by decide +kernel) (fun w k hh => hh.draw k) (fun w hh => hh) ?_
    refine kU Y Y Y (kU Y Y Y ?_)
    obtain ⟨t18, h6, hm⟩ := bindO hm
    refine jg Y Y Y Y (fun w _ => q7 h6 (runUnderlying88 w) (sizeOf91 w) Y Y hna0 hqa0) (jG Y Y Y Y (fun w hh => qx RI 0 h6 (isAgg91 w) Y (hh.seg 0 Y) Y (Nat.add_zero _).symm) (kU Y Y Y (kU Y Y Y ?_)))
    obtain ⟨t22, h7, hm⟩ := bindO hm
    refine jg Y Y Y Y (fun w _ => q7 h7 (runUnderlying88 w) (sizeOf91 w) Y Y hna1 hqa1) (jG Y Y Y Y (fun w hh => qx RI 0 h7 (isAgg91 w) Y (hh.seg 1 Y) Y (Nat.add_zero _).symm) (jg Y Y Y Y (fun _ _ => q5 Y Y) (jN (ja ?_))))
    refine jr Y (fun h8 => ?_) (fun h8 => ?_)
    ·replace hm := ifF (of_ndec_true h8) hm
     refine jp (jl Y Y (jo (ju (jy (jf (jf (jy ?_)))))))
     obtain rfl := sj hm
     have hbo := h4 _ Y
     subst hbo
     refine jf ?_
     replace hm := ocR h3
     refine jf ?_
     obtain rfl := sj hm
     refine jm Y (fun w hh => (.tmp Y .nil)) (fun w hh => ⟨(), rfl, trivial, hh.se [] [] 2 Y Y Y rfl⟩)
    replace hm := ifT (of_ndec_false h8) hm
    refine js (jt (ja (jh ?_)))
    obtain ⟨t25, h9, hm⟩ := bindO hm
    refine yA h9 Y Y Y (je Y Y (jx ?_))
    obtain rfl := sj hm
    refine ja ?_
    exact jz _ () Y (trivial) (sE Y) (fun w hh => hh)
   replace hm := ifE h5 hm
   refine jP (ji (ji (jC ?_)))
   obtain rfl := sj hm
   have hbo := h4 _ Y
   subst hbo
   exact jn () (Y) (.nil) (fun w hh => hh)
  intro j hj
  have h10 := hj
  subst h10
  replace hm := ocL h3
  refine ja (jp (jl Y Y (jo (ju ?_))))
  obtain rfl := sj hm
  refine jm Y (fun w hh => (.tmp Y .nil)) (fun w hh => ⟨(), rfl, trivial, hh.se [] [] 2 Y Y Y rfl⟩)
def yO (a0 : (List Int)) (b1 : (List Int)) : Option Bool :=
 (j5 a0 b1).bind fun t7 =>
 some t7
theorem KQ (a0 : (List Int)) (b1 : (List Int)) (qa0 : Option Addr) (na0 ca0 : Nat) (qa1 : Option Addr) (na1 ca1 : Nat) (w : World) (hw : HV w (keys [] []) [] [] [(aB qa0, aO qa0, RI.enc a0), (aB qa1, aO qa1, RI.enc b1)] w) (hna0 : a0.length = na0) (hqa0 : AOK na0 qa0) (hla0 : na0 ≤ ca0) (hna1 : b1.length = na1) (hqa1 : AOK na1 qa1) (hla1 : na1 ≤ ca1) {res : Bool} (hm : yO a0 b1 = some res) :
    Calls Try.prog 76 #[.slice qa0 na0 ca0, .slice qa1 na1 ca1] w (fun en w' => ∃ l : Unit, en = .returned (.bool res) ∧ (True) ∧ HV w (keys [] []) [] [] [] w') := by
  unfold yO at hm
  refine kl func76 Y ntmps76 Y (e := [(0, _), (1, _)]) Y hw (jp (jl Y Y (jV (je Y Y (je Y Y ?_)))))
  obtain ⟨t7, h1, hm⟩ := bindO hm
  refine jd [] [] Y Y Y Y Y Y Y call123 (fun w hh => yP a0 b1 qa0 na0 ca0 qa1 na1 ca1 w (HV.callee (S0 := []) (vs0 := []) hh (roR hh 0 Y (roR hh 1 Y roN))) hna0 hqa0 hla0 hna1 hqa1 hla1 h1) (fun l h2 => ?_)
  refine jl Y Y (jo (ju ?_))
  obtain rfl := sj hm
  refine jm Y (fun w hh => (.tmp Y .nil)) (fun w hh => ⟨(), rfl, trivial, hh.se [] [] 2 Y Y Y rfl⟩)
def zq (x0 : Int) (a11_f0 : Scalps) : Option Bool :=
 (j8 a11_f0 x0).bind fun t6 =>
 some (!t6)
theorem K7 (x0 : Int) (a11_f0 : Scalps) (rb : Nat) (qa1 : Option Addr) (na1 ca1 : Nat) (qa2 : Option Addr) (na2 ca2 : Nat) (w : World) (hw : HV w (keys [] []) [] [] [(rb, 0, [.func (.func 53) #[.agg #[.slice qa1 na1 ca1, .slice qa2 na2 ca2]] #[]]), (aB qa1, aO qa1, RSt.enc a11_f0.strips), (aB qa2, aO qa2, RSp.enc a11_f0.carried)] w)  (hna1 : a11_f0.strips.length = na1) (hqa1 : AOK na1 qa1) (hla1 : na1 ≤ ca1) (hna2 : a11_f0.carried.length = na2) (hqa2 : AOK na2 qa2) (hla2 : na2 ≤ ca2) {res : Bool} (hm : zq x0 a11_f0 = some res) :
    Calls Try.prog 128 #[.int .i64 x0, ptr rb 0] w (fun en w' => ∃ l : Unit, en = .returned (.bool res) ∧ (True) ∧ HV w (keys [] []) [] [] [] w') := by
  unfold zq at hm
  refine kl func128 Y ntmps128 Y (e := [(0, _), (1, _)]) Y hw (jp (jl Y Y (jV (jb Y Y Y (fun w hh => jQ (isAgg71 w) Y (segCell (hh.seg 0 Y) 0 Y)) (je Y Y ?_)))))
  obtain ⟨t6, h1, hm⟩ := bindO hm
  refine jd [] [] Y Y Y Y Y Y Y call53 (fun w hh => yr a11_f0 x0 qa1 na1 ca1 qa2 na2 ca2 w (HV.callee (S0 := []) (vs0 := []) hh (roR hh 1 Y (roR hh 2 Y roN))) hna1 hqa1 hla1 hna2 hqa2 hla2 h1) (fun l h2 => ?_)
  refine jb Y Y Y (fun _ _ => qv Y) (jl Y Y (jo (ju ?_)))
  obtain rfl := sj hm
  refine jm Y (fun w hh => (.tmp Y .nil)) (fun w hh => ⟨(), rfl, trivial, hh.se [] [] 3 Y Y Y rfl⟩)
end Go.Proofs.Ws

namespace Go.Proofs.Ws
set_option maxHeartbeats 4000000
set_option maxRecDepth 100000
open Go Go.Fw Go.Gx Go.Sp
open Try
set_option linter.unusedVariables false
def yv (s0 : (List Int)) (f1_c0_f0 : Scalps) (s : Int) : Option (Int ⊕ (Unit ⊕ Int)) :=
 if s < (s0.length : Int) then
 ((ix s0 s).bind fun t14 =>
 (zq t14 f1_c0_f0).bind fun t16 =>
 if t16 = true then
 (some (.inr (.inr s))) else
 ((addc s 1).bind fun t18 =>
 some (.inl t18))) else
 (some (.inr (.inl ())))
def qu (s0 : (List Int)) (f1_c0_f0 : Scalps) : Option Int :=
 (iterM FU (yv s0 f1_c0_f0) 0).bind fun o =>
 oc o (fun j => some (-1)) (fun r_1 => some r_1)
theorem J8 (s0 : (List Int)) (f1_c0_f0 : Scalps) (qa0 : Option Addr) (na0 ca0 : Nat) (rb : Nat) (qa2 : Option Addr) (na2 ca2 : Nat) (qa3 : Option Addr) (na3 ca3 : Nat) (w : World) (hw : HV w (keys [] []) [] [] [(aB qa0, aO qa0, RI.enc s0), (rb, 0, [.func (.func 53) #[.agg #[.slice qa2 na2 ca2, .slice qa3 na3 ca3]] #[]]), (aB qa2, aO qa2, RSt.enc f1_c0_f0.strips), (aB qa3, aO qa3, RSp.enc f1_c0_f0.carried)] w) (hna0 : s0.length = na0) (hqa0 : AOK na0 qa0) (hla0 : na0 ≤ ca0)  (hna2 : f1_c0_f0.strips.length = na2) (hqa2 : AOK na2 qa2) (hla2 : na2 ≤ ca2) (hna3 : f1_c0_f0.carried.length = na3) (hqa3 : AOK na3 qa3) (hla3 : na3 ≤ ca3) {res : Int} (hm : qu s0 f1_c0_f0 = some res) :
    Calls Try.prog 146 #[.slice qa0 na0 ca0, .func (.func 128) #[] #[ptr rb 0]] w (fun en w' => ∃ l : Unit, en = .returned (.int .i64 res) ∧ (True) ∧ HV w (keys [] []) [] [] [] w') := by
  unfold qu at hm
  refine kl func146 Y ntmps146 Y (e := [(0, _), (1, _)]) Y hw (jp (jl Y Y (jo (jk (jp (je Y Y (jb Y Y Y (fun w _ => jR hna0 (runUnderlying32 w) Y) ?_)))))))
  refine je Y Y (jo ?_)
  obtain ⟨o, h1, h2⟩ := bindO hm
  refine jM (ι := Unit) (fun j => o = .inl j) (fun j => []) (fun j => []) (fun j => []) ?_ ?_
  ·replace hm := h1
   refine jj ?_
   refine jD (ι := Unit) hm (fun s l => True) (fun s l => [(0, .slice qa0 na0 ca0), (1, .func (.func 128) #[] #[ptr rb 0]), (7, .int .i64 (s0.length : Int)), (8, .int .i64 s)]) (fun s l => []) (fun s l => []) () (trivial) (sE Y) (fun w hh => hh) (fun s l r hpl hm h3 => ?_)
   unfold yv at hm
   refine jp (zK Y Y Y (jo (jk ?_)))
   refine jr Y (fun h4 => ?_) (fun h4 => ?_)
   ·replace hm := ifD h4 hm
    refine js (ja (jk (jj (jp (je Y Y (jl Y Y (jV ?_)))))))
    refine je Y Y (je Y Y (je Y Y ?_))
    obtain ⟨t14, h5, hm⟩ := bindO hm
    refine jb Y Y Y (fun w _ => q7 h5 (runUnderlying32 w) (sizeOf3 w) Y Y hna0 hqa0) (jb Y Y Y (fun w hh => qx RI 0 h5 (isAgg3 w) Y (hh.seg 0 Y) Y (Nat.add_zero _).symm) ?_)
    obtain ⟨t16, h6, hm⟩ := bindO hm
    refine jd [] [] Y Y Y Y Y Y Y call128 (fun w hh => K7 t14 f1_c0_f0 rb qa2 na2 ca2 qa3 na3 ca3 w (HV.callee (S0 := []) (vs0 := []) hh (roR hh 1 Y (roR hh 2 Y (roR hh 3 Y roN)))) hna2 hqa2 hla2 hna3 hqa3 hla3 h6) (fun l_1 h7 => ?_)
    refine jo ?_
    refine jr Y (fun h8 => ?_) (fun h8 => ?_)
    ·replace hm := ifT (h8) hm
     refine jp (je Y Y (jl Y Y (jo (ju (jy (jf (jf ?_)))))))
     refine jy ?_
     obtain rfl := sj hm
     have hbo := h3 _ Y
     subst hbo
     refine jf ?_
     replace hm := ocR h2
     refine jf ?_
     obtain rfl := sj hm
     refine jm Y (fun w hh => (.tmp Y .nil)) (fun w hh => ⟨(), rfl, trivial, hh.se [] [] 4 Y Y Y rfl⟩)
    replace hm := ifN h8 hm
    refine js (jt (ja (jh ?_)))
    obtain ⟨t18, h9, hm⟩ := bindO hm
    refine yA h9 Y Y Y (je Y Y (jx ?_))
    obtain rfl := sj hm
    refine ja ?_
    exact jz _ () Y (trivial) (sE Y) (fun w hh => hh)
   replace hm := ifE h4 hm
   refine jP (ji (ji (jC ?_)))
   obtain rfl := sj hm
   have hbo := h3 _ Y
   subst hbo
   exact jn () (Y) (.nil) (fun w hh => hh)
  intro j hj
  have h10 := hj
  subst h10
  replace hm := ocL h2
  refine ja (jp (jl Y Y (jo (ju ?_))))
  obtain rfl := sj hm
  refine jm Y (fun w hh => (.tmp Y .nil)) (fun w hh => ⟨(), rfl, trivial, hh.se [] [] 4 Y Y Y rfl⟩)
def kL (s0 : (List Int)) (f1_c0_f0 : Scalps) : Option Bool :=
 (qu s0 f1_c0_f0).bind fun t7 =>
 some (decide (0 ≤ t7))
theorem Ju (s0 : (List Int)) (f1_c0_f0 : Scalps) (qa0 : Option Addr) (na0 ca0 : Nat) (rb : Nat) (qa2 : Option Addr) (na2 ca2 : Nat) (qa3 : Option Addr) (na3 ca3 : Nat) (w : World) (hw : HV w (keys [] []) [] [] [(aB qa0, aO qa0, RI.enc s0), (rb, 0, [.func (.func 53) #[.agg #[.slice qa2 na2 ca2, .slice qa3 na3 ca3]] #[]]), (aB qa2, aO qa2, RSt.enc f1_c0_f0.strips), (aB qa3, aO qa3, RSp.enc f1_c0_f0.carried)] w) (hna0 : s0.length = na0) (hqa0 : AOK na0 qa0) (hla0 : na0 ≤ ca0)  (hna2 : f1_c0_f0.strips.length = na2) (hqa2 : AOK na2 qa2) (hla2 : na2 ≤ ca2) (hna3 : f1_c0_f0.carried.length = na3) (hqa3 : AOK na3 qa3) (hla3 : na3 ≤ ca3) {res : Bool} (hm : kL s0 f1_c0_f0 = some res) :
    Calls Try.prog 127 #[.slice qa0 na0 ca0, .func (.func 128) #[] #[ptr rb 0]] w (fun en w' => ∃ l : Unit, en = .returned (.bool res) ∧ (True) ∧ HV w (keys [] []) [] [] [] w') := by
  unfold kL at hm
  refine kl func127 Y ntmps127 Y (e := [(0, _), (1, _)]) Y hw (jp (jl Y Y (jV (je Y Y (je Y Y ?_)))))
  obtain ⟨t7, h1, hm⟩ := bindO hm
  refine jd [] [] Y Y Y Y Y Y Y call146 (fun w hh => J8 s0 f1_c0_f0 qa0 na0 ca0 rb qa2 na2 ca2 qa3 na3 ca3 w (HV.callee (S0 := []) (vs0 := []) hh (roR hh 0 Y (roR hh 1 Y (roR hh 2 Y (roR hh 3 Y roN))))) hna0 hqa0 hla0 hna2 hqa2 hla2 hna3 hqa3 hla3 h1) (fun l h2 => ?_)
  refine jb Y Y Y (fun _ _ => K4 Y Y) (jl Y Y (jo (ju ?_)))
  obtain rfl := sj hm
  refine jm Y (fun w hh => (.tmp Y .nil)) (fun w hh => ⟨(), rfl, trivial, hh.se [] [] 4 Y Y Y rfl⟩)
def Jm (l0 : (List Int)) (holds1_f0 : Scalps) : Option Bool :=
 (kL l0 holds1_f0).bind fun t7 =>
 some (!t7)
theorem QF (l0 : (List Int)) (holds1_f0 : Scalps) (qa0 : Option Addr) (na0 ca0 : Nat) (qa1 : Option Addr) (na1 ca1 : Nat) (qa2 : Option Addr) (na2 ca2 : Nat) (w : World) (hw : HV w (keys [] []) [] [] [(aB qa0, aO qa0, RI.enc l0), (aB qa1, aO qa1, RSt.enc holds1_f0.strips), (aB qa2, aO qa2, RSp.enc holds1_f0.carried)] w) (hna0 : l0.length = na0) (hqa0 : AOK na0 qa0) (hla0 : na0 ≤ ca0) (hna1 : holds1_f0.strips.length = na1) (hqa1 : AOK na1 qa1) (hla1 : na1 ≤ ca1) (hna2 : holds1_f0.carried.length = na2) (hqa2 : AOK na2 qa2) (hla2 : na2 ≤ ca2) {res : Bool} (hm : Jm l0 holds1_f0 = some res) :
    Calls Try.prog 91 #[.slice qa0 na0 ca0, .func (.func 53) #[.agg #[.slice qa1 na1 ca1, .slice qa2 na2 ca2]] #[]] w (fun en w' => ∃ l : Unit, en = .returned (.bool res) ∧ (True) ∧ HV w (keys [] []) [] [] [] w') := by
  unfold Jm at hm
  refine kl func91 Y ntmps91 Y (e := [(0, _), (1, _)]) Y hw (jp ?_)
  refine jF Y Y (fun b h1 => ?_)
  refine jl Y Y (jV (je Y Y (jb Y Y Y (fun _ _ => jE (u := #[]) (u' := #[_]) Y Y) ?_)))
  obtain ⟨t7, h2, hm⟩ := bindO hm
  refine jd [] [] Y Y Y Y Y Y Y call127 (fun w hh => Ju l0 holds1_f0 qa0 na0 ca0 b qa1 na1 ca1 qa2 na2 ca2 w (HV.callee (S0 := []) (vs0 := []) hh (roR hh 0 Y (roC (bsep (hh.bseg 0 Y)) (roR hh 1 Y (roR hh 2 Y roN))))) hna0 hqa0 hla0 hna1 hqa1 hla1 hna2 hqa2 hla2 h2) (fun l h3 => ?_)
  refine jb Y Y Y (fun _ _ => qv Y) (jl Y Y (jo (ju ?_)))
  obtain rfl := sj hm
  refine jm Y (fun w hh => (.tmp Y .nil)) (fun w hh => ⟨(), rfl, trivial, hh.se [] [] 3 Y Y Y rfl⟩)
def zk (x0 : Int) : Option Bool :=
 some (!decide (x0 = x0))
theorem Kz (x0 : Int)  (w : World) (hw : HV w (keys [] []) [] [] [] w)  {res : Bool} (hm : zk x0 = some res) :
    Calls Try.prog 147 #[.int .i64 x0] w (fun en w' => ∃ l : Unit, en = .returned (.bool res) ∧ (True) ∧ HV w (keys [] []) [] [] [] w') := by
  unfold zk at hm
  refine kl func147 Y ntmps147 Y (e := [(0, _)]) Y hw (jp (jl Y Y (jV (je Y Y (je Y Y (jb Y Y Y (fun _ _ => q5 Y Y) (jl Y Y ?_)))))))
  refine jo (ju ?_)
  obtain rfl := sj hm
  refine jm Y (fun w hh => (.tmp Y .nil)) (fun w hh => ⟨(), rfl, trivial, hh⟩)
def JB (x0 : Int) (y1 : Int) : Option Bool :=
 ((zk x0).bind fun t6 =>
 if t6 = true then
 ((zk y1).bind fun t9 =>
 if (!t9) = true then
 (some true) else
 (some (decide (x0 < y1)))) else
 (some (decide (x0 < y1)))).bind fun o =>
 some o
theorem QN (x0 : Int) (y1 : Int)  (w : World) (hw : HV w (keys [] []) [] [] [] w)  {res : Bool} (hm : JB x0 y1 = some res) :
    Calls Try.prog 129 #[.int .i64 x0, .int .i64 y1] w (fun en w' => ∃ l : Unit, en = .returned (.bool res) ∧ (True) ∧ HV w (keys [] []) [] [] [] w') := by
  unfold JB at hm
  refine kl func129 Y ntmps129 Y (e := [(0, _), (1, _)]) Y hw (jp (jl Y Y (jo (jk ?_))))
  obtain ⟨o, h1, h2⟩ := bindO hm
  refine jM (ι := Unit) (fun l => True) (fun l => [(4, .bool o)]) (fun l => []) (fun l => []) ?_ ?_
  ·replace hm := h1
   refine jh (je Y Y ?_)
   obtain ⟨t6, h3, hm⟩ := bindO hm
   refine jd [] [] Y Y Y Y Y Y Y call147 (fun w hh => Kz x0 w (HV.callee (S0 := []) (vs0 := []) hh roN)  h3) (fun l_1 h4 => ?_)
   refine je Y Y ?_
   refine jZ 7 Y (fun h5 => ?_) (fun h5 => ?_)
   ·replace hm := ifT (h5) hm
    refine jc Y Y (je Y Y (jc Y Y ?_))
    obtain ⟨t9, h6, hm⟩ := bindO hm
    refine jd [] [] Y Y Y Y Y Y Y call147 (fun w hh => Kz y1 w (HV.callee (S0 := []) (vs0 := []) hh roN)  h6) (fun l_2 h7 => ?_)
    refine jc Y Y (jb Y Y Y (fun _ _ => qv Y) (qO Y Y Y (je Y Y ?_)))
    refine jZ 12 Y (fun h8 => ?_) (fun h8 => ?_)
    ·replace hm := ifT (h8) hm
     refine g_k Y Y Y Y (g_k Y Y Y Y (g_k Y Y Y Y (qO Y Y Y (jl Y Y (jx ?_)))))
     obtain rfl := sj hm
     exact jn () (trivial) (sE Y) (fun w hh => hh)
    replace hm := ifN h8 hm
    refine jc Y Y (je Y Y (jc Y Y (je Y Y (jc Y Y (zK Y Y Y (yW Y Y Y (jl Y Y ?_)))))))
    refine jx ?_
    obtain rfl := sj hm
    exact jn () (trivial) (sE Y) (fun w hh => hh)
   replace hm := ifN h5 hm
   refine g_k Y Y Y Y (g_k Y Y Y Y (g_k Y Y Y Y (yW Y Y Y (je Y Y (jc Y Y (je Y Y (jc Y Y ?_)))))))
   refine je Y Y (jc Y Y (zK Y Y Y (yW Y Y Y (jl Y Y (jx ?_)))))
   obtain rfl := sj hm
   exact jn () (trivial) (sE Y) (fun w hh => hh)
  intro l hj
  replace hm := h2
  refine ja (ju ?_)
  obtain rfl := sj hm
  refine jm Y (fun w hh => (.tmp Y .nil)) (fun w hh => ⟨(), rfl, trivial, hh⟩)
def zm (x0 : (List Int)) (s : Int) : Option (Int ⊕ (Unit ⊕ Bool)) :=
 if 0 < s then
 ((ix x0 s).bind fun t13 =>
 (subc s 1).bind fun t17 =>
 (ix x0 t17).bind fun t18 =>
 (JB t13 t18).bind fun t20 =>
 if t20 = true then
 (some (.inr (.inr false))) else
 ((subc s 1).bind fun t10 =>
 some (.inl t10))) else
 (some (.inr (.inl ())))
def kX (x0 : (List Int)) : Option Bool :=
 (subc (x0.length : Int) 1).bind fun t6 =>
 (iterM FU (zm x0) t6).bind fun o =>
 oc o (fun j => some true) (fun r_1 => some r_1)
theorem zY (x0 : (List Int)) (qa0 : Option Addr) (na0 ca0 : Nat) (w : World) (hw : HV w (keys [] []) [] [] [(aB qa0, aO qa0, RI.enc x0)] w) (hna0 : x0.length = na0) (hqa0 : AOK na0 qa0) (hla0 : na0 ≤ ca0) {res : Bool} (hm : kX x0 = some res) :
    Calls Try.prog 92 #[.slice qa0 na0 ca0] w (fun en w' => ∃ l : Unit, en = .returned (.bool res) ∧ (True) ∧ HV w (keys [] []) [] [] [] w') := by
  unfold kX at hm
  refine kl func92 Y ntmps92 Y (e := [(0, _)]) Y hw (jp (jl Y Y (jo (jk (jp (je Y Y (jb Y Y Y (fun w _ => jR hna0 (runUnderlying32 w) Y) ?_)))))))
  obtain ⟨t6, h1, hm⟩ := bindO hm
  refine jb Y Y Y (fun _ _ => qc h1 Y Y) (jl Y Y (jo ?_))
  obtain ⟨o, h2, h3⟩ := bindO hm
  refine jM (ι := Unit) (fun j => o = .inl j) (fun j => []) (fun j => []) (fun j => []) ?_ ?_
  ·replace hm := h2
   refine jj ?_
   refine jD (ι := Unit) hm (fun s l => True) (fun s l => [(0, .slice qa0 na0 ca0), (3, .int .i64 s)]) (fun s l => []) (fun s l => []) () (trivial) (sE Y) (fun w hh => hh) (fun s l r hpl hm h4 => ?_)
   unfold zm at hm
   refine jk (jp (je Y Y (jb Y Y Y (fun _ _ => Yv Y Y) (jo ?_))))
   refine jr Y (fun h5 => ?_) (fun h5 => ?_)
   ·replace hm := ifD h5 hm
    refine js (ja (jk (jj (jk ?_))))
    refine j4 none (.free 0 (.free 1 (.free 2 (.hoist 3 (.free 4 (.free 5 (.free 6 (.free 7 (.hoist 8 (.one 9 .done)))))))))) _ Y (by decide +kernel) (fun w k hh => hh.draw k) (fun w hh => hh) ?_
    refine kU Y Y Y (kU Y Y Y ?_)
    obtain ⟨t13, h6, hm⟩ := bindO hm
    refine jg Y Y Y Y (fun w _ => q7 h6 (runUnderlying32 w) (sizeOf3 w) Y Y hna0 hqa0) (jG Y Y Y Y (fun w hh => qx RI 0 h6 (isAgg3 w) Y (hh.seg 0 Y) Y (Nat.add_zero _).symm) (kU Y Y Y (kU Y Y Y ?_)))
    obtain ⟨t17, h7, hm⟩ := bindO hm
    refine jg Y Y Y Y (fun _ _ => qc h7 Y Y) ?_
    obtain ⟨t18, h8, hm⟩ := bindO hm
    refine jg Y Y Y Y (fun w _ => q7 h8 (runUnderlying32 w) (sizeOf3 w) Y Y hna0 hqa0) (jG Y Y Y Y (fun w hh => qx RI 0 h8 (isAgg3 w) Y (hh.seg 0 Y) Y (Nat.add_zero _).symm) (jK Y ?_))
    obtain ⟨t20, h9, hm⟩ := bindO hm
    refine jd [] [] Y Y Y Y Y Y Y call129 (fun w hh => QN t13 t18 w (HV.callee (S0 := []) (vs0 := []) hh roN)  h9) (fun l_1 h10 => ?_)
    refine jv (fun w hh => hh) (jN (ja ?_))
    refine jr Y (fun h11 => ?_) (fun h11 => ?_)
    ·replace hm := ifT (h11) hm
     refine jp (jl Y Y (jo (ju (jy (jf (jf (jy ?_)))))))
     obtain rfl := sj hm
     have hbo := h4 _ Y
     subst hbo
     refine jf ?_
     replace hm := ocR h3
     refine jf ?_
     obtain rfl := sj hm
     refine jm Y (fun w hh => (.tmp Y .nil)) (fun w hh => ⟨(), rfl, trivial, hh.se [] [] 1 Y Y Y rfl⟩)
    replace hm := ifN h11 hm
    refine js (jt (ja (jh (je Y Y ?_))))
    obtain ⟨t10, h12, hm⟩ := bindO hm
    refine jb Y Y Y (fun _ _ => qc h12 Y Y) (jl Y Y (jx ?_))
    obtain rfl := sj hm
    refine ja ?_
    exact jz _ () Y (trivial) (sE Y) (fun w hh => hh)
   replace hm := ifE h5 hm
   refine jP (ji (ji (jC ?_)))
   obtain rfl := sj hm
   have hbo := h4 _ Y
   subst hbo
   exact jn () (Y) (.nil) (fun w hh => hh)
  intro j hj
  have h13 := hj
  subst h13
  replace hm := ocL h3
  refine ja (jp (jl Y Y (jo (ju ?_))))
  obtain rfl := sj hm
  refine jm Y (fun w hh => (.tmp Y .nil)) (fun w hh => ⟨(), rfl, trivial, hh.se [] [] 1 Y Y Y rfl⟩)
def yl (s0 : (List Int)) : Option (List Int) :=
 if 0 < (s0.length : Int) then ((appc 8 [] s0).bind fun t7 =>
 some t7) else none
theorem JH (s0 : (List Int)) (qa0 : Option Addr) (na0 ca0 : Nat) (w : World) (hw : HV w (keys [] []) [] [] [(aB qa0, aO qa0, RI.enc s0)] w) (hna0 : s0.length = na0) (hqa0 : AOK na0 qa0) (hla0 : na0 ≤ ca0) {res : (List Int)} (hm : yl s0 = some res) :
    Calls Try.prog 94 #[.slice qa0 na0 ca0] w (fun en w' => ∃ l : VL, en = .returned (sL l) ∧ (VOK 1 l.n l.cap (RI.enc res) l.sp l.q) ∧ HV w (keys [] []) [] [vL 3 l (RI.enc res)] [] w') := by
  unfold yl at hm
  refine kl func94 Y ntmps94 Y (e := [(0, _)]) Y hw (jp (jb Y Y Y (fun _ _ => qf Y) (jo (jk (jp (je Y Y ?_))))))
  obtain ⟨h2, hm⟩ := ifO hm
  refine jb Y Y Y (fun w _ => YM hqa0 (len_posN hna0 h2) (runUnderlying32 w) Y Y) (jo (qS Y Y (js (ja (jp ?_)))))
  refine YF RI (fun w => runUnderlying32 w) (fun w => sizeOf3 w) Y Y (fun L h3 => ?_)
  refine je Y Y ?_
  obtain ⟨t7, h4, hm⟩ := bindO hm
  refine yT RI 0 h4 underlying32 Yp Y Y Y Y Y h3 Y Y hna0 hqa0 (fun w hh => (hh.seg 0 Y)) Y (fun L_1 h5 h5n => ?_)
  refine jH (S' := []) (vs' := [_]) [] [0] 0 Y Y Y Y (jl Y Y (jo (ju ?_)))
  obtain rfl := sj hm
  refine jm Y (fun w hh => (.tmp Y .nil)) (fun w hh => ⟨L_1, rfl, h5, hh.se [] [0] 1 Y Y Y rfl⟩)
def z5 (s0 : (List Int)) (v1 : Int) (s : Int) : Option (Int ⊕ (Unit ⊕ Int)) :=
 if s < (s0.length : Int) then
 ((ix s0 s).bind fun t14 =>
 if v1 = t14 then
 (some (.inr (.inr s))) else
 ((addc s 1).bind fun t18 =>
 some (.inl t18))) else
 (some (.inr (.inl ())))
def zx (s0 : (List Int)) (v1 : Int) : Option Int :=
 (iterM FU (z5 s0 v1) 0).bind fun o =>
 oc o (fun j => some (-1)) (fun r_1 => some r_1)
theorem Qf (s0 : (List Int)) (v1 : Int) (qa0 : Option Addr) (na0 ca0 : Nat) (w : World) (hw : HV w (keys [] []) [] [] [(aB qa0, aO qa0, RI.enc s0)] w) (hna0 : s0.length = na0) (hqa0 : AOK na0 qa0) (hla0 : na0 ≤ ca0) {res : Int} (hm : zx s0 v1 = some res) :
    Calls Try.prog 104 #[.slice qa0 na0 ca0, .int .i64 v1] w (fun en w' => ∃ l : Unit, en = .returned (.int .i64 res) ∧ (True) ∧ HV w (keys [] []) [] [] [] w') := by
  unfold zx at hm
  refine kl func104 Y ntmps104 Y (e := [(0, _), (1, _)]) Y hw (jp (jl Y Y (jo (jk (jp (je Y Y (jb Y Y Y (fun w _ => jR hna0 (runUnderlying32 w) Y) ?_)))))))
  refine je Y Y (jo ?_)
  obtain ⟨o, h1, h2⟩ := bindO hm
  refine jM (ι := Unit) (fun j => o = .inl j) (fun j => []) (fun j => []) (fun j => []) ?_ ?_
  ·replace hm := h1
   refine jj ?_
   refine jD (ι := Unit) hm (fun s l => True) (fun s l => [(0, .slice qa0 na0 ca0), (1, .int .i64 v1), (7, .int .i64 (s0.length : Int)), (8, .int .i64 s)]) (fun s l => []) (fun s l => []) () (trivial) (sE Y) (fun w hh => hh) (fun s l r hpl hm h3 => ?_)
   unfold z5 at hm
   refine jp (zK Y Y Y (jo (jk ?_)))
   refine jr Y (fun h4 => ?_) (fun h4 => ?_)
   ·replace hm := ifD h4 hm
    refine js (ja (jk (jj (jp (je Y Y (jl Y Y (jV ?_)))))))
    refine je Y Y (je Y Y (je Y Y ?_))
    obtain ⟨t14, h5, hm⟩ := bindO hm
    refine jb Y Y Y (fun w _ => q7 h5 (runUnderlying32 w) (sizeOf3 w) Y Y hna0 hqa0) (jb Y Y Y (fun w hh => qx RI 0 h5 (isAgg3 w) Y (hh.seg 0 Y) Y (Nat.add_zero _).symm) (jb Y Y Y (fun _ _ => JT Y Y) (jo ?_)))
    refine jr Y (fun h6 => ?_) (fun h6 => ?_)
    ·replace hm := ifD h6 hm
     refine jp (je Y Y (jl Y Y (jo (ju (jy (jf (jf ?_)))))))
     refine jy ?_
     obtain rfl := sj hm
     have hbo := h3 _ Y
     subst hbo
     refine jf ?_
     replace hm := ocR h2
     refine jf ?_
     obtain rfl := sj hm
     refine jm Y (fun w hh => (.tmp Y .nil)) (fun w hh => ⟨(), rfl, trivial, hh.se [] [] 1 Y Y Y rfl⟩)
    replace hm := ifE h6 hm
    refine js (jt (ja (jh ?_)))
    obtain ⟨t18, h7, hm⟩ := bindO hm
    refine yA h7 Y Y Y (je Y Y (jx ?_))
    obtain rfl := sj hm
    refine ja ?_
    exact jz _ () Y (trivial) (sE Y) (fun w hh => hh)
   replace hm := ifE h4 hm
   refine jP (ji (ji (jC ?_)))
   obtain rfl := sj hm
   have hbo := h3 _ Y
   subst hbo
   exact jn () (Y) (.nil) (fun w hh => hh)
  intro j hj
  have h8 := hj
  subst h8
  replace hm := ocL h2
  refine ja (jp (jl Y Y (jo (ju ?_))))
  obtain rfl := sj hm
  refine jm Y (fun w hh => (.tmp Y .nil)) (fun w hh => ⟨(), rfl, trivial, hh.se [] [] 1 Y Y Y rfl⟩)
def kV (s0 : (List Int)) (v1 : Int) : Option Bool :=
 (zx s0 v1).bind fun t7 =>
 some (decide (0 ≤ t7))
theorem zZ (s0 : (List Int)) (v1 : Int) (qa0 : Option Addr) (na0 ca0 : Nat) (w : World) (hw : HV w (keys [] []) [] [] [(aB qa0, aO qa0, RI.enc s0)] w) (hna0 : s0.length = na0) (hqa0 : AOK na0 qa0) (hla0 : na0 ≤ ca0) {res : Bool} (hm : kV s0 v1 = some res) :
    Calls Try.prog 46 #[.slice qa0 na0 ca0, .int .i64 v1] w (fun en w' => ∃ l : Unit, en = .returned (.bool res) ∧ (True) ∧ HV w (keys [] []) [] [] [] w') := by
  unfold kV at hm
  refine kl func46 Y ntmps46 Y (e := [(0, _), (1, _)]) Y hw (jp (jl Y Y (jV (je Y Y (je Y Y ?_)))))
  obtain ⟨t7, h1, hm⟩ := bindO hm
  refine jd [] [] Y Y Y Y Y Y Y call104 (fun w hh => Qf s0 v1 qa0 na0 ca0 w (HV.callee (S0 := []) (vs0 := []) hh (roR hh 0 Y roN)) hna0 hqa0 hla0 h1) (fun l h2 => ?_)
  refine jb Y Y Y (fun _ _ => K4 Y Y) (jl Y Y (jo (ju ?_)))
  obtain rfl := sj hm
  refine jm Y (fun w hh => (.tmp Y .nil)) (fun w hh => ⟨(), rfl, trivial, hh.se [] [] 1 Y Y Y rfl⟩)
def zX (k0 : Int) (a110 : (List Strip)) (a111 : (List Span)) (a112 : (List (Pair × Bool))) (a22 : Int) : Option Bool :=
 some ((aget a112 (⟨a22, k0⟩ : Pair)).getD false)
theorem Qp (k0 : Int) (a110 : (List Strip)) (a111 : (List Span)) (a112 : (List (Pair × Bool))) (a22 : Int) (rb : Nat) (rb_1 : Nat) (qa2 : Option Addr) (na2 ca2 : Nat) (qa3 : Option Addr) (na3 ca3 : Nat) (pb : Nat) (rb_2 : Nat) (w : World) (hw : HV w (keys [(pb, gobj (kR RPr) kB a112)] []) [(pb, gobj (kR RPr) kB a112)] [] [(rb, 0, [ptr rb_1 0]), (rb_1, 0, [.slice qa2 na2 ca2, .slice qa3 na3 ca3, .map (some pb)]), (aB qa2, aO qa2, RSt.enc a110), (aB qa3, aO qa3, RSp.enc a111), (rb_2, 0, [.int .i64 a22])] w)   (hna2 : a110.length = na2) (hqa2 : AOK na2 qa2) (hla2 : na2 ≤ ca2) (hna3 : a111.length = na3) (hqa3 : AOK na3 qa3) (hla3 : na3 ≤ ca3)  {res : Bool} (hm : zX k0 a110 a111 a112 a22 = some res) :
    Calls Try.prog 130 #[.int .i64 k0, ptr rb 0, ptr rb_2 0] w (fun en w' => ∃ l : Unit, en = .returned (.bool res) ∧ (True) ∧ HV w (keys [(pb, gobj (kR RPr) kB a112)] []) [(pb, gobj (kR RPr) kB a112)] [] [] w') := by
  unfold zX at hm
  refine kl func130 Y ntmps130 Y (e := [(0, _), (1, _), (2, _)]) Y hw (jp (jl Y Y (jo (jk ?_))))
  refine j4 none (.hoist 0 (.free 1 (.free 2 (.hoist 3 (.hoist 4 (.free 5 (.free 6 (.hoist 7 (.free 8 .done))))))))) _ Y (by decide +kernel) (fun w k hh => hh.draw k) (fun w hh => hh) ?_
  refine jG Y Y Y Y (fun w hh => jQ (isAgg115 w) Y (segCell (hh.seg 0 Y) 0 Y)) (jg Y Y Y Y (fun _ _ => jw Y) (qo 2 runUnderlying163 sizeOf161 Y Y Y Y (jG Y Y Y Y (fun w hh => jQ (isAgg161 w) Y (segCell (hh.seg 1 Y) 2 Y)) (jG Y Y Y Y (fun w hh => jQ (isAgg3 w) Y (segCell (hh.seg 4 Y) 0 Y)) (kU Y Y Y (jg Y Y Y Y (fun _ _ => jA (vs := [(0, _), (1, _)]) (cells := [_, _]) Y Y) ?_))))))
  refine jG Y Y Y Y (fun w hh => YG (k := (⟨a22, k0⟩ : Pair)) (z := false) (runUnderlying161 w) Q0 (zeroValue4 w) Y Y (hh.mget 0 Y)) ?_
  refine jg Y Y Y Y (fun _ _ => jU Y) (jN (ja (ju ?_)))
  obtain rfl := sj hm
  refine jm Y (fun w hh => (.tmp Y .nil)) (fun w hh => ⟨(), rfl, trivial, hh.se [0] [] 5 Y Y Y rfl⟩)
def yy (s0 : (List Int)) (f1_c00 : (List Strip)) (f1_c01 : (List Span)) (f1_c02 : (List (Pair × Bool))) (f1_c1 : Int) (s : Int) : Option (Int ⊕ (Unit ⊕ Int)) :=
 if s < (s0.length : Int) then
 ((ix s0 s).bind fun t14 =>
 (zX t14 f1_c00 f1_c01 f1_c02 f1_c1).bind fun t16 =>
 if t16 = true then
 (some (.inr (.inr s))) else
 ((addc s 1).bind fun t18 =>
 some (.inl t18))) else
 (some (.inr (.inl ())))
def qy (s0 : (List Int)) (f1_c00 : (List Strip)) (f1_c01 : (List Span)) (f1_c02 : (List (Pair × Bool))) (f1_c1 : Int) : Option Int :=
 (iterM FU (yy s0 f1_c00 f1_c01 f1_c02 f1_c1) 0).bind fun o =>
 oc o (fun j => some (-1)) (fun r_1 => some r_1)
theorem J1 (s0 : (List Int)) (f1_c00 : (List Strip)) (f1_c01 : (List Span)) (f1_c02 : (List (Pair × Bool))) (f1_c1 : Int) (qa0 : Option Addr) (na0 ca0 : Nat) (rb : Nat) (rb_1 : Nat) (qa3 : Option Addr) (na3 ca3 : Nat) (qa4 : Option Addr) (na4 ca4 : Nat) (pb : Nat) (rb_2 : Nat) (w : World) (hw : HV w (keys [(pb, gobj (kR RPr) kB f1_c02)] []) [(pb, gobj (kR RPr) kB f1_c02)] [] [(aB qa0, aO qa0, RI.enc s0), (rb, 0, [ptr rb_1 0]), (rb_1, 0, [.slice qa3 na3 ca3, .slice qa4 na4 ca4, .map (some pb)]), (aB qa3, aO qa3, RSt.enc f1_c00), (aB qa4, aO qa4, RSp.enc f1_c01), (rb_2, 0, [.int .i64 f1_c1])] w) (hna0 : s0.length = na0) (hqa0 : AOK na0 qa0) (hla0 : na0 ≤ ca0)   (hna3 : f1_c00.length = na3) (hqa3 : AOK na3 qa3) (hla3 : na3 ≤ ca3) (hna4 : f1_c01.length = na4) (hqa4 : AOK na4 qa4) (hla4 : na4 ≤ ca4)  {res : Int} (hm : qy s0 f1_c00 f1_c01 f1_c02 f1_c1 = some res) :
    Calls Try.prog 146 #[.slice qa0 na0 ca0, .func (.func 130) #[] #[ptr rb 0, ptr rb_2 0]] w (fun en w' => ∃ l : Unit, en = .returned (.int .i64 res) ∧ (True) ∧ HV w (keys [(pb, gobj (kR RPr) kB f1_c02)] []) [(pb, gobj (kR RPr) kB f1_c02)] [] [] w') := by
  unfold qy at hm
  refine kl func146 Y ntmps146 Y (e := [(0, _), (1, _)]) Y hw (jp (jl Y Y (jo (jk (jp (je Y Y (jb Y Y Y (fun w _ => jR hna0 (runUnderlying32 w) Y) ?_)))))))
  refine je Y Y (jo ?_)
  obtain ⟨o, h1, h2⟩ := bindO hm
  refine jM (ι := Unit) (fun j => o = .inl j) (fun j => []) (fun j => [(pb, gobj (kR RPr) kB f1_c02)]) (fun j => []) ?_ ?_
  ·replace hm := h1
   refine jj ?_
   refine jD (ι := Unit) hm (fun s l => True) (fun s l => [(0, .slice qa0 na0 ca0), (1, .func (.func 130) #[] #[ptr rb 0, ptr rb_2 0]), (7, .int .i64 (s0.length : Int)), (8, .int .i64 s)]) (fun s l => [(pb, gobj (kR RPr) kB f1_c02)]) (fun s l => []) () (trivial) (sE Y) (fun w hh => hh) (fun s l r hpl hm h3 => ?_)
   unfold yy at hm
   refine jp (zK Y Y Y (jo (jk ?_)))
   refine jr Y (fun h4 => ?_) (fun h4 => ?_)
   ·replace hm := ifD h4 hm
    refine js (ja (jk (jj (jp (je Y Y (jl Y Y (jV ?_)))))))
    refine je Y Y (je Y Y (je Y Y ?_))
    obtain ⟨t14, h5, hm⟩ := bindO hm
    refine jb Y Y Y (fun w _ => q7 h5 (runUnderlying32 w) (sizeOf3 w) Y Y hna0 hqa0) (jb Y Y Y (fun w hh => qx RI 0 h5 (isAgg3 w) Y (hh.seg 0 Y) Y (Nat.add_zero _).symm) ?_)
    obtain ⟨t16, h6, hm⟩ := bindO hm
    refine jd [_] [] Y Y Y Y Y Y Y call130 (fun w hh => Qp t14 f1_c00 f1_c01 f1_c02 f1_c1 rb rb_1 qa3 na3 ca3 qa4 na4 ca4 pb rb_2 w (HV.callee (S0 := [_]) (vs0 := []) hh (roR hh 1 Y (roR hh 2 Y (roR hh 3 Y (roR hh 4 Y (roR hh 5 Y roN)))))) hna3 hqa3 hla3 hna4 hqa4 hla4 h6) (fun l_1 h7 => ?_)
    refine jH (S' := [_]) (vs' := []) [0] [] 0 Y Y Y Y (jo ?_)
    refine jr Y (fun h8 => ?_) (fun h8 => ?_)
    ·replace hm := ifT (h8) hm
     refine jp (je Y Y (jl Y Y (jo (ju (jy (jf (jf ?_)))))))
     refine jy ?_
     obtain rfl := sj hm
     have hbo := h3 _ Y
     subst hbo
     refine jf ?_
     replace hm := ocR h2
     refine jf ?_
     obtain rfl := sj hm
     refine jm Y (fun w hh => (.tmp Y .nil)) (fun w hh => ⟨(), rfl, trivial, hh.se [0] [] 6 Y Y Y rfl⟩)
    replace hm := ifN h8 hm
    refine js (jt (ja (jh ?_)))
    obtain ⟨t18, h9, hm⟩ := bindO hm
    refine yA h9 Y Y Y (je Y Y (jx ?_))
    obtain rfl := sj hm
    refine ja ?_
    exact jz _ () Y (trivial) (sE Y) (fun w hh => hh)
   replace hm := ifE h4 hm
   refine jP (ji (ji (jC ?_)))
   obtain rfl := sj hm
   have hbo := h3 _ Y
   subst hbo
   exact jn () (Y) (.nil) (fun w hh => hh)
  intro j hj
  have h10 := hj
  subst h10
  replace hm := ocL h2
  refine ja (jp (jl Y Y (jo (ju ?_))))
  obtain rfl := sj hm
  refine jm Y (fun w hh => (.tmp Y .nil)) (fun w hh => ⟨(), rfl, trivial, hh.se [0] [] 6 Y Y Y rfl⟩)
def kH (s0 : (List Int)) (f1_c00 : (List Strip)) (f1_c01 : (List Span)) (f1_c02 : (List (Pair × Bool))) (f1_c1 : Int) : Option Bool :=
 (qy s0 f1_c00 f1_c01 f1_c02 f1_c1).bind fun t7 =>
 some (decide (0 ≤ t7))
theorem Jt (s0 : (List Int)) (f1_c00 : (List Strip)) (f1_c01 : (List Span)) (f1_c02 : (List (Pair × Bool))) (f1_c1 : Int) (qa0 : Option Addr) (na0 ca0 : Nat) (rb : Nat) (rb_1 : Nat) (qa3 : Option Addr) (na3 ca3 : Nat) (qa4 : Option Addr) (na4 ca4 : Nat) (pb : Nat) (rb_2 : Nat) (w : World) (hw : HV w (keys [(pb, gobj (kR RPr) kB f1_c02)] []) [(pb, gobj (kR RPr) kB f1_c02)] [] [(aB qa0, aO qa0, RI.enc s0), (rb, 0, [ptr rb_1 0]), (rb_1, 0, [.slice qa3 na3 ca3, .slice qa4 na4 ca4, .map (some pb)]), (aB qa3, aO qa3, RSt.enc f1_c00), (aB qa4, aO qa4, RSp.enc f1_c01), (rb_2, 0, [.int .i64 f1_c1])] w) (hna0 : s0.length = na0) (hqa0 : AOK na0 qa0) (hla0 : na0 ≤ ca0)   (hna3 : f1_c00.length = na3) (hqa3 : AOK na3 qa3) (hla3 : na3 ≤ ca3) (hna4 : f1_c01.length = na4) (hqa4 : AOK na4 qa4) (hla4 : na4 ≤ ca4)  {res : Bool} (hm : kH s0 f1_c00 f1_c01 f1_c02 f1_c1 = some res) :
    Calls Try.prog 127 #[.slice qa0 na0 ca0, .func (.func 130) #[] #[ptr rb 0, ptr rb_2 0]] w (fun en w' => ∃ l : Unit, en = .returned (.bool res) ∧ (True) ∧ HV w (keys [(pb, gobj (kR RPr) kB f1_c02)] []) [(pb, gobj (kR RPr) kB f1_c02)] [] [] w') := by
  unfold kH at hm
  refine kl func127 Y ntmps127 Y (e := [(0, _), (1, _)]) Y hw (jp (jl Y Y (jV (je Y Y (je Y Y ?_)))))
  obtain ⟨t7, h1, hm⟩ := bindO hm
  refine jd [_] [] Y Y Y Y Y Y Y call146 (fun w hh => J1 s0 f1_c00 f1_c01 f1_c02 f1_c1 qa0 na0 ca0 rb rb_1 qa3 na3 ca3 qa4 na4 ca4 pb rb_2 w (HV.callee (S0 := [_]) (vs0 := []) hh (roR hh 0 Y (roR hh 1 Y (roR hh 2 Y (roR hh 3 Y (roR hh 4 Y (roR hh 5 Y roN))))))) hna0 hqa0 hla0 hna3 hqa3 hla3 hna4 hqa4 hla4 h1) (fun l h2 => ?_)
  refine jH (S' := [_]) (vs' := []) [0] [] 0 Y Y Y Y (jb Y Y Y (fun _ _ => K4 Y Y) (jl Y Y (jo (ju ?_))))
  obtain rfl := sj hm
  refine jm Y (fun w hh => (.tmp Y .nil)) (fun w hh => ⟨(), rfl, trivial, hh.se [0] [] 6 Y Y Y rfl⟩)
def zT (t0 : Int) (a110 : (List Strip)) (a111 : (List Span)) (a112 : (List (Pair × Bool))) (a22 : Int) : Option Bool :=
 some ((aget a112 (⟨t0, a22⟩ : Pair)).getD false)
theorem Qm (t0 : Int) (a110 : (List Strip)) (a111 : (List Span)) (a112 : (List (Pair × Bool))) (a22 : Int) (rb : Nat) (rb_1 : Nat) (qa2 : Option Addr) (na2 ca2 : Nat) (qa3 : Option Addr) (na3 ca3 : Nat) (pb : Nat) (rb_2 : Nat) (w : World) (hw : HV w (keys [(pb, gobj (kR RPr) kB a112)] []) [(pb, gobj (kR RPr) kB a112)] [] [(rb, 0, [ptr rb_1 0]), (rb_1, 0, [.slice qa2 na2 ca2, .slice qa3 na3 ca3, .map (some pb)]), (aB qa2, aO qa2, RSt.enc a110), (aB qa3, aO qa3, RSp.enc a111), (rb_2, 0, [.int .i64 a22])] w)   (hna2 : a110.length = na2) (hqa2 : AOK na2 qa2) (hla2 : na2 ≤ ca2) (hna3 : a111.length = na3) (hqa3 : AOK na3 qa3) (hla3 : na3 ≤ ca3)  {res : Bool} (hm : zT t0 a110 a111 a112 a22 = some res) :
    Calls Try.prog 131 #[.int .i64 t0, ptr rb 0, ptr rb_2 0] w (fun en w' => ∃ l : Unit, en = .returned (.bool res) ∧ (True) ∧ HV w (keys [(pb, gobj (kR RPr) kB a112)] []) [(pb, gobj (kR RPr) kB a112)] [] [] w') := by
  unfold zT at hm
  refine kl func131 Y ntmps131 Y (e := [(0, _), (1, _), (2, _)]) Y hw (jp (jl Y Y (jo (jk ?_))))
  refine j4 none (.hoist 0 (.free 1 (.free 2 (.hoist 3 (.free 4 (.hoist 5 (.free 6 (.hoist 7 (.free 8 .done))))))))) _ Y (by decide +kernel) (fun w k hh => hh.draw k) (fun w hh => hh) ?_
  refine jG Y Y Y Y (fun w hh => jQ (isAgg115 w) Y (segCell (hh.seg 0 Y) 0 Y)) (jg Y Y Y Y (fun _ _ => jw Y) (qo 2 runUnderlying163 sizeOf161 Y Y Y Y (jG Y Y Y Y (fun w hh => jQ (isAgg161 w) Y (segCell (hh.seg 1 Y) 2 Y)) (kU Y Y Y (jG Y Y Y Y (fun w hh => jQ (isAgg3 w) Y (segCell (hh.seg 4 Y) 0 Y)) (jg Y Y Y Y (fun _ _ => jA (vs := [(0, _), (1, _)]) (cells := [_, _]) Y Y) ?_))))))
  refine jG Y Y Y Y (fun w hh => YG (k := (⟨t0, a22⟩ : Pair)) (z := false) (runUnderlying161 w) Q0 (zeroValue4 w) Y Y (hh.mget 0 Y)) ?_
  refine jg Y Y Y Y (fun _ _ => jU Y) (jN (ja (ju ?_)))
  obtain rfl := sj hm
  refine jm Y (fun w hh => (.tmp Y .nil)) (fun w hh => ⟨(), rfl, trivial, hh.se [0] [] 5 Y Y Y rfl⟩)
def yw (s0 : (List Int)) (f1_c00 : (List Strip)) (f1_c01 : (List Span)) (f1_c02 : (List (Pair × Bool))) (f1_c1 : Int) (s : Int) : Option (Int ⊕ (Unit ⊕ Int)) :=
 if s < (s0.length : Int) then
 ((ix s0 s).bind fun t14 =>
 (zT t14 f1_c00 f1_c01 f1_c02 f1_c1).bind fun t16 =>
 if t16 = true then
 (some (.inr (.inr s))) else
 ((addc s 1).bind fun t18 =>
 some (.inl t18))) else
 (some (.inr (.inl ())))
def qw (s0 : (List Int)) (f1_c00 : (List Strip)) (f1_c01 : (List Span)) (f1_c02 : (List (Pair × Bool))) (f1_c1 : Int) : Option Int :=
 (iterM FU (yw s0 f1_c00 f1_c01 f1_c02 f1_c1) 0).bind fun o =>
 oc o (fun j => some (-1)) (fun r_1 => some r_1)
theorem Kd (s0 : (List Int)) (f1_c00 : (List Strip)) (f1_c01 : (List Span)) (f1_c02 : (List (Pair × Bool))) (f1_c1 : Int) (qa0 : Option Addr) (na0 ca0 : Nat) (rb : Nat) (rb_1 : Nat) (qa3 : Option Addr) (na3 ca3 : Nat) (qa4 : Option Addr) (na4 ca4 : Nat) (pb : Nat) (rb_2 : Nat) (w : World) (hw : HV w (keys [(pb, gobj (kR RPr) kB f1_c02)] []) [(pb, gobj (kR RPr) kB f1_c02)] [] [(aB qa0, aO qa0, RI.enc s0), (rb, 0, [ptr rb_1 0]), (rb_1, 0, [.slice qa3 na3 ca3, .slice qa4 na4 ca4, .map (some pb)]), (aB qa3, aO qa3, RSt.enc f1_c00), (aB qa4, aO qa4, RSp.enc f1_c01), (rb_2, 0, [.int .i64 f1_c1])] w) (hna0 : s0.length = na0) (hqa0 : AOK na0 qa0) (hla0 : na0 ≤ ca0)   (hna3 : f1_c00.length = na3) (hqa3 : AOK na3 qa3) (hla3 : na3 ≤ ca3) (hna4 : f1_c01.length = na4) (hqa4 : AOK na4 qa4) (hla4 : na4 ≤ ca4)  {res : Int} (hm : qw s0 f1_c00 f1_c01 f1_c02 f1_c1 = some res) :
    Calls Try.prog 146 #[.slice qa0 na0 ca0, .func (.func 131) #[] #[ptr rb 0, ptr rb_2 0]] w (fun en w' => ∃ l : Unit, en = .returned (.int .i64 res) ∧ (True) ∧ HV w (keys [(pb, gobj (kR RPr) kB f1_c02)] []) [(pb, gobj (kR RPr) kB f1_c02)] [] [] w') := by
  unfold qw at hm
  refine kl func146 Y ntmps146 Y (e := [(0, _), (1, _)]) Y hw (jp (jl Y Y (jo (jk (jp (je Y Y (jb Y Y Y (fun w _ => jR hna0 (runUnderlying32 w) Y) ?_)))))))
  refine je Y Y (jo ?_)
  obtain ⟨o, h1, h2⟩ := bindO hm
  refine jM (ι := Unit) (fun j => o = .inl j) (fun j => []) (fun j => [(pb, gobj (kR RPr) kB f1_c02)]) (fun j => []) ?_ ?_
  ·replace hm := h1
   refine jj ?_
   refine jD (ι := Unit) hm (fun s l => True) (fun s l => [(0, .slice qa0 na0 ca0), (1, .func (.func 131) #[] #[ptr rb 0, ptr rb_2 0]), (7, .int .i64 (s0.length : Int)), (8, .int .i64 s)]) (fun s l => [(pb, gobj (kR RPr) kB f1_c02)]) (fun s l => []) () (trivial) (sE Y) (fun w hh => hh) (fun s l r hpl hm h3 => ?_)
   unfold yw at hm
   refine jp (zK Y Y Y (jo (jk ?_)))
   refine jr Y (fun h4 => ?_) (fun h4 => ?_)
   ·replace hm := ifD h4 hm
    refine js (ja (jk (jj (jp (je Y Y (jl Y Y (jV ?_)))))))
    refine je Y Y (je Y Y (je Y Y ?_))
    obtain ⟨t14, h5, hm⟩ := bindO hm
    refine jb Y Y Y (fun w _ => q7 h5 (runUnderlying32 w) (sizeOf3 w) Y Y hna0 hqa0) (jb Y Y Y (fun w hh => qx RI 0 h5 (isAgg3 w) Y (hh.seg 0 Y) Y (Nat.add_zero _).symm) ?_)
    obtain ⟨t16, h6, hm⟩ := bindO hm
    refine jd [_] [] Y Y Y Y Y Y Y call131 (fun w hh => Qm t14 f1_c00 f1_c01 f1_c02 f1_c1 rb rb_1 qa3 na3 ca3 qa4 na4 ca4 pb rb_2 w (HV.callee (S0 := [_]) (vs0 := []) hh (roR hh 1 Y (roR hh 2 Y (roR hh 3 Y (roR hh 4 Y (roR hh 5 Y roN)))))) hna3 hqa3 hla3 hna4 hqa4 hla4 h6) (fun l_1 h7 => ?_)
    refine jH (S' := [_]) (vs' := []) [0] [] 0 Y Y Y Y (jo ?_)
    refine jr Y (fun h8 => ?_) (fun h8 => ?_)
    ·replace hm := ifT (h8) hm
     refine jp (je Y Y (jl Y Y (jo (ju (jy (jf (jf ?_)))))))
     refine jy ?_
     obtain rfl := sj hm
     have hbo := h3 _ Y
     subst hbo
     refine jf ?_
     replace hm := ocR h2
     refine jf ?_
     obtain rfl := sj hm
     refine jm Y (fun w hh => (.tmp Y .nil)) (fun w hh => ⟨(), rfl, trivial, hh.se [0] [] 6 Y Y Y rfl⟩)
    replace hm := ifN h8 hm
    refine js (jt (ja (jh ?_)))
    obtain ⟨t18, h9, hm⟩ := bindO hm
    refine yA h9 Y Y Y (je Y Y (jx ?_))
    obtain rfl := sj hm
    refine ja ?_
    exact jz _ () Y (trivial) (sE Y) (fun w hh => hh)
   replace hm := ifE h4 hm
   refine jP (ji (ji (jC ?_)))
   obtain rfl := sj hm
   have hbo := h3 _ Y
   subst hbo
   exact jn () (Y) (.nil) (fun w hh => hh)
  intro j hj
  have h10 := hj
  subst h10
  replace hm := ocL h2
  refine ja (jp (jl Y Y (jo (ju ?_))))
  obtain rfl := sj hm
  refine jm Y (fun w hh => (.tmp Y .nil)) (fun w hh => ⟨(), rfl, trivial, hh.se [0] [] 6 Y Y Y rfl⟩)
def kK (s0 : (List Int)) (f1_c00 : (List Strip)) (f1_c01 : (List Span)) (f1_c02 : (List (Pair × Bool))) (f1_c1 : Int) : Option Bool :=
 (qw s0 f1_c00 f1_c01 f1_c02 f1_c1).bind fun t7 =>
 some (decide (0 ≤ t7))
theorem Jv (s0 : (List Int)) (f1_c00 : (List Strip)) (f1_c01 : (List Span)) (f1_c02 : (List (Pair × Bool))) (f1_c1 : Int) (qa0 : Option Addr) (na0 ca0 : Nat) (rb : Nat) (rb_1 : Nat) (qa3 : Option Addr) (na3 ca3 : Nat) (qa4 : Option Addr) (na4 ca4 : Nat) (pb : Nat) (rb_2 : Nat) (w : World) (hw : HV w (keys [(pb, gobj (kR RPr) kB f1_c02)] []) [(pb, gobj (kR RPr) kB f1_c02)] [] [(aB qa0, aO qa0, RI.enc s0), (rb, 0, [ptr rb_1 0]), (rb_1, 0, [.slice qa3 na3 ca3, .slice qa4 na4 ca4, .map (some pb)]), (aB qa3, aO qa3, RSt.enc f1_c00), (aB qa4, aO qa4, RSp.enc f1_c01), (rb_2, 0, [.int .i64 f1_c1])] w) (hna0 : s0.length = na0) (hqa0 : AOK na0 qa0) (hla0 : na0 ≤ ca0)   (hna3 : f1_c00.length = na3) (hqa3 : AOK na3 qa3) (hla3 : na3 ≤ ca3) (hna4 : f1_c01.length = na4) (hqa4 : AOK na4 qa4) (hla4 : na4 ≤ ca4)  {res : Bool} (hm : kK s0 f1_c00 f1_c01 f1_c02 f1_c1 = some res) :
    Calls Try.prog 127 #[.slice qa0 na0 ca0, .func (.func 131) #[] #[ptr rb 0, ptr rb_2 0]] w (fun en w' => ∃ l : Unit, en = .returned (.bool res) ∧ (True) ∧ HV w (keys [(pb, gobj (kR RPr) kB f1_c02)] []) [(pb, gobj (kR RPr) kB f1_c02)] [] [] w') := by
  unfold kK at hm
  refine kl func127 Y ntmps127 Y (e := [(0, _), (1, _)]) Y hw (jp (jl Y Y (jV (je Y Y (je Y Y ?_)))))
  obtain ⟨t7, h1, hm⟩ := bindO hm
  refine jd [_] [] Y Y Y Y Y Y Y call146 (fun w hh => Kd s0 f1_c00 f1_c01 f1_c02 f1_c1 qa0 na0 ca0 rb rb_1 qa3 na3 ca3 qa4 na4 ca4 pb rb_2 w (HV.callee (S0 := [_]) (vs0 := []) hh (roR hh 0 Y (roR hh 1 Y (roR hh 2 Y (roR hh 3 Y (roR hh 4 Y (roR hh 5 Y roN))))))) hna0 hqa0 hla0 hna3 hqa3 hla3 hna4 hqa4 hla4 h1) (fun l h2 => ?_)
  refine jH (S' := [_]) (vs' := []) [0] [] 0 Y Y Y Y (jb Y Y Y (fun _ _ => K4 Y Y) (jl Y Y (jo (ju ?_))))
  obtain rfl := sj hm
  refine jm Y (fun w hh => (.tmp Y .nil)) (fun w hh => ⟨(), rfl, trivial, hh.se [0] [] 6 Y Y Y rfl⟩)
structure JX where
  need5 : Int
  can6 : Int
structure yf where
  need5 : Int
  can6 : Int
  t17 : Int
structure zr where
  need5 : Int
  can6 : Int
def JK (d01 : (List Span)) (l1 : Lack) (d00 : (List Strip)) (d02 : (List (Pair × Bool))) (s : yf) : Option (yf ⊕ JX) :=
 if s.t17 < (d01.length : Int) then
 (((ix d01 s.t17).bind fun t20 =>
 (if l1.tenants = true then
 ((kV l1.of_ s.t17).bind fun t29 =>
 some t29) else
 (some false)).bind fun o_2 =>
 if o_2 = true then
 ((addc s.need5 t20.lo).bind fun t34 =>
 some (⟨t34, s.can6⟩ : zr)) else
 ((if (!l1.tenants) = true then
 ((kH l1.of_ d00 d01 d02 s.t17).bind fun t43 =>
 some t43) else
 (some false)).bind fun o_3 =>
 if o_3 = true then
 ((addc s.can6 t20.hi).bind fun t48 =>
 some (⟨s.need5, t48⟩ : zr)) else
 (some (⟨s.need5, s.can6⟩ : zr)))).bind fun o_1 =>
 (addc s.t17 1).bind fun t49 =>
 some (.inl (⟨o_1.need5, o_1.can6, t49⟩ : yf))) else
 (some (.inr (⟨s.need5, s.can6⟩ : JX)))
structure JJ where
  need5 : Int
  can6 : Int
structure yi where
  need5 : Int
  can6 : Int
  t56 : Int
structure zz where
  need5 : Int
  can6 : Int
def JI (d00 : (List Strip)) (l1 : Lack) (d01 : (List Span)) (d02 : (List (Pair × Bool))) (s_1 : yi) : Option (yi ⊕ JJ) :=
 if s_1.t56 < (d00.length : Int) then
 (((ix d00 s_1.t56).bind fun t59 =>
 (if (!l1.tenants) = true then
 ((kV l1.of_ s_1.t56).bind fun t69 =>
 some t69) else
 (some false)).bind fun o_6 =>
 if o_6 = true then
 ((kb (⟨t59.tenant, (⟨t59.lay.lo, t59.lay.hi⟩ : Span), (⟨t59.seeded.lo, t59.seeded.hi⟩ : Span), (⟨t59.left.lo, t59.left.hi⟩ : Span)⟩ : Strip)).bind fun t73 =>
 (addc s_1.need5 t73.lo).bind fun t75 =>
 some (⟨t75, s_1.can6⟩ : zz)) else
 ((if l1.tenants = true then
 ((kK l1.of_ d00 d01 d02 s_1.t56).bind fun t83 =>
 some t83) else
 (some false)).bind fun o_7 =>
 if o_7 = true then
 ((kb (⟨t59.tenant, (⟨t59.lay.lo, t59.lay.hi⟩ : Span), (⟨t59.seeded.lo, t59.seeded.hi⟩ : Span), (⟨t59.left.lo, t59.left.hi⟩ : Span)⟩ : Strip)).bind fun t87 =>
 (addc s_1.can6 t87.hi).bind fun t89 =>
 some (⟨s_1.need5, t89⟩ : zz)) else
 (some (⟨s_1.need5, s_1.can6⟩ : zz)))).bind fun o_5 =>
 (addc s_1.t56 1).bind fun t90 =>
 some (.inl (⟨o_5.need5, o_5.can6, t90⟩ : yi))) else
 (some (.inr (⟨s_1.need5, s_1.can6⟩ : JJ)))
def qL (d00 : (List Strip)) (d01 : (List Span)) (d02 : (List (Pair × Bool))) (l1 : Lack) : Option Int :=
 (iterM FU (JK d01 l1 d00 d02) (⟨0, 0, 0⟩ : yf)).bind fun o =>
 (iterM FU (JI d00 l1 d01 d02) (⟨o.need5, o.can6, 0⟩ : yi)).bind fun o_4 =>
 (subc o_4.need5 o_4.can6).bind fun t93 =>
 some t93
theorem zE (d00 : (List Strip)) (d01 : (List Span)) (d02 : (List (Pair × Bool))) (l1 : Lack) (rb : Nat) (qa1 : Option Addr) (na1 ca1 : Nat) (qa2 : Option Addr) (na2 ca2 : Nat) (pb : Nat) (qa3 : Option Addr) (na3 ca3 : Nat) (w : World) (hw : HV w (keys [(pb, gobj (kR RPr) kB d02)] []) [(pb, gobj (kR RPr) kB d02)] [] [(rb, 0, [.slice qa1 na1 ca1, .slice qa2 na2 ca2, .map (some pb)]), (aB qa1, aO qa1, RSt.enc d00), (aB qa2, aO qa2, RSp.enc d01), (aB qa3, aO qa3, RI.enc l1.of_)] w)  (hna1 : d00.length = na1) (hqa1 : AOK na1 qa1) (hla1 : na1 ≤ ca1) (hna2 : d01.length = na2) (hqa2 : AOK na2 qa2) (hla2 : na2 ≤ ca2) (hna3 : l1.of_.length = na3) (hqa3 : AOK na3 qa3) (hla3 : na3 ≤ ca3) {res : Int} (hm : qL d00 d01 d02 l1 = some res) :
    Calls Try.prog 95 #[ptr rb 0, .agg #[.bool l1.tenants, .slice qa3 na3 ca3]] w (fun en w' => ∃ l : Unit, en = .returned (.int .i64 res) ∧ (True) ∧ HV w (keys [(pb, gobj (kR RPr) kB d02)] []) [(pb, gobj (kR RPr) kB d02)] [] [] w') := by
  unfold qL at hm
  refine kl func95 Y ntmps95 Y (e := [(0, _), (1, _)]) Y hw (jp ?_)
  refine jF Y Y (fun b h1 => ?_)
  refine jF Y Y (fun b_1 h2 => ?_)
  refine jl Y Y (jV (jl Y Y (jl Y Y (jo (jk (jp (kx 1 isAgg115 Y Y Y Y ?_)))))))
  refine jb Y Y Y (fun _ _ => jw Y) (j7 0 runUnderlying163 Y sizeOf28 Y Y (j7 1 runUnderlying28 Y sizeOf26 Y Y (jb Y Y Y (fun w hh => jQ (isAgg26 w) Y (segCell (hh.seg 0 Y) 1 Y)) (jb Y Y Y (fun w _ => jR hna2 (runUnderlying26 w) Y) (je Y Y (jo ?_))))))
  obtain ⟨o, h3, h4⟩ := bindO hm
  refine jM (ι := Unit) (fun l => True) (fun l => [(2, ptr b 0), (3, ptr b_1 0), (5, .int .i64 o.need5), (6, .int .i64 o.can6)]) (fun l => [kc b_1 #[.bool l1.tenants, .slice qa3 na3 ca3] 61, kc b #[ptr rb 0] 115, (pb, gobj (kR RPr) kB d02)]) (fun l => []) ?_ ?_
  ·replace hm := h3
   refine jj ?_
   refine jD (ι := Unit) hm (fun s l_1 => True) (fun s l_1 => [(2, ptr b 0), (3, ptr b_1 0), (5, .int .i64 s.need5), (6, .int .i64 s.can6), (15, .slice qa2 na2 ca2), (16, .int .i64 (d01.length : Int)), (17, .int .i64 s.t17)]) (fun s l_1 => [kc b_1 #[.bool l1.tenants, .slice qa3 na3 ca3] 61, kc b #[ptr rb 0] 115, (pb, gobj (kR RPr) kB d02)]) (fun s l_1 => []) () (trivial) (sE Y) (fun w hh => hh) (fun s l_1 r hpl hm h5 => ?_)
   unfold JK at hm
   refine jp (zK Y Y Y (jo (jk ?_)))
   refine jr Y (fun h6 => ?_) (fun h6 => ?_)
   ·replace hm := ifD h6 hm
    refine js (ja (jk ?_))
    obtain ⟨o_1, h7, h8⟩ := bindO hm
    refine jM (ι := Unit) (fun l_2 => True) (fun l_2 => [(2, ptr b 0), (3, ptr b_1 0), (5, .int .i64 o_1.need5), (6, .int .i64 o_1.can6), (15, .slice qa2 na2 ca2), (16, .int .i64 (d01.length : Int)), (17, .int .i64 s.t17)]) (fun l_2 => [kc b_1 #[.bool l1.tenants, .slice qa3 na3 ca3] 61, kc b #[ptr rb 0] 115, (pb, gobj (kR RPr) kB d02)]) (fun l_2 => []) ?_ ?_
    ·replace hm := h7
     refine jj (jp (je Y Y ?_))
     obtain ⟨t20, h9, hm⟩ := bindO hm
     refine jb Y Y Y (fun w _ => q7 h9 (runUnderlying26 w) (sizeOf37 w) Y Y hna2 hqa2) ?_
     refine jb Y Y Y (fun w hh => kT RSp 0 [.int .i64 t20.lo, .int .i64 t20.hi] h9 (isAgg37 w) (sizeOf37 w) Y (hh.seg 2 Y) Y (Nat.add_zero _).symm) ?_
     refine jq (fun w => zeroValue3 w) Y (fun b_2 h10 => ?_)
     refine jq (fun w => zeroValue37 w) Y (fun b_3 h11 => ?_)
     refine yo (cs' := #[_]) (S' := [_, _, _, _, _]) 1 (fun w => sizeOf3 w) Y Y Y Y Y Y Y (jB (us := #[_, _]) (cs' := [_, _]) (S' := [_, _, _, _, _]) 0 (fun w => sizeOf37 w) Y Y Y Y Y Y Y (jo (jj (jk ?_))))
     obtain ⟨o_2, h12, h13⟩ := bindO hm
     refine jM (ι := Unit) (fun l_3 => True) (fun l_3 => [(2, ptr b 0), (3, ptr b_1 0), (5, .int .i64 s.need5), (6, .int .i64 s.can6), (7, ptr b_2 0), (8, ptr b_3 0), (15, .slice qa2 na2 ca2), (16, .int .i64 (d01.length : Int)), (17, .int .i64 s.t17), (22, .bool o_2)]) (fun l_3 => [kc b_3 #[.int .i64 t20.lo, .int .i64 t20.hi] 37, kc b_2 #[.int .i64 s.t17] 3, kc b_1 #[.bool l1.tenants, .slice qa3 na3 ca3] 61, kc b #[ptr rb 0] 115, (pb, gobj (kR RPr) kB d02)]) (fun l_3 => []) ?_ ?_
     ·replace hm := h12
      refine jh (j7 0 runUnderlying61 Y sizeOf4 Y Y (kx 2 isAgg4 Y Y Y Y (je Y Y ?_)))
      refine jZ 25 Y (fun h14 => ?_) (fun h14 => ?_)
      ·replace hm := ifT (h14) hm
       refine jc Y Y (j7 1 runUnderlying61 Y sizeOf32 Y Y (jc Y Y (kx 2 isAgg32 Y Y Y Y (jc Y Y (kx 1 isAgg3 Y Y Y Y (jc Y Y ?_))))))
       obtain ⟨t29, h15, hm⟩ := bindO hm
       refine jd [] [] Y Y Y Y Y Y Y call46 (fun w hh => zZ l1.of_ s.t17 qa3 na3 ca3 w (HV.callee (S0 := []) (vs0 := []) hh (roR hh 3 Y roN)) hna3 hqa3 hla3 h15) (fun l_4 h16 => ?_)
       refine qO Y Y Y (jl Y Y (jx ?_))
       obtain rfl := sj hm
       exact jn () (trivial) (sE Y) (fun w hh => hh)
      replace hm := ifN h14 hm
      refine g_k Y Y Y Y (g_k Y Y Y Y (g_k Y Y Y Y (g_k Y Y Y Y (yW Y Y Y (jl Y Y (jx ?_))))))
      obtain rfl := sj hm
      exact jn () (trivial) (sE Y) (fun w hh => hh)
     intro l_3 hj
     replace hm := h13
     refine ja ?_
     refine jr Y (fun h17 => ?_) (fun h17 => ?_)
     ·replace hm := ifT (h17) hm
      refine jh (je Y Y (j7 0 runUnderlying37 Y sizeOf3 Y Y (kx 0 isAgg3 Y Y Y Y ?_)))
      obtain ⟨t34, h18, hm⟩ := bindO hm
      refine yA h18 Y Y Y (jl Y Y (jx (jt (jt ?_))))
      obtain rfl := sj hm
      exact jn () (trivial) (sE Y) (hsE [2, 3, 4] [] 0 Y Y Y Y)
     replace hm := ifN h17 hm
     refine jk ?_
     obtain ⟨o_3, h19, h20⟩ := bindO hm
     refine jM (ι := Unit) (fun l_5 => True) (fun l_5 => [(2, ptr b 0), (3, ptr b_1 0), (5, .int .i64 s.need5), (6, .int .i64 s.can6), (8, ptr b_3 0), (15, .slice qa2 na2 ca2), (16, .int .i64 (d01.length : Int)), (17, .int .i64 s.t17), (35, .bool o_3)]) (fun l_5 => [kc b_3 #[.int .i64 t20.lo, .int .i64 t20.hi] 37, kc b_2 #[.int .i64 s.t17] 3, kc b_1 #[.bool l1.tenants, .slice qa3 na3 ca3] 61, kc b #[ptr rb 0] 115, (pb, gobj (kR RPr) kB d02)]) (fun l_5 => []) ?_ ?_
     ·replace hm := h19
      refine jh (j7 0 runUnderlying61 Y sizeOf4 Y Y (kx 2 isAgg4 Y Y Y Y (jb Y Y Y (fun _ _ => qv Y) (je Y Y ?_))))
      refine jZ 39 Y (fun h21 => ?_) (fun h21 => ?_)
      ·replace hm := ifT (h21) hm
       refine jc Y Y (j7 1 runUnderlying61 Y sizeOf32 Y Y (jc Y Y (kx 2 isAgg32 Y Y Y Y (jc Y Y (jb Y Y Y (fun _ _ => jE (u := #[]) (u' := #[_, _]) Y Y) (jc Y Y ?_))))))
       obtain ⟨t43, h22, hm⟩ := bindO hm
       refine jH (S' := [_, _, _, _, _]) (vs' := []) [4, 0, 1, 2, 3] [] 0 Y Y Y Y ?_
       refine jd [_] [] Y Y Y Y Y Y Y call127 (fun w hh => Jt l1.of_ d00 d01 d02 s.t17 qa3 na3 ca3 b rb qa1 na1 ca1 qa2 na2 ca2 pb b_2 w (HV.callee (S0 := [_]) (vs0 := []) hh (roR hh 3 Y (roC (hh.bsepH 3 Y) (roR hh 0 Y (roR hh 1 Y (roR hh 2 Y (roC (hh.bsepH 1 Y) roN))))))) hna3 hqa3 hla3 hna1 hqa1 hla1 hna2 hqa2 hla2 h22) (fun l_6 h23 => ?_)
       refine jH (S' := [_, _, _, _, _]) (vs' := []) [0, 1, 2, 3, 4] [] 0 Y Y Y Y (qO Y Y Y (jl Y Y (jx ?_)))
       obtain rfl := sj hm
       exact jn () (trivial) (sE Y) (hsE [1, 2, 3, 4, 0] [] 0 Y Y Y Y)
      replace hm := ifN h21 hm
      refine g_k Y Y Y Y (g_k Y Y Y Y (g_k Y Y Y Y (g_k Y Y Y Y (yW Y Y Y (jl Y Y (jx ?_))))))
      obtain rfl := sj hm
      exact jn () (trivial) (sE Y) (fun w hh => hh)
     intro l_5 hj
     replace hm := h20
     refine ja ?_
     refine jr Y (fun h24 => ?_) (fun h24 => ?_)
     ·replace hm := ifT (h24) hm
      refine jh (je Y Y (j7 1 runUnderlying37 Y sizeOf3 Y Y (kx 0 isAgg3 Y Y Y Y ?_)))
      obtain ⟨t48, h25, hm⟩ := bindO hm
      refine yA h25 Y Y Y (jl Y Y (jx (jt (jt ?_))))
      obtain rfl := sj hm
      exact jn () (trivial) (sE Y) (hsE [2, 3, 4] [] 0 Y Y Y Y)
     replace hm := ifN h24 hm
     refine js (jt (jt ?_))
     obtain rfl := sj hm
     exact jn () (trivial) (sE Y) (hsE [2, 3, 4] [] 0 Y Y Y Y)
    intro l_2 hj
    replace hm := h8
    refine ja (jh ?_)
    obtain ⟨t49, h26, hm⟩ := bindO hm
    refine yA h26 Y Y Y (je Y Y (jx ?_))
    obtain rfl := sj hm
    refine ja ?_
    exact jz _ () Y (trivial) (sE Y) (fun w hh => hh)
   replace hm := ifE h6 hm
   refine jP (ji (ji (jC ?_)))
   obtain rfl := sj hm
   have hbo := h5 _ Y
   subst hbo
   exact jn () (trivial) (sE Y) (fun w hh => hh)
  intro l hj
  replace hm := h4
  refine ja (jk (jp (kx 1 isAgg115 Y Y Y Y (jb Y Y Y (fun _ _ => jw Y) (j7 0 runUnderlying163 Y sizeOf28 Y Y (j7 0 runUnderlying28 Y sizeOf25 Y Y (jb Y Y Y (fun w hh => jQ (isAgg25 w) Y (segCell (hh.seg 0 Y) 0 Y)) ?_)))))))
  refine jb Y Y Y (fun w _ => jR hna1 (runUnderlying25 w) Y) (je Y Y (jo ?_))
  obtain ⟨o_4, h27, h28⟩ := bindO hm
  refine jM (ι := Unit) (fun l_7 => True) (fun l_7 => [(5, .int .i64 o_4.need5), (6, .int .i64 o_4.can6)]) (fun l_7 => [kc b_1 #[.bool l1.tenants, .slice qa3 na3 ca3] 61, kc b #[ptr rb 0] 115, (pb, gobj (kR RPr) kB d02)]) (fun l_7 => []) ?_ ?_
  ·replace hm := h27
   refine jj ?_
   refine jD (ι := Unit) hm (fun s_1 l_8 => True) (fun s_1 l_8 => [(2, ptr b 0), (3, ptr b_1 0), (5, .int .i64 s_1.need5), (6, .int .i64 s_1.can6), (54, .slice qa1 na1 ca1), (55, .int .i64 (d00.length : Int)), (56, .int .i64 s_1.t56)]) (fun s_1 l_8 => [kc b_1 #[.bool l1.tenants, .slice qa3 na3 ca3] 61, kc b #[ptr rb 0] 115, (pb, gobj (kR RPr) kB d02)]) (fun s_1 l_8 => []) () (trivial) (sE Y) (fun w hh => hh) (fun s_1 l_8 r_1 hpl hm h29 => ?_)
   unfold JI at hm
   refine jp (zK Y Y Y (jo (jk ?_)))
   refine jr Y (fun h30 => ?_) (fun h30 => ?_)
   ·replace hm := ifD h30 hm
    refine js (ja (jk ?_))
    obtain ⟨o_5, h31, h32⟩ := bindO hm
    refine jM (ι := Unit) (fun l_9 => True) (fun l_9 => [(2, ptr b 0), (3, ptr b_1 0), (5, .int .i64 o_5.need5), (6, .int .i64 o_5.can6), (54, .slice qa1 na1 ca1), (55, .int .i64 (d00.length : Int)), (56, .int .i64 s_1.t56)]) (fun l_9 => [kc b_1 #[.bool l1.tenants, .slice qa3 na3 ca3] 61, kc b #[ptr rb 0] 115, (pb, gobj (kR RPr) kB d02)]) (fun l_9 => []) ?_ ?_
    ·replace hm := h31
     refine jj (jp (je Y Y ?_))
     obtain ⟨t59, h33, hm⟩ := bindO hm
     refine jb Y Y Y (fun w _ => q7 h33 (runUnderlying25 w) (sizeOf77 w) Y Y hna1 hqa1) ?_
     refine jb Y Y Y (fun w hh => kT RSt 0 [.int .i64 t59.tenant, .int .i64 t59.lay.lo, .int .i64 t59.lay.hi, .int .i64 t59.seeded.lo, .int .i64 t59.seeded.hi, .int .i64 t59.left.lo, .int .i64 t59.left.hi] h33 (isAgg77 w) (sizeOf77 w) Y (hh.seg 1 Y) Y (Nat.add_zero _).symm) ?_
     refine jq (fun w => zeroValue3 w) Y (fun b_4 h34 => ?_)
     refine jq (fun w => zeroValue77 w) Y (fun b_5 h35 => ?_)
     refine yo (cs' := #[_]) (S' := [_, _, _, _, _]) 1 (fun w => sizeOf3 w) Y Y Y Y Y Y Y (jB (us := #[_, _, _, _, _, _, _]) (cs' := [_, _, _, _, _, _, _]) (S' := [_, _, _, _, _]) 0 (fun w => sizeOf77 w) Y Y Y Y Y Y Y (jo (jj (jk ?_))))
     obtain ⟨o_6, h36, h37⟩ := bindO hm
     refine jM (ι := Unit) (fun l_10 => True) (fun l_10 => [(2, ptr b 0), (3, ptr b_1 0), (5, .int .i64 s_1.need5), (6, .int .i64 s_1.can6), (9, ptr b_4 0), (10, ptr b_5 0), (54, .slice qa1 na1 ca1), (55, .int .i64 (d00.length : Int)), (56, .int .i64 s_1.t56), (61, .bool o_6)]) (fun l_10 => [kc b_5 #[.int .i64 t59.tenant, .int .i64 t59.lay.lo, .int .i64 t59.lay.hi, .int .i64 t59.seeded.lo, .int .i64 t59.seeded.hi, .int .i64 t59.left.lo, .int .i64 t59.left.hi] 77, kc b_4 #[.int .i64 s_1.t56] 3, kc b_1 #[.bool l1.tenants, .slice qa3 na3 ca3] 61, kc b #[ptr rb 0] 115, (pb, gobj (kR RPr) kB d02)]) (fun l_10 => []) ?_ ?_
     ·replace hm := h36
      refine jh (j7 0 runUnderlying61 Y sizeOf4 Y Y (kx 2 isAgg4 Y Y Y Y (jb Y Y Y (fun _ _ => qv Y) (je Y Y ?_))))
      refine jZ 65 Y (fun h38 => ?_) (fun h38 => ?_)
      ·replace hm := ifT (h38) hm
       refine jc Y Y (j7 1 runUnderlying61 Y sizeOf32 Y Y (jc Y Y (kx 2 isAgg32 Y Y Y Y (jc Y Y (kx 1 isAgg3 Y Y Y Y (jc Y Y ?_))))))
       obtain ⟨t69, h39, hm⟩ := bindO hm
       refine jd [] [] Y Y Y Y Y Y Y call46 (fun w hh => zZ l1.of_ s_1.t56 qa3 na3 ca3 w (HV.callee (S0 := []) (vs0 := []) hh (roR hh 3 Y roN)) hna3 hqa3 hla3 h39) (fun l_11 h40 => ?_)
       refine qO Y Y Y (jl Y Y (jx ?_))
       obtain rfl := sj hm
       exact jn () (trivial) (sE Y) (fun w hh => hh)
      replace hm := ifN h38 hm
      refine g_k Y Y Y Y (g_k Y Y Y Y (g_k Y Y Y Y (g_k Y Y Y Y (yW Y Y Y (jl Y Y (jx ?_))))))
      obtain rfl := sj hm
      exact jn () (trivial) (sE Y) (fun w hh => hh)
     intro l_10 hj
     replace hm := h37
     refine ja ?_
     refine jr Y (fun h41 => ?_) (fun h41 => ?_)
     ·replace hm := ifT (h41) hm
      refine jh (je Y Y (qX [_, _, _, _, _, _, _] 0 isAgg77 sizeOf77 Y Y Y Y ?_))
      obtain ⟨t73, h42, hm⟩ := bindO hm
      refine jd [] [] Y Y Y Y Y Y Y call64 (fun w hh => qM (⟨t59.tenant, (⟨t59.lay.lo, t59.lay.hi⟩ : Span), (⟨t59.seeded.lo, t59.seeded.hi⟩ : Span), (⟨t59.left.lo, t59.left.hi⟩ : Span)⟩ : Strip) w (HV.callee (S0 := []) (vs0 := []) hh roN)  h42) (fun l_12 h43 => ?_)
      refine jb Y Y Y (fun w _ => Yi 3 0 (runUnderlying37 w) Y (isAgg3 w) Y Y) ?_
      obtain ⟨t75, h44, hm⟩ := bindO hm
      refine yA h44 Y Y Y (jl Y Y (jx (jt (jt ?_))))
      obtain rfl := sj hm
      exact jn () (trivial) (sE Y) (hsE [2, 3, 4] [] 0 Y Y Y Y)
     replace hm := ifN h41 hm
     refine jk ?_
     obtain ⟨o_7, h45, h46⟩ := bindO hm
     refine jM (ι := Unit) (fun l_13 => True) (fun l_13 => [(2, ptr b 0), (3, ptr b_1 0), (5, .int .i64 s_1.need5), (6, .int .i64 s_1.can6), (10, ptr b_5 0), (54, .slice qa1 na1 ca1), (55, .int .i64 (d00.length : Int)), (56, .int .i64 s_1.t56), (76, .bool o_7)]) (fun l_13 => [kc b_5 #[.int .i64 t59.tenant, .int .i64 t59.lay.lo, .int .i64 t59.lay.hi, .int .i64 t59.seeded.lo, .int .i64 t59.seeded.hi, .int .i64 t59.left.lo, .int .i64 t59.left.hi] 77, kc b_4 #[.int .i64 s_1.t56] 3, kc b_1 #[.bool l1.tenants, .slice qa3 na3 ca3] 61, kc b #[ptr rb 0] 115, (pb, gobj (kR RPr) kB d02)]) (fun l_13 => []) ?_ ?_
     ·replace hm := h45
      refine jh (j7 0 runUnderlying61 Y sizeOf4 Y Y (kx 2 isAgg4 Y Y Y Y (je Y Y ?_)))
      refine jZ 79 Y (fun h47 => ?_) (fun h47 => ?_)
      ·replace hm := ifT (h47) hm
       refine jc Y Y (j7 1 runUnderlying61 Y sizeOf32 Y Y (jc Y Y (kx 2 isAgg32 Y Y Y Y (jc Y Y (jb Y Y Y (fun _ _ => jE (u := #[]) (u' := #[_, _]) Y Y) (jc Y Y ?_))))))
       obtain ⟨t83, h48, hm⟩ := bindO hm
       refine jH (S' := [_, _, _, _, _]) (vs' := []) [4, 0, 1, 2, 3] [] 0 Y Y Y Y ?_
       refine jd [_] [] Y Y Y Y Y Y Y call127 (fun w hh => Jv l1.of_ d00 d01 d02 s_1.t56 qa3 na3 ca3 b rb qa1 na1 ca1 qa2 na2 ca2 pb b_4 w (HV.callee (S0 := [_]) (vs0 := []) hh (roR hh 3 Y (roC (hh.bsepH 3 Y) (roR hh 0 Y (roR hh 1 Y (roR hh 2 Y (roC (hh.bsepH 1 Y) roN))))))) hna3 hqa3 hla3 hna1 hqa1 hla1 hna2 hqa2 hla2 h48) (fun l_14 h49 => ?_)
       refine jH (S' := [_, _, _, _, _]) (vs' := []) [0, 1, 2, 3, 4] [] 0 Y Y Y Y (qO Y Y Y (jl Y Y (jx ?_)))
       obtain rfl := sj hm
       exact jn () (trivial) (sE Y) (hsE [1, 2, 3, 4, 0] [] 0 Y Y Y Y)
      replace hm := ifN h47 hm
      refine g_k Y Y Y Y (g_k Y Y Y Y (g_k Y Y Y Y (g_k Y Y Y Y (yW Y Y Y (jl Y Y (jx ?_))))))
      obtain rfl := sj hm
      exact jn () (trivial) (sE Y) (fun w hh => hh)
     intro l_13 hj
     replace hm := h46
     refine ja ?_
     refine jr Y (fun h50 => ?_) (fun h50 => ?_)
     ·replace hm := ifT (h50) hm
      refine jh (je Y Y (qX [_, _, _, _, _, _, _] 0 isAgg77 sizeOf77 Y Y Y Y ?_))
      obtain ⟨t87, h51, hm⟩ := bindO hm
      refine jd [] [] Y Y Y Y Y Y Y call64 (fun w hh => qM (⟨t59.tenant, (⟨t59.lay.lo, t59.lay.hi⟩ : Span), (⟨t59.seeded.lo, t59.seeded.hi⟩ : Span), (⟨t59.left.lo, t59.left.hi⟩ : Span)⟩ : Strip) w (HV.callee (S0 := []) (vs0 := []) hh roN)  h51) (fun l_15 h52 => ?_)
      refine jb Y Y Y (fun w _ => Yi 3 1 (runUnderlying37 w) Y (isAgg3 w) Y Y) ?_
      obtain ⟨t89, h53, hm⟩ := bindO hm
      refine yA h53 Y Y Y (jl Y Y (jx (jt (jt ?_))))
      obtain rfl := sj hm
      exact jn () (trivial) (sE Y) (hsE [2, 3, 4] [] 0 Y Y Y Y)
     replace hm := ifN h50 hm
     refine js (jt (jt ?_))
     obtain rfl := sj hm
     exact jn () (trivial) (sE Y) (hsE [2, 3, 4] [] 0 Y Y Y Y)
    intro l_9 hj
    replace hm := h32
    refine ja (jh ?_)
    obtain ⟨t90, h54, hm⟩ := bindO hm
    refine yA h54 Y Y Y (je Y Y (jx ?_))
    obtain rfl := sj hm
    refine ja ?_
    exact jz _ () Y (trivial) (sE Y) (fun w hh => hh)
   replace hm := ifE h30 hm
   refine jP (ji (ji (jC ?_)))
   obtain rfl := sj hm
   have hbo := h29 _ Y
   subst hbo
   exact jn () (trivial) (sE Y) (fun w hh => hh)
  intro l_7 hj
  replace hm := h28
  refine ja (jp (je Y Y (je Y Y ?_)))
  obtain ⟨t93, h55, hm⟩ := bindO hm
  refine jb Y Y Y (fun _ _ => qc h55 Y Y) (jl Y Y (jo (ju ?_)))
  obtain rfl := sj hm
  refine jm Y (fun w hh => (.tmp Y .nil)) (fun w hh => ⟨(), rfl, trivial, hh.se [2] [] 4 Y Y Y rfl⟩)
def zo (x0 : Int) (a11_f0 : Scalps) : Option Bool :=
 (kq a11_f0 x0).bind fun t6 =>
 some (!t6)
theorem Qc (x0 : Int) (a11_f0 : Scalps) (rb : Nat) (qa1 : Option Addr) (na1 ca1 : Nat) (qa2 : Option Addr) (na2 ca2 : Nat) (w : World) (hw : HV w (keys [] []) [] [] [(rb, 0, [.func (.func 71) #[.agg #[.slice qa1 na1 ca1, .slice qa2 na2 ca2]] #[]]), (aB qa1, aO qa1, RSt.enc a11_f0.strips), (aB qa2, aO qa2, RSp.enc a11_f0.carried)] w)  (hna1 : a11_f0.strips.length = na1) (hqa1 : AOK na1 qa1) (hla1 : na1 ≤ ca1) (hna2 : a11_f0.carried.length = na2) (hqa2 : AOK na2 qa2) (hla2 : na2 ≤ ca2) {res : Bool} (hm : zo x0 a11_f0 = some res) :
    Calls Try.prog 128 #[.int .i64 x0, ptr rb 0] w (fun en w' => ∃ l : Unit, en = .returned (.bool res) ∧ (True) ∧ HV w (keys [] []) [] [] [] w') := by
  unfold zo at hm
  refine kl func128 Y ntmps128 Y (e := [(0, _), (1, _)]) Y hw (jp (jl Y Y (jV (jb Y Y Y (fun w hh => jQ (isAgg71 w) Y (segCell (hh.seg 0 Y) 0 Y)) (je Y Y ?_)))))
  obtain ⟨t6, h1, hm⟩ := bindO hm
  refine jd [] [] Y Y Y Y Y Y Y call71 (fun w hh => zU a11_f0 x0 qa1 na1 ca1 qa2 na2 ca2 w (HV.callee (S0 := []) (vs0 := []) hh (roR hh 1 Y (roR hh 2 Y roN))) hna1 hqa1 hla1 hna2 hqa2 hla2 h1) (fun l h2 => ?_)
  refine jb Y Y Y (fun _ _ => qv Y) (jl Y Y (jo (ju ?_)))
  obtain rfl := sj hm
  refine jm Y (fun w hh => (.tmp Y .nil)) (fun w hh => ⟨(), rfl, trivial, hh.se [] [] 3 Y Y Y rfl⟩)
def yx (s0 : (List Int)) (f1_c0_f0 : Scalps) (s : Int) : Option (Int ⊕ (Unit ⊕ Int)) :=
 if s < (s0.length : Int) then
 ((ix s0 s).bind fun t14 =>
 (zo t14 f1_c0_f0).bind fun t16 =>
 if t16 = true then
 (some (.inr (.inr s))) else
 ((addc s 1).bind fun t18 =>
 some (.inl t18))) else
 (some (.inr (.inl ())))
def qs (s0 : (List Int)) (f1_c0_f0 : Scalps) : Option Int :=
 (iterM FU (yx s0 f1_c0_f0) 0).bind fun o =>
 oc o (fun j => some (-1)) (fun r_1 => some r_1)
theorem Kc (s0 : (List Int)) (f1_c0_f0 : Scalps) (qa0 : Option Addr) (na0 ca0 : Nat) (rb : Nat) (qa2 : Option Addr) (na2 ca2 : Nat) (qa3 : Option Addr) (na3 ca3 : Nat) (w : World) (hw : HV w (keys [] []) [] [] [(aB qa0, aO qa0, RI.enc s0), (rb, 0, [.func (.func 71) #[.agg #[.slice qa2 na2 ca2, .slice qa3 na3 ca3]] #[]]), (aB qa2, aO qa2, RSt.enc f1_c0_f0.strips), (aB qa3, aO qa3, RSp.enc f1_c0_f0.carried)] w) (hna0 : s0.length = na0) (hqa0 : AOK na0 qa0) (hla0 : na0 ≤ ca0)  (hna2 : f1_c0_f0.strips.length = na2) (hqa2 : AOK na2 qa2) (hla2 : na2 ≤ ca2) (hna3 : f1_c0_f0.carried.length = na3) (hqa3 : AOK na3 qa3) (hla3 : na3 ≤ ca3) {res : Int} (hm : qs s0 f1_c0_f0 = some res) :
    Calls Try.prog 146 #[.slice qa0 na0 ca0, .func (.func 128) #[] #[ptr rb 0]] w (fun en w' => ∃ l : Unit, en = .returned (.int .i64 res) ∧ (True) ∧ HV w (keys [] []) [] [] [] w') := by
  unfold qs at hm
  refine kl func146 Y ntmps146 Y (e := [(0, _), (1, _)]) Y hw (jp (jl Y Y (jo (jk (jp (je Y Y (jb Y Y Y (fun w _ => jR hna0 (runUnderlying32 w) Y) ?_)))))))
  refine je Y Y (jo ?_)
  obtain ⟨o, h1, h2⟩ := bindO hm
  refine jM (ι := Unit) (fun j => o = .inl j) (fun j => []) (fun j => []) (fun j => []) ?_ ?_
  ·replace hm := h1
   refine jj ?_
   refine jD (ι := Unit) hm (fun s l => True) (fun s l => [(0, .slice qa0 na0 ca0), (1, .func (.func 128) #[] #[ptr rb 0]), (7, .int .i64 (s0.length : Int)), (8, .int .i64 s)]) (fun s l => []) (fun s l => []) () (trivial) (sE Y) (fun w hh => hh) (fun s l r hpl hm h3 => ?_)
   unfold yx at hm
   refine jp (zK Y Y Y (jo (jk ?_)))
   refine jr Y (fun h4 => ?_) (fun h4 => ?_)
   ·replace hm := ifD h4 hm
    refine js (ja (jk (jj (jp (je Y Y (jl Y Y (jV ?_)))))))
    refine je Y Y (je Y Y (je Y Y ?_))
    obtain ⟨t14, h5, hm⟩ := bindO hm
    refine jb Y Y Y (fun w _ => q7 h5 (runUnderlying32 w) (sizeOf3 w) Y Y hna0 hqa0) (jb Y Y Y (fun w hh => qx RI 0 h5 (isAgg3 w) Y (hh.seg 0 Y) Y (Nat.add_zero _).symm) ?_)
    obtain ⟨t16, h6, hm⟩ := bindO hm
    refine jd [] [] Y Y Y Y Y Y Y call128 (fun w hh => Qc t14 f1_c0_f0 rb qa2 na2 ca2 qa3 na3 ca3 w (HV.callee (S0 := []) (vs0 := []) hh (roR hh 1 Y (roR hh 2 Y (roR hh 3 Y roN)))) hna2 hqa2 hla2 hna3 hqa3 hla3 h6) (fun l_1 h7 => ?_)
    refine jo ?_
    refine jr Y (fun h8 => ?_) (fun h8 => ?_)
    ·replace hm := ifT (h8) hm
     refine jp (je Y Y (jl Y Y (jo (ju (jy (jf (jf ?_)))))))
     refine jy ?_
     obtain rfl := sj hm
     have hbo := h3 _ Y
     subst hbo
     refine jf ?_
     replace hm := ocR h2
     refine jf ?_
     obtain rfl := sj hm
     refine jm Y (fun w hh => (.tmp Y .nil)) (fun w hh => ⟨(), rfl, trivial, hh.se [] [] 4 Y Y Y rfl⟩)
    replace hm := ifN h8 hm
    refine js (jt (ja (jh ?_)))
    obtain ⟨t18, h9, hm⟩ := bindO hm
    refine yA h9 Y Y Y (je Y Y (jx ?_))
    obtain rfl := sj hm
    refine ja ?_
    exact jz _ () Y (trivial) (sE Y) (fun w hh => hh)
   replace hm := ifE h4 hm
   refine jP (ji (ji (jC ?_)))
   obtain rfl := sj hm
   have hbo := h3 _ Y
   subst hbo
   exact jn () (Y) (.nil) (fun w hh => hh)
  intro j hj
  have h10 := hj
  subst h10
  replace hm := ocL h2
  refine ja (jp (jl Y Y (jo (ju ?_))))
  obtain rfl := sj hm
  refine jm Y (fun w hh => (.tmp Y .nil)) (fun w hh => ⟨(), rfl, trivial, hh.se [] [] 4 Y Y Y rfl⟩)
def kJ (s0 : (List Int)) (f1_c0_f0 : Scalps) : Option Bool :=
 (qs s0 f1_c0_f0).bind fun t7 =>
 some (decide (0 ≤ t7))
theorem Jw (s0 : (List Int)) (f1_c0_f0 : Scalps) (qa0 : Option Addr) (na0 ca0 : Nat) (rb : Nat) (qa2 : Option Addr) (na2 ca2 : Nat) (qa3 : Option Addr) (na3 ca3 : Nat) (w : World) (hw : HV w (keys [] []) [] [] [(aB qa0, aO qa0, RI.enc s0), (rb, 0, [.func (.func 71) #[.agg #[.slice qa2 na2 ca2, .slice qa3 na3 ca3]] #[]]), (aB qa2, aO qa2, RSt.enc f1_c0_f0.strips), (aB qa3, aO qa3, RSp.enc f1_c0_f0.carried)] w) (hna0 : s0.length = na0) (hqa0 : AOK na0 qa0) (hla0 : na0 ≤ ca0)  (hna2 : f1_c0_f0.strips.length = na2) (hqa2 : AOK na2 qa2) (hla2 : na2 ≤ ca2) (hna3 : f1_c0_f0.carried.length = na3) (hqa3 : AOK na3 qa3) (hla3 : na3 ≤ ca3) {res : Bool} (hm : kJ s0 f1_c0_f0 = some res) :
    Calls Try.prog 127 #[.slice qa0 na0 ca0, .func (.func 128) #[] #[ptr rb 0]] w (fun en w' => ∃ l : Unit, en = .returned (.bool res) ∧ (True) ∧ HV w (keys [] []) [] [] [] w') := by
  unfold kJ at hm
  refine kl func127 Y ntmps127 Y (e := [(0, _), (1, _)]) Y hw (jp (jl Y Y (jV (je Y Y (je Y Y ?_)))))
  obtain ⟨t7, h1, hm⟩ := bindO hm
  refine jd [] [] Y Y Y Y Y Y Y call146 (fun w hh => Kc s0 f1_c0_f0 qa0 na0 ca0 rb qa2 na2 ca2 qa3 na3 ca3 w (HV.callee (S0 := []) (vs0 := []) hh (roR hh 0 Y (roR hh 1 Y (roR hh 2 Y (roR hh 3 Y roN))))) hna0 hqa0 hla0 hna2 hqa2 hla2 hna3 hqa3 hla3 h1) (fun l h2 => ?_)
  refine jb Y Y Y (fun _ _ => K4 Y Y) (jl Y Y (jo (ju ?_)))
  obtain rfl := sj hm
  refine jm Y (fun w hh => (.tmp Y .nil)) (fun w hh => ⟨(), rfl, trivial, hh.se [] [] 4 Y Y Y rfl⟩)
def Jh (l0 : (List Int)) (holds1_f0 : Scalps) : Option Bool :=
 (kJ l0 holds1_f0).bind fun t7 =>
 some (!t7)
theorem Qt (l0 : (List Int)) (holds1_f0 : Scalps) (qa0 : Option Addr) (na0 ca0 : Nat) (qa1 : Option Addr) (na1 ca1 : Nat) (qa2 : Option Addr) (na2 ca2 : Nat) (w : World) (hw : HV w (keys [] []) [] [] [(aB qa0, aO qa0, RI.enc l0), (aB qa1, aO qa1, RSt.enc holds1_f0.strips), (aB qa2, aO qa2, RSp.enc holds1_f0.carried)] w) (hna0 : l0.length = na0) (hqa0 : AOK na0 qa0) (hla0 : na0 ≤ ca0) (hna1 : holds1_f0.strips.length = na1) (hqa1 : AOK na1 qa1) (hla1 : na1 ≤ ca1) (hna2 : holds1_f0.carried.length = na2) (hqa2 : AOK na2 qa2) (hla2 : na2 ≤ ca2) {res : Bool} (hm : Jh l0 holds1_f0 = some res) :
    Calls Try.prog 91 #[.slice qa0 na0 ca0, .func (.func 71) #[.agg #[.slice qa1 na1 ca1, .slice qa2 na2 ca2]] #[]] w (fun en w' => ∃ l : Unit, en = .returned (.bool res) ∧ (True) ∧ HV w (keys [] []) [] [] [] w') := by
  unfold Jh at hm
  refine kl func91 Y ntmps91 Y (e := [(0, _), (1, _)]) Y hw (jp ?_)
  refine jF Y Y (fun b h1 => ?_)
  refine jl Y Y (jV (je Y Y (jb Y Y Y (fun _ _ => jE (u := #[]) (u' := #[_]) Y Y) ?_)))
  obtain ⟨t7, h2, hm⟩ := bindO hm
  refine jd [] [] Y Y Y Y Y Y Y call127 (fun w hh => Jw l0 holds1_f0 qa0 na0 ca0 b qa1 na1 ca1 qa2 na2 ca2 w (HV.callee (S0 := []) (vs0 := []) hh (roR hh 0 Y (roC (bsep (hh.bseg 0 Y)) (roR hh 1 Y (roR hh 2 Y roN))))) hna0 hqa0 hla0 hna1 hqa1 hla1 hna2 hqa2 hla2 h2) (fun l h3 => ?_)
  refine jb Y Y Y (fun _ _ => qv Y) (jl Y Y (jo (ju ?_)))
  obtain rfl := sj hm
  refine jm Y (fun w hh => (.tmp Y .nil)) (fun w hh => ⟨(), rfl, trivial, hh.se [] [] 3 Y Y Y rfl⟩)
structure kp where
  r0 : Int
  r1 : Int
def KU (s0 : Scalps) (l1 : Lack) : Option kp :=
 (kM s0).bind fun t11 =>
 oc t11 (fun t11a => if l1.tenants = true then
 (some (⟨0, t11a⟩ : kp)) else
 (some (⟨0, t11a⟩ : kp))) (fun t11b => if l1.tenants = true then
 ((Jm l1.of_ s0).bind fun t28 =>
 if (!t28) = true then
 (some (⟨0, 1⟩ : kp)) else
 ((if (l1.of_.length : Int) = 0 then
 (some true) else
 ((kX l1.of_).bind fun t38 =>
 if (!t38) = true then
 (some true) else
 ((yl l1.of_).bind fun t44 =>
 (yN t44).bind fun t45 =>
 some (decide ((t45.length : Int) < (l1.of_.length : Int)))))).bind fun o =>
 if o = true then
 (some (⟨0, 4⟩ : kp)) else
 ((qL s0.strips s0.carried t11b l1).bind fun t55 =>
 if t55 < 1 then
 (some (⟨0, 8⟩ : kp)) else
 ((qL s0.strips s0.carried t11b l1).bind fun t59 =>
 some (⟨t59, 0⟩ : kp))))) else
 ((Jh l1.of_ s0).bind fun t28_1 =>
 if (!t28_1) = true then
 (some (⟨0, 1⟩ : kp)) else
 ((if (l1.of_.length : Int) = 0 then
 (some true) else
 ((kX l1.of_).bind fun t38_1 =>
 if (!t38_1) = true then
 (some true) else
 ((yl l1.of_).bind fun t44_1 =>
 (yN t44_1).bind fun t45_1 =>
 some (decide ((t45_1.length : Int) < (l1.of_.length : Int)))))).bind fun o_1 =>
 if o_1 = true then
 (some (⟨0, 4⟩ : kp)) else
 ((qL s0.strips s0.carried t11b l1).bind fun t55_1 =>
 if t55_1 < 1 then
 (some (⟨0, 8⟩ : kp)) else
 ((qL s0.strips s0.carried t11b l1).bind fun t59_1 =>
 some (⟨t59_1, 0⟩ : kp))))))
theorem Yx (s0 : Scalps) (l1 : Lack) (qa0 : Option Addr) (na0 ca0 : Nat) (qa1 : Option Addr) (na1 ca1 : Nat) (qa2 : Option Addr) (na2 ca2 : Nat) (w : World) (hw : HV w (keys [] []) [] [] [(aB qa0, aO qa0, RSt.enc s0.strips), (aB qa1, aO qa1, RSp.enc s0.carried), (aB qa2, aO qa2, RI.enc l1.of_)] w) (hna0 : s0.strips.length = na0) (hqa0 : AOK na0 qa0) (hla0 : na0 ≤ ca0) (hna1 : s0.carried.length = na1) (hqa1 : AOK na1 qa1) (hla1 : na1 ≤ ca1) (hna2 : l1.of_.length = na2) (hqa2 : AOK na2 qa2) (hla2 : na2 ≤ ca2) {res : kp} (hm : KU s0 l1 = some res) :
    Calls Try.prog 36 #[.agg #[.slice qa0 na0 ca0, .slice qa1 na1 ca1], .agg #[.bool l1.tenants, .slice qa2 na2 ca2]] w (fun en w' => ∃ l : Unit, en = .returned (.tuple #[.int .i64 res.r0, .int .i64 res.r1]) ∧ (True) ∧ HV w (keys [] []) [] [] [] w') := by
  unfold KU at hm
  refine kl func36 Y ntmps36 Y (e := [(0, _), (1, _)]) Y hw (jp ?_)
  refine jF Y Y (fun b h1 => ?_)
  refine jF Y Y (fun b_1 h2 => ?_)
  refine jl Y Y (jl Y Y (jV (qX [_, _] 1 isAgg28 sizeOf28 Y Y Y Y ?_)))
  obtain ⟨t11, h3, hm⟩ := bindO hm
  rcases t11 with t11a | t11b
  ·replace hm := ocL hm
   refine jd [] [] Y Y Y Y Y Y Y call65 (fun w hh => kn s0 qa0 na0 ca0 qa1 na1 ca1 w (HV.callee (S0 := []) (vs0 := []) hh (roR hh 0 Y (roR hh 1 Y roN))) hna0 hqa0 hla0 hna1 hqa1 hla1 h3) (fun l h4 => ?_)
   have h5 := h4
   refine je Y Y (ka Y Y Y (ka Y Y Y (jl Y Y (jl Y Y (jV (qX [_, _] 1 isAgg28 sizeOf28 Y Y Y Y (jb Y Y Y (fun _ _ => jE (u := #[_]) (u' := #[]) Y Y) ?_)))))))
   refine jl Y Y (jo (jk (jp (j7 0 runUnderlying61 Y sizeOf4 Y Y (kx 0 isAgg4 Y Y Y Y (jo ?_))))))
   refine jr Y (fun h6 => ?_) (fun h6 => ?_)
   ·replace hm := ifT (h6) hm
    refine jh (qX [_, _] 1 isAgg28 sizeOf28 Y Y Y Y (jb Y Y Y (fun _ _ => jE (u := #[_]) (u' := #[]) Y Y) (jl Y Y (jo (jk (jj (jp ?_)))))))
    refine je Y Y (jb Y Y Y (fun _ _ => Qk h5 Y Y) (jl Y Y (jo (y8 Y Y (jp (je Y Y (jl Y Y ?_)))))))
    refine jl Y Y (jo (ju (jy (jf ?_))))
    obtain rfl := sj hm
    refine jm Y (fun w hh => (.tmp Y (.tmp Y .nil))) (fun w hh => ⟨(), rfl, trivial, hh.se [] [] 3 Y Y Y rfl⟩)
   replace hm := ifN h6 hm
   refine js (ja (jk (jj (jp (je Y Y (jb Y Y Y (fun _ _ => Qk h5 Y Y) (jl Y Y ?_)))))))
   refine jo (y8 Y Y (jp (je Y Y (jl Y Y (jl Y Y (jo (ju ?_)))))))
   refine jy (jf ?_)
   obtain rfl := sj hm
   refine jm Y (fun w hh => (.tmp Y (.tmp Y .nil))) (fun w hh => ⟨(), rfl, trivial, hh.se [] [] 3 Y Y Y rfl⟩)
  replace hm := ocR hm
  refine jd [] [] Y Y Y Y Y Y Y call65 (fun w hh => kn s0 qa0 na0 ca0 qa1 na1 ca1 w (HV.callee (S0 := []) (vs0 := []) hh (roR hh 0 Y (roR hh 1 Y roN))) hna0 hqa0 hla0 hna1 hqa1 hla1 h3) (fun l_1 h7 => ?_)
  refine jH (S' := [_, _, _, _]) (vs' := []) [0, 1, 2, 3] [] 0 Y Y Y Y (je Y Y (ka Y Y Y (ka Y Y Y (jl Y Y (jl Y Y (jV (qX [_, _] 3 isAgg28 sizeOf28 Y Y Y Y ?_)))))))
  refine jb Y Y Y (fun _ _ => jE (u := #[_]) (u' := #[]) Y Y) (jl Y Y (jo (jk (jp (j7 0 runUnderlying61 Y sizeOf4 Y Y (kx 2 isAgg4 Y Y Y Y (jo ?_)))))))
  refine jr Y (fun h8 => ?_) (fun h8 => ?_)
  ·replace hm := ifT (h8) hm
   refine jh (qX [_, _] 3 isAgg28 sizeOf28 Y Y Y Y (jb Y Y Y (fun _ _ => jE (u := #[_]) (u' := #[]) Y Y) (jl Y Y (jo (jk (jj (jp ?_)))))))
   refine je Y Y (jb Y Y Y (fun _ _ => q5 Y Y) (jl Y Y (jo (qS Y Y (jp (j7 1 runUnderlying61 Y sizeOf32 Y Y (kx 2 isAgg32 Y Y Y Y ?_)))))))
   refine je Y Y ?_
   obtain ⟨t28, h9, hm⟩ := bindO hm
   refine jd [] [] Y Y Y Y Y Y Y call91 (fun w hh => QF l1.of_ s0 qa2 na2 ca2 qa0 na0 ca0 qa1 na1 ca1 w (HV.callee (S0 := []) (vs0 := []) hh (roR hh 2 Y (roR hh 0 Y (roR hh 1 Y roN)))) hna2 hqa2 hla2 hna0 hqa0 hla0 hna1 hqa1 hla1 h9) (fun l_2 h10 => ?_)
   refine jb Y Y Y (fun _ _ => qv Y) (jl Y Y (jo ?_))
   refine jr Y (fun h11 => ?_) (fun h11 => ?_)
   ·replace hm := ifT (h11) hm
    refine jp (jl Y Y (jl Y Y (jo (ju (jy (jf ?_))))))
    obtain rfl := sj hm
    refine jm Y (fun w hh => (.tmp Y (.tmp Y .nil))) (fun w hh => ⟨(), rfl, trivial, hh.se [] [] 3 Y Y Y rfl⟩)
   replace hm := ifN h11 hm
   refine jk ?_
   obtain ⟨o, h12, h13⟩ := bindO hm
   refine jM (ι := Unit) (fun l_3 => True) (fun l_3 => [(3, ptr b_1 0), (6, ptr l_1.1 0), (30, .bool o)]) (fun l_3 => [kc l_1.1 #[.slice qa0 na0 ca0, .slice qa1 na1 ca1, .map (some l_1.2)] 163, (l_1.2, gobj (kR RPr) kB t11b), kc b_1 #[.bool l1.tenants, .slice qa2 na2 ca2] 61, kc b #[.slice qa0 na0 ca0, .slice qa1 na1 ca1] 28]) (fun l_3 => []) ?_ ?_
   ·replace hm := h12
    refine j4 none (.free 0 (.hoist 1 (.free 2 (.free 3 (.free 4 (.free 5 (.hoist 6 (.one 7 (.free 8 (.free 9 (.free 10 (.free 11 (.hoist 12 (.free 16 (.hoist 17 (.free 18 (.one 13 (.one 14 (.free 15 (.free 19 (.free 20 (.free 21 .done)))))))))))))))))))))) _ Y (by decide +kernel) (fun w k hh => hh.draw k) (fun w hh => hh) ?_
    refine qo 1 runUnderlying61 sizeOf32 Y Y Y Y (qW 2 isAgg32 Y Y Y Y Y (jg Y Y Y Y (fun w _ => jR hna2 (runUnderlying32 w) Y) (jg Y Y Y Y (fun _ _ => JT Y Y) (kU Y Y Y ?_))))
    refine jZ 35 Y (fun h14 => ?_) (fun h14 => ?_)
    ·replace hm := ifD h14 hm
     refine kk Y Y Y Y Y Y Y (KM Y Y Y Y Y Y Y (jK Y (g_k Y Y Y Y (jv (fun w hh => hh) (kk Y Y Y Y Y Y Y (jg Y Y Y Y (fun _ _ => Kg Y Y) (kU Y Y Y ?_)))))))
     refine kk Y Y Y Y Y Y Y (KM Y Y Y Y Y Y Y (kk Y Y Y Y Y Y Y (KM Y Y Y Y Y Y Y (kk Y Y Y Y Y Y Y (jK Y (g_k Y Y Y Y (jv (fun w hh => hh) ?_)))))))
     refine jK Y (g_k Y Y Y Y (jv (fun w hh => hh) (kk Y Y Y Y Y Y Y (kk Y Y Y Y Y Y Y (jg Y Y Y Y (fun _ _ => Kg Y Y) (jg Y Y Y Y (fun _ _ => jU Y) (jN ?_)))))))
     obtain rfl := sj hm
     exact jn () (trivial) (sE Y) (fun w hh => hh)
    replace hm := ifE h14 hm
    refine qQ Y Y Y Y Y Y (fun w _ => ky 1 (runUnderlying61 w) Y (sizeOf32 w) Y) (KE Y Y Y Y Y Y (fun w hh => jQ (isAgg32 w) Y (hh.cell 2 Y Y)) (jK Y (jc Y Y ?_)))
    obtain ⟨t38, h15, hm⟩ := bindO hm
    refine jd [] [] Y Y Y Y Y Y Y call92 (fun w hh => zY l1.of_ qa2 na2 ca2 w (HV.callee (S0 := []) (vs0 := []) hh (roR hh 2 Y roN)) hna2 hqa2 hla2 h15) (fun l_4 h16 => ?_)
    refine jv (fun w hh => hh) (qQ Y Y Y Y Y Y (fun _ _ => qv Y) (jg Y Y Y Y (fun _ _ => K6 Y Y) (kU Y Y Y ?_)))
    refine jZ 41 Y (fun h17 => ?_) (fun h17 => ?_)
    ·replace hm := ifT (h17) hm
     refine kk Y Y Y Y Y Y Y (KM Y Y Y Y Y Y Y (kk Y Y Y Y Y Y Y (KM Y Y Y Y Y Y Y (kk Y Y Y Y Y Y Y (jK Y (g_k Y Y Y Y (jv (fun w hh => hh) ?_)))))))
     refine jK Y (g_k Y Y Y Y (jv (fun w hh => hh) (kk Y Y Y Y Y Y Y (kk Y Y Y Y Y Y Y (jg Y Y Y Y (fun _ _ => Kg Y Y) (jg Y Y Y Y (fun _ _ => jU Y) (jN ?_)))))))
     obtain rfl := sj hm
     exact jn () (trivial) (sE Y) (fun w hh => hh)
    replace hm := ifN h17 hm
    refine qQ Y Y Y Y Y Y (fun w _ => ky 1 (runUnderlying61 w) Y (sizeOf32 w) Y) (KE Y Y Y Y Y Y (fun w hh => jQ (isAgg32 w) Y (hh.cell 2 Y Y)) (qQ Y Y Y Y Y Y (fun w _ => ky 1 (runUnderlying61 w) Y (sizeOf32 w) Y) (KE Y Y Y Y Y Y (fun w hh => jQ (isAgg32 w) Y (hh.cell 2 Y Y)) (qQ Y Y Y Y Y Y (fun w _ => jR hna2 (runUnderlying32 w) Y) (jK Y (jc Y Y ?_))))))
    obtain ⟨t44, h18, hm⟩ := bindO hm
    refine jd [] [] Y Y Y Y Y Y Y call94 (fun w hh => JH l1.of_ qa2 na2 ca2 w (HV.callee (S0 := []) (vs0 := []) hh (roR hh 2 Y roN)) hna2 hqa2 hla2 h18) (fun l_5 h19 => ?_)
    have h20 := h19
    refine jH (S' := [_, _, _, _]) (vs' := [_]) [0, 1, 2, 3] [0] 0 Y Y Y Y (jv (hsE [0, 1, 2, 3] [] 0 Y Y Y Y) (jK Y (jc Y Y ?_)))
    obtain ⟨t45, h21, hm⟩ := bindO hm
    refine jd [] [_] Y Y Y Y Y Y Y call93 (fun w hh => JU t44 ⟨l_5.q, l_5.n, l_5.cap, l_5.sp⟩ w (HV.callee (S0 := []) (vs0 := [_]) hh roN) h20 h21) (fun l_6 h22 => ?_)
    have h23 := h22
    refine jH (S' := [_, _, _, _]) (vs' := [_]) [0, 1, 2, 3] [0] 0 Y Y Y Y (jv (hsE [0, 1, 2, 3] [] 0 Y Y Y Y) (qQ Y Y Y Y Y Y (fun w _ => zQ (vlen RI h23 Y) (runUnderlying32 w) Y) (qQ Y Y Y Y Y Y (fun _ _ => YN Y Y) (jg Y Y Y Y (fun _ _ => K6 Y Y) (jg Y Y Y Y (fun _ _ => jU Y) (jN ?_))))))
    obtain rfl := sj hm
    exact jn () (trivial) (sE Y) (hsE [0, 1, 2, 3] [] 0 Y Y Y Y)
   intro l_3 hj
   replace hm := h13
   refine ja ?_
   refine jr Y (fun h24 => ?_) (fun h24 => ?_)
   ·replace hm := ifT (h24) hm
    refine jp (jl Y Y (jl Y Y (jo (ju (jy (jf ?_))))))
    obtain rfl := sj hm
    refine jm Y (fun w hh => (.tmp Y (.tmp Y .nil))) (fun w hh => ⟨(), rfl, trivial, hh.se [] [] 3 Y Y Y rfl⟩)
   replace hm := ifN h24 hm
   refine jp (je Y Y (qX [_, _] 2 isAgg61 sizeOf61 Y Y Y Y ?_))
   obtain ⟨t55, h25, hm⟩ := bindO hm
   refine jH (S' := [_, _, _, _]) (vs' := []) [1, 0, 2, 3] [] 0 Y Y Y Y ?_
   refine jd [_] [] Y Y Y Y Y Y Y call95 (fun w hh => zE s0.strips s0.carried t11b l1 l_1.1 qa0 na0 ca0 qa1 na1 ca1 l_1.2 qa2 na2 ca2 w (HV.callee (S0 := [_]) (vs0 := []) hh (roC (hh.bsepH 0 Y) (roR hh 0 Y (roR hh 1 Y (roR hh 2 Y roN))))) hna0 hqa0 hla0 hna1 hqa1 hla1 hna2 hqa2 hla2 h25) (fun l_7 h26 => ?_)
   refine jH (S' := [_, _, _, _]) (vs' := []) [0, 1, 2, 3] [] 0 Y Y Y Y (zK Y Y Y (jl Y Y (jo ?_)))
   refine jr Y (fun h27 => ?_) (fun h27 => ?_)
   ·replace hm := ifD h27 hm
    refine jp (jl Y Y (jl Y Y (jo (ju (jy (jf ?_))))))
    obtain rfl := sj hm
    refine jm Y (fun w hh => (.tmp Y (.tmp Y .nil))) (fun w hh => ⟨(), rfl, trivial, hh.se [] [] 3 Y Y Y rfl⟩)
   replace hm := ifE h27 hm
   refine js (jt (ja (jp (je Y Y (qX [_, _] 2 isAgg61 sizeOf61 Y Y Y Y ?_)))))
   obtain ⟨t59, h28, hm⟩ := bindO hm
   refine jd [_] [] Y Y Y Y Y Y Y call95 (fun w hh => zE s0.strips s0.carried t11b l1 l_1.1 qa0 na0 ca0 qa1 na1 ca1 l_1.2 qa2 na2 ca2 w (HV.callee (S0 := [_]) (vs0 := []) hh (roC (hh.bsepH 0 Y) (roR hh 0 Y (roR hh 1 Y (roR hh 2 Y roN))))) hna0 hqa0 hla0 hna1 hqa1 hla1 hna2 hqa2 hla2 h28) (fun l_8 h29 => ?_)
   refine jH (S' := [_, _, _, _]) (vs' := []) [0, 1, 2, 3] [] 0 Y Y Y Y (jl Y Y (jl Y Y (jo (ju ?_))))
   obtain rfl := sj hm
   refine jm Y (fun w hh => (.tmp Y (.tmp Y .nil))) (fun w hh => ⟨(), rfl, trivial, hh.se [] [] 3 Y Y Y rfl⟩)
  replace hm := ifN h8 hm
  refine js (ja (jk (jj (jp (je Y Y (jb Y Y Y (fun _ _ => q5 Y Y) (jl Y Y ?_)))))))
  refine jo (qS Y Y (jp (j7 1 runUnderlying61 Y sizeOf32 Y Y (kx 2 isAgg32 Y Y Y Y (je Y Y ?_)))))
  obtain ⟨t28_1, h30, hm⟩ := bindO hm
  refine jd [] [] Y Y Y Y Y Y Y call91 (fun w hh => Qt l1.of_ s0 qa2 na2 ca2 qa0 na0 ca0 qa1 na1 ca1 w (HV.callee (S0 := []) (vs0 := []) hh (roR hh 2 Y (roR hh 0 Y (roR hh 1 Y roN)))) hna2 hqa2 hla2 hna0 hqa0 hla0 hna1 hqa1 hla1 h30) (fun l_9 h31 => ?_)
  refine jb Y Y Y (fun _ _ => qv Y) (jl Y Y (jo ?_))
  refine jr Y (fun h32 => ?_) (fun h32 => ?_)
  ·replace hm := ifT (h32) hm
   refine jp (jl Y Y (jl Y Y (jo (ju (jy (jf ?_))))))
   obtain rfl := sj hm
   refine jm Y (fun w hh => (.tmp Y (.tmp Y .nil))) (fun w hh => ⟨(), rfl, trivial, hh.se [] [] 3 Y Y Y rfl⟩)
  replace hm := ifN h32 hm
  refine jk ?_
  obtain ⟨o_1, h33, h34⟩ := bindO hm
  refine jM (ι := Unit) (fun l_10 => True) (fun l_10 => [(3, ptr b_1 0), (6, ptr l_1.1 0), (30, .bool o_1)]) (fun l_10 => [kc l_1.1 #[.slice qa0 na0 ca0, .slice qa1 na1 ca1, .map (some l_1.2)] 163, (l_1.2, gobj (kR RPr) kB t11b), kc b_1 #[.bool l1.tenants, .slice qa2 na2 ca2] 61, kc b #[.slice qa0 na0 ca0, .slice qa1 na1 ca1] 28]) (fun l_10 => []) ?_ ?_
  ·replace hm := h33
   refine j4 none (.free 0 (.hoist 1 (.free 2 (.free 3 (.free 4 (.free 5 (.hoist 6 (.one 7 (.free 8 (.free 9 (.free 10 (.free 11 (.hoist 12 (.free 16 (.hoist 17 (.free 18 (.one 13 (.one 14 (.free 15 (.free 19 (.free 20 (.free 21 .done)))))))))))))))))))))) _ Y (by decide +kernel) (fun w k hh => hh.draw k) (fun w hh => hh) ?_
   refine qo 1 runUnderlying61 sizeOf32 Y Y Y Y (qW 2 isAgg32 Y Y Y Y Y (jg Y Y Y Y (fun w _ => jR hna2 (runUnderlying32 w) Y) (jg Y Y Y Y (fun _ _ => JT Y Y) (kU Y Y Y ?_))))
   refine jZ 35 Y (fun h35 => ?_) (fun h35 => ?_)
   ·replace hm := ifD h35 hm
    refine kk Y Y Y Y Y Y Y (KM Y Y Y Y Y Y Y (jK Y (g_k Y Y Y Y (jv (fun w hh => hh) (kk Y Y Y Y Y Y Y (jg Y Y Y Y (fun _ _ => Kg Y Y) (kU Y Y Y ?_)))))))
    refine kk Y Y Y Y Y Y Y (KM Y Y Y Y Y Y Y (kk Y Y Y Y Y Y Y (KM Y Y Y Y Y Y Y (kk Y Y Y Y Y Y Y (jK Y (g_k Y Y Y Y (jv (fun w hh => hh) ?_)))))))
    refine jK Y (g_k Y Y Y Y (jv (fun w hh => hh) (kk Y Y Y Y Y Y Y (kk Y Y Y Y Y Y Y (jg Y Y Y Y (fun _ _ => Kg Y Y) (jg Y Y Y Y (fun _ _ => jU Y) (jN ?_)))))))
    obtain rfl := sj hm
    exact jn () (trivial) (sE Y) (fun w hh => hh)
   replace hm := ifE h35 hm
   refine qQ Y Y Y Y Y Y (fun w _ => ky 1 (runUnderlying61 w) Y (sizeOf32 w) Y) (KE Y Y Y Y Y Y (fun w hh => jQ (isAgg32 w) Y (hh.cell 2 Y Y)) (jK Y (jc Y Y ?_)))
   obtain ⟨t38_1, h36, hm⟩ := bindO hm
   refine jd [] [] Y Y Y Y Y Y Y call92 (fun w hh => zY l1.of_ qa2 na2 ca2 w (HV.callee (S0 := []) (vs0 := []) hh (roR hh 2 Y roN)) hna2 hqa2 hla2 h36) (fun l_11 h37 => ?_)
   refine jv (fun w hh => hh) (qQ Y Y Y Y Y Y (fun _ _ => qv Y) (jg Y Y Y Y (fun _ _ => K6 Y Y) (kU Y Y Y ?_)))
   refine jZ 41 Y (fun h38 => ?_) (fun h38 => ?_)
   ·replace hm := ifT (h38) hm
    refine kk Y Y Y Y Y Y Y (KM Y Y Y Y Y Y Y (kk Y Y Y Y Y Y Y (KM Y Y Y Y Y Y Y (kk Y Y Y Y Y Y Y (jK Y (g_k Y Y Y Y (jv (fun w hh => hh) ?_)))))))
    refine jK Y (g_k Y Y Y Y (jv (fun w hh => hh) (kk Y Y Y Y Y Y Y (kk Y Y Y Y Y Y Y (jg Y Y Y Y (fun _ _ => Kg Y Y) (jg Y Y Y Y (fun _ _ => jU Y) (jN ?_)))))))
    obtain rfl := sj hm
    exact jn () (trivial) (sE Y) (fun w hh => hh)
   replace hm := ifN h38 hm
   refine qQ Y Y Y Y Y Y (fun w _ => ky 1 (runUnderlying61 w) Y (sizeOf32 w) Y) (KE Y Y Y Y Y Y (fun w hh => jQ (isAgg32 w) Y (hh.cell 2 Y Y)) (qQ Y Y Y Y Y Y (fun w _ => ky 1 (runUnderlying61 w) Y (sizeOf32 w) Y) (KE Y Y Y Y Y Y (fun w hh => jQ (isAgg32 w) Y (hh.cell 2 Y Y)) (qQ Y Y Y Y Y Y (fun w _ => jR hna2 (runUnderlying32 w) Y) (jK Y (jc Y Y ?_))))))
   obtain ⟨t44_1, h39, hm⟩ := bindO hm
   refine jd [] [] Y Y Y Y Y Y Y call94 (fun w hh => JH l1.of_ qa2 na2 ca2 w (HV.callee (S0 := []) (vs0 := []) hh (roR hh 2 Y roN)) hna2 hqa2 hla2 h39) (fun l_12 h40 => ?_)
   have h41 := h40
   refine jH (S' := [_, _, _, _]) (vs' := [_]) [0, 1, 2, 3] [0] 0 Y Y Y Y (jv (hsE [0, 1, 2, 3] [] 0 Y Y Y Y) (jK Y (jc Y Y ?_)))
   obtain ⟨t45_1, h42, hm⟩ := bindO hm
   refine jd [] [_] Y Y Y Y Y Y Y call93 (fun w hh => JU t44_1 ⟨l_12.q, l_12.n, l_12.cap, l_12.sp⟩ w (HV.callee (S0 := []) (vs0 := [_]) hh roN) h41 h42) (fun l_13 h43 => ?_)
   have h44 := h43
   refine jH (S' := [_, _, _, _]) (vs' := [_]) [0, 1, 2, 3] [0] 0 Y Y Y Y (jv (hsE [0, 1, 2, 3] [] 0 Y Y Y Y) (qQ Y Y Y Y Y Y (fun w _ => zQ (vlen RI h44 Y) (runUnderlying32 w) Y) (qQ Y Y Y Y Y Y (fun _ _ => YN Y Y) (jg Y Y Y Y (fun _ _ => K6 Y Y) (jg Y Y Y Y (fun _ _ => jU Y) (jN ?_))))))
   obtain rfl := sj hm
   exact jn () (trivial) (sE Y) (hsE [0, 1, 2, 3] [] 0 Y Y Y Y)
  intro l_10 hj
  replace hm := h34
  refine ja ?_
  refine jr Y (fun h45 => ?_) (fun h45 => ?_)
  ·replace hm := ifT (h45) hm
   refine jp (jl Y Y (jl Y Y (jo (ju (jy (jf ?_))))))
   obtain rfl := sj hm
   refine jm Y (fun w hh => (.tmp Y (.tmp Y .nil))) (fun w hh => ⟨(), rfl, trivial, hh.se [] [] 3 Y Y Y rfl⟩)
  replace hm := ifN h45 hm
  refine jp (je Y Y (qX [_, _] 2 isAgg61 sizeOf61 Y Y Y Y ?_))
  obtain ⟨t55_1, h46, hm⟩ := bindO hm
  refine jH (S' := [_, _, _, _]) (vs' := []) [1, 0, 2, 3] [] 0 Y Y Y Y ?_
  refine jd [_] [] Y Y Y Y Y Y Y call95 (fun w hh => zE s0.strips s0.carried t11b l1 l_1.1 qa0 na0 ca0 qa1 na1 ca1 l_1.2 qa2 na2 ca2 w (HV.callee (S0 := [_]) (vs0 := []) hh (roC (hh.bsepH 0 Y) (roR hh 0 Y (roR hh 1 Y (roR hh 2 Y roN))))) hna0 hqa0 hla0 hna1 hqa1 hla1 hna2 hqa2 hla2 h46) (fun l_14 h47 => ?_)
  refine jH (S' := [_, _, _, _]) (vs' := []) [0, 1, 2, 3] [] 0 Y Y Y Y (zK Y Y Y (jl Y Y (jo ?_)))
  refine jr Y (fun h48 => ?_) (fun h48 => ?_)
  ·replace hm := ifD h48 hm
   refine jp (jl Y Y (jl Y Y (jo (ju (jy (jf ?_))))))
   obtain rfl := sj hm
   refine jm Y (fun w hh => (.tmp Y (.tmp Y .nil))) (fun w hh => ⟨(), rfl, trivial, hh.se [] [] 3 Y Y Y rfl⟩)
  replace hm := ifE h48 hm
  refine js (jt (ja (jp (je Y Y (qX [_, _] 2 isAgg61 sizeOf61 Y Y Y Y ?_)))))
  obtain ⟨t59_1, h49, hm⟩ := bindO hm
  refine jd [_] [] Y Y Y Y Y Y Y call95 (fun w hh => zE s0.strips s0.carried t11b l1 l_1.1 qa0 na0 ca0 qa1 na1 ca1 l_1.2 qa2 na2 ca2 w (HV.callee (S0 := [_]) (vs0 := []) hh (roC (hh.bsepH 0 Y) (roR hh 0 Y (roR hh 1 Y (roR hh 2 Y roN))))) hna0 hqa0 hla0 hna1 hqa1 hla1 hna2 hqa2 hla2 h49) (fun l_15 h50 => ?_)
  refine jH (S' := [_, _, _, _]) (vs' := []) [0, 1, 2, 3] [] 0 Y Y Y Y (jl Y Y (jl Y Y (jo (ju ?_))))
  obtain rfl := sj hm
  refine jm Y (fun w hh => (.tmp Y (.tmp Y .nil))) (fun w hh => ⟨(), rfl, trivial, hh.se [] [] 3 Y Y Y rfl⟩)
structure Ku where
  r1 : Int
  r0 : (List (List Int))
def Qg (s0 : Scalps) : Option Ku :=
 (yc s0).bind fun t9 =>
 some (⟨t9.r2, t9.r0⟩ : Ku)
theorem Y6 (s0 : Scalps) (qa0 : Option Addr) (na0 ca0 : Nat) (qa1 : Option Addr) (na1 ca1 : Nat) (w : World) (hw : HV w (keys [] []) [] [] [(aB qa0, aO qa0, RSt.enc s0.strips), (aB qa1, aO qa1, RSp.enc s0.carried)] w) (hna0 : s0.strips.length = na0) (hqa0 : AOK na0 qa0) (hla0 : na0 ≤ ca0) (hna1 : s0.carried.length = na1) (hqa1 : AOK na1 qa1) (hla1 : na1 ≤ ca1) {res : Ku} (hm : Qg s0 = some res) :
    Calls Try.prog 27 #[.agg #[.slice qa0 na0 ca0, .slice qa1 na1 ca1]] w (fun en w' => ∃ l : DL, en = .returned (.tuple #[sL l.v, .int .i64 res.r1]) ∧ (VOK 1 l.v.n l.v.cap (RwH.enc l.rs) l.v.sp l.v.q ∧ DOK RI res.r0 l.rs) ∧ HV w (keys [] []) [] [⟨32, RwH.enc l.rs, l.v.sp, l.v.q, dbl 3 RI res.r0 l.rs⟩] [] w') := by
  unfold Qg at hm
  refine kl func27 Y ntmps27 Y (e := [(0, _)]) Y hw (jp ?_)
  refine jF Y Y (fun b h3 => ?_)
  refine jb Y Y Y (fun _ _ => qf Y) (jl Y Y (jV (qX [_, _] 0 isAgg28 sizeOf28 Y Y Y Y ?_)))
  obtain ⟨t9, h4, hm⟩ := bindO hm
  refine jd [] [] Y Y Y Y Y Y Y call17 (fun w hh => KV s0 qa0 na0 ca0 qa1 na1 ca1 w (HV.callee (S0 := []) (vs0 := []) hh (roR hh 0 Y (roR hh 1 Y roN))) hna0 hqa0 hla0 hna1 hqa1 hla1 h4) (fun l h5 => ?_)
  obtain ⟨h6, h7⟩ := h5
  refine jH (S' := [_]) (vs' := [_]) [0] [0] 0 Y Y Y Y (je Y Y (ka Y Y Y (ka Y Y Y (ka Y Y Y (jl Y Y (jl Y Y (jl Y Y ?_)))))))
  refine jV (je Y Y (je Y Y (jl Y Y (jl Y Y (jo (ju ?_))))))
  obtain rfl := sj hm
  refine jm Y (fun w hh => (.tmp Y (.tmp Y .nil))) (fun w hh => ⟨l, rfl, ⟨h6, h7⟩, hh.se [] [0] 2 Y Y Y rfl⟩)
def Ka (s0 : (List Strip)) : Option (List Strip) :=
 if 0 < (s0.length : Int) then ((appc 56 [] s0).bind fun t7 =>
 some t7) else none
theorem y6 (s0 : (List Strip)) (qa0 : Option Addr) (na0 ca0 : Nat) (w : World) (hw : HV w (keys [] []) [] [] [(aB qa0, aO qa0, RSt.enc s0)] w) (hna0 : s0.length = na0) (hqa0 : AOK na0 qa0) (hla0 : na0 ≤ ca0) {res : (List Strip)} (hm : Ka s0 = some res) :
    Calls Try.prog 56 #[.slice qa0 na0 ca0] w (fun en w' => ∃ l : VL, en = .returned (sL l) ∧ (VOK 7 l.n l.cap (RSt.enc res) l.sp l.q) ∧ HV w (keys [] []) [] [vL 77 l (RSt.enc res)] [] w') := by
  unfold Ka at hm
  refine kl func56 Y ntmps56 Y (e := [(0, _)]) Y hw (jp (jb Y Y Y (fun _ _ => qf Y) (jo (jk (jp (je Y Y ?_))))))
  obtain ⟨h2, hm⟩ := ifO hm
  refine jb Y Y Y (fun w _ => YM hqa0 (len_posN hna0 h2) (runUnderlying25 w) Y Y) (jo (qS Y Y (js (ja (jp ?_)))))
  refine YF RSt (fun w => runUnderlying25 w) (fun w => sizeOf77 w) Y Y (fun L h3 => ?_)
  refine je Y Y ?_
  obtain ⟨t7, h4, hm⟩ := bindO hm
  refine yT RSt 0 h4 underlying25 Yc Y Y Y Y Y h3 Y Y hna0 hqa0 (fun w hh => (hh.seg 0 Y)) Y (fun L_1 h5 h5n => ?_)
  refine jH (S' := []) (vs' := [_]) [] [0] 0 Y Y Y Y (jl Y Y (jo (ju ?_)))
  obtain rfl := sj hm
  refine jm Y (fun w hh => (.tmp Y .nil)) (fun w hh => ⟨L_1, rfl, h5, hh.se [] [0] 1 Y Y Y rfl⟩)
end Go.Proofs.Ws

namespace Go.Proofs.Ws
set_option maxHeartbeats 4000000
set_option maxRecDepth 100000
open Go Go.Fw Go.Gx Go.Sp
open Try
set_option linter.unusedVariables false
structure q9 where
  r0 : Scalps
  r1 : Int
def QG (s0 : Scalps) (tenant1 : Int) (carried2 : Span) : Option q9 :=
 (JY s0).bind fun t13 =>
 if t13 = 0 then
 ((j8 s0 tenant1).bind fun t22 =>
 if (!t22) = true then
 (some (⟨(⟨[], []⟩ : Scalps), 1⟩ : q9)) else
 ((zt carried2).bind fun t27 =>
 if (!t27) = true then
 (some (⟨(⟨[], []⟩ : Scalps), 3⟩ : q9)) else
 (if carried2.hi < carried2.lo then
 (some (⟨(⟨[], []⟩ : Scalps), 4⟩ : q9)) else
 ((ix s0.carried tenant1).bind fun t40 =>
 ((Jo t40.hi [carried2.hi]).bind fun t52 =>
 some (⟨(max t40.lo carried2.lo), t52⟩ : Span)).bind fun o =>
 if o.hi < o.lo then
 (some (⟨(⟨[], []⟩ : Scalps), 7⟩ : q9)) else
 (((Ka s0.strips).bind fun t62 =>
 (makec 16 (⟨0, 0⟩ : Span) (s0.carried.length : Int) (s0.carried.length : Int)).bind fun t66 =>
 some (⟨t62, t66⟩ : Scalps)).bind fun o_1 =>
 if (s0.carried.length : Int) ≤ (o_1.carried.length : Int) then ((some (s0.carried ++ o_1.carried.drop s0.carried.length)).bind fun out11_carried =>
 (ix out11_carried tenant1).bind fun t77 =>
 (some (out11_carried.set (Int.toNat tenant1) o)).bind fun out11_carried_1 =>
 some (⟨(⟨o_1.strips, out11_carried_1⟩ : Scalps), 0⟩ : q9)) else none))))) else
 (some (⟨(⟨[], []⟩ : Scalps), t13⟩ : q9))
theorem Zd (s0 : Scalps) (tenant1 : Int) (carried2 : Span) (qa0 : Option Addr) (na0 ca0 : Nat) (qa1 : Option Addr) (na1 ca1 : Nat) (w : World) (hw : HV w (keys [] []) [] [] [(aB qa0, aO qa0, RSt.enc s0.strips), (aB qa1, aO qa1, RSp.enc s0.carried)] w) (hna0 : s0.strips.length = na0) (hqa0 : AOK na0 qa0) (hla0 : na0 ≤ ca0) (hna1 : s0.carried.length = na1) (hqa1 : AOK na1 qa1) (hla1 : na1 ≤ ca1) {res : q9} (hm : QG s0 tenant1 carried2 = some res) :
    Calls Try.prog 14 #[.agg #[.slice qa0 na0 ca0, .slice qa1 na1 ca1], .int .i64 tenant1, .agg #[.int .i64 carried2.lo, .int .i64 carried2.hi]] w (fun en w' => ∃ l : VL × VL, en = .returned (.tuple #[.agg #[sL l.1, sL l.2], .int .i64 res.r1]) ∧ (VOK 7 l.1.n l.1.cap (RSt.enc res.r0.strips) l.1.sp l.1.q ∧ VOK 2 l.2.n l.2.cap (RSp.enc res.r0.carried) l.2.sp l.2.q) ∧ HV w (keys [] []) [] [vL 77 l.1 (RSt.enc res.r0.strips), vL 37 l.2 (RSp.enc res.r0.carried)] [] w') := by
  unfold QG at hm
  refine kl func14 Y ntmps14 Y (e := [(0, _), (1, _), (2, _)]) Y hw (jp ?_)
  refine jF Y Y (fun b h3 => ?_)
  refine jF Y Y (fun b_1 h4 => ?_)
  refine jq (fun w => zeroValue28 w) Y (fun b_2 h5 => ?_)
  refine jl Y Y (jV (qX [_, _] 2 isAgg28 sizeOf28 Y Y Y Y ?_))
  obtain ⟨t13, h6, hm⟩ := bindO hm
  refine jd [] [] Y Y Y Y Y Y Y call15 (fun w hh => Ys s0 qa0 na0 ca0 qa1 na1 ca1 w (HV.callee (S0 := []) (vs0 := []) hh (roR hh 0 Y (roR hh 1 Y roN))) hna0 hqa0 hla0 hna1 hqa1 hla1 h6) (fun l h7 => ?_)
  refine jl Y Y (jo (jk (jj (jp (je Y Y (jb Y Y Y (fun _ _ => q5 Y Y) (jl Y Y ?_)))))))
  refine jo ?_
  refine jr Y (fun h8 => ?_) (fun h8 => ?_)
  ·replace hm := ifF (of_ndec_true h8) hm
   refine jp (jb Y Y Y (fun _ _ => jA (vs := []) (cells := [_, _]) Y Y) (je Y Y (jB (us := #[_, _]) (cs' := [_, _]) (S' := [_, _, _]) 0 (fun w => sizeOf28 w) Y Y Y Y Y Y Y (jl Y Y (jo (ju (jy ?_)))))))
   refine jf (kG 77 (kG 37 ?_))
   obtain rfl := sj hm
   refine jm Y (fun w hh => (.cell Y (loadVar_agg (vs := [_, _]) (isAgg28 _) (sizeOf28 _) (hh.cells 0 Y Y)) (.tmp Y .nil))) (fun w hh => ⟨(⟨none, 0, 0, []⟩, ⟨none, 0, 0, []⟩), rfl, ⟨VOK.nil, VOK.nil⟩, hh.se [] [1, 0] 2 Y Y Y rfl⟩)
  replace hm := ifT (of_ndec_false h8) hm
  refine jp (qX [_, _] 2 isAgg28 sizeOf28 Y Y Y Y (je Y Y ?_))
  obtain ⟨t22, h9, hm⟩ := bindO hm
  refine jd [] [] Y Y Y Y Y Y Y call53 (fun w hh => yr s0 tenant1 qa0 na0 ca0 qa1 na1 ca1 w (HV.callee (S0 := []) (vs0 := []) hh (roR hh 0 Y (roR hh 1 Y roN))) hna0 hqa0 hla0 hna1 hqa1 hla1 h9) (fun l_1 h10 => ?_)
  refine jb Y Y Y (fun _ _ => qv Y) (jl Y Y (jo ?_))
  refine jr Y (fun h11 => ?_) (fun h11 => ?_)
  ·replace hm := ifT (h11) hm
   refine jp (jb Y Y Y (fun _ _ => jA (vs := []) (cells := [_, _]) Y Y) (jB (us := #[_, _]) (cs' := [_, _]) (S' := [_, _, _]) 0 (fun w => sizeOf28 w) Y Y Y Y Y Y Y (jl Y Y (jo (ju (jy (jf ?_)))))))
   refine kG 77 (kG 37 ?_)
   obtain rfl := sj hm
   refine jm Y (fun w hh => (.cell Y (loadVar_agg (vs := [_, _]) (isAgg28 _) (sizeOf28 _) (hh.cells 0 Y Y)) (.tmp Y .nil))) (fun w hh => ⟨(⟨none, 0, 0, []⟩, ⟨none, 0, 0, []⟩), rfl, ⟨VOK.nil, VOK.nil⟩, hh.se [] [1, 0] 2 Y Y Y rfl⟩)
  replace hm := ifN h11 hm
  refine jp (qX [_, _] 1 isAgg37 sizeOf37 Y Y Y Y ?_)
  obtain ⟨t27, h12, hm⟩ := bindO hm
  refine jd [] [] Y Y Y Y Y Y Y call54 (fun w hh => Qz carried2 w (HV.callee (S0 := []) (vs0 := []) hh roN)  h12) (fun l_2 h13 => ?_)
  refine jb Y Y Y (fun _ _ => qv Y) (jl Y Y (jo ?_))
  refine jr Y (fun h14 => ?_) (fun h14 => ?_)
  ·replace hm := ifT (h14) hm
   refine jp (jb Y Y Y (fun _ _ => jA (vs := []) (cells := [_, _]) Y Y) (jB (us := #[_, _]) (cs' := [_, _]) (S' := [_, _, _]) 0 (fun w => sizeOf28 w) Y Y Y Y Y Y Y (jl Y Y (jo (ju (jy (jf ?_)))))))
   refine kG 77 (kG 37 ?_)
   obtain rfl := sj hm
   refine jm Y (fun w hh => (.cell Y (loadVar_agg (vs := [_, _]) (isAgg28 _) (sizeOf28 _) (hh.cells 0 Y Y)) (.tmp Y .nil))) (fun w hh => ⟨(⟨none, 0, 0, []⟩, ⟨none, 0, 0, []⟩), rfl, ⟨VOK.nil, VOK.nil⟩, hh.se [] [1, 0] 2 Y Y Y rfl⟩)
  replace hm := ifN h14 hm
  refine jp (j7 0 runUnderlying37 Y sizeOf3 Y Y (kx 1 isAgg3 Y Y Y Y (j7 1 runUnderlying37 Y sizeOf3 Y Y (kx 1 isAgg3 Y Y Y Y (jb Y Y Y (fun _ _ => Yv Y Y) (jl Y Y (jo ?_)))))))
  refine jr Y (fun h15 => ?_) (fun h15 => ?_)
  ·replace hm := ifD h15 hm
   refine jp (jb Y Y Y (fun _ _ => jA (vs := []) (cells := [_, _]) Y Y) (jB (us := #[_, _]) (cs' := [_, _]) (S' := [_, _, _]) 0 (fun w => sizeOf28 w) Y Y Y Y Y Y Y (jl Y Y (jo (ju (jy (jf ?_)))))))
   refine kG 77 (kG 37 ?_)
   obtain rfl := sj hm
   refine jm Y (fun w hh => (.cell Y (loadVar_agg (vs := [_, _]) (isAgg28 _) (sizeOf28 _) (hh.cells 0 Y Y)) (.tmp Y .nil))) (fun w hh => ⟨(⟨none, 0, 0, []⟩, ⟨none, 0, 0, []⟩), rfl, ⟨VOK.nil, VOK.nil⟩, hh.se [] [1, 0] 2 Y Y Y rfl⟩)
  replace hm := ifE h15 hm
  refine js (jt (ja (jp (j7 1 runUnderlying28 Y sizeOf26 Y Y (kx 2 isAgg26 Y Y Y Y (je Y Y ?_))))))
  obtain ⟨t40, h16, hm⟩ := bindO hm
  refine jb Y Y Y (fun w _ => q7 h16 (runUnderlying26 w) (sizeOf37 w) Y Y hna1 hqa1) ?_
  refine jb Y Y Y (fun w hh => kT RSp 0 [.int .i64 t40.lo, .int .i64 t40.hi] h16 (isAgg37 w) (sizeOf37 w) Y (hh.seg 1 Y) Y (Nat.add_zero _).symm) ?_
  refine jq (fun w => zeroValue37 w) Y (fun b_3 h17 => ?_)
  refine jB (us := #[_, _]) (cs' := [_, _]) (S' := [_, _, _, _]) 0 (fun w => sizeOf37 w) Y Y Y Y Y Y Y (jo (jk ?_))
  obtain ⟨o, h18, h19⟩ := bindO hm
  refine jM (ι := Nat) (fun l_3 => True) (fun l_3 => [(1, .int .i64 tenant1), (3, ptr b 0), (6, ptr b_2 0), (10, ptr l_3 0)]) (fun l_3 => [kc b_3 #[.int .i64 t40.lo, .int .i64 t40.hi] 37, kc b_2 #[slv none 0 0, slv none 0 0] 28, kc b_1 #[.int .i64 carried2.lo, .int .i64 carried2.hi] 37, kc b #[.slice qa0 na0 ca0, .slice qa1 na1 ca1] 28, kc l_3 #[.int .i64 o.lo, .int .i64 o.hi] 37]) (fun l_3 => []) ?_ ?_
  ·replace hm := h18
   obtain ⟨t52, h20, hm⟩ := bindO hm
   refine j4 none (.free 0 (.hoist 1 (.free 2 (.hoist 3 (.free 4 (.free 5 (.hoist 6 (.free 7 (.hoist 8 (.br (.alt 9 (.br (.alt 10 (.free 11 (.one 12 (.one 13 .done))) (.alt 12 (.one 10 (.free 11 (.one 13 .done))) .nil))) (.alt 12 (.one 9 (.one 10 (.free 11 (.one 13 .done)))) .nil)))))))))))) _ Y (by decide +kernel) (fun w k hh => hh.draw k) (fun w hh => hh) ?_
   refine qo 0 runUnderlying37 sizeOf3 Y Y Y Y (qW 0 isAgg3 Y Y Y Y Y (qo 0 runUnderlying37 sizeOf3 Y Y Y Y (qW 2 isAgg3 Y Y Y Y Y (jg Y Y Y Y (fun _ _ => Y7 Y Y) (qo 1 runUnderlying37 sizeOf3 Y Y Y Y (qW 0 isAgg3 Y Y Y Y Y (qo 1 runUnderlying37 sizeOf3 Y Y Y Y ?_)))))))
   refine qW 2 isAgg3 Y Y Y Y Y (ZF ?_)
   refine J4 Y ?_ ?_
   ·refine kS RI [carried2.hi] (ps := [(0, _)]) (cells := [_]) (fun w => runUnderlying32 w) (fun w => sizeOf3 w) (fun w => zeroValue3 w) Y Y Y Y Y Y Y Y (fun L h21 => ?_)
    refine jv (hsE [0, 1, 2, 3] [] 0 Y Y Y Y) (ZF ?_)
    refine J4 Y ?_ ?_
    ·refine jd [] [] Y Y Y Y Y Y Y call55 (fun w hh => Kn t40.hi [carried2.hi] (qA L.q) L.n L.cap w (HV.callee (S0 := []) (vs0 := []) hh (roC (hh.vsepA 0 Y h21) roN)) (vlen RI h21 Y) (AOK.q (vne h21)) (h21).hle h20) (fun l_4 h22 => ?_)
     refine jv (hsE [0, 1, 2, 3] [] 0 Y Y Y Y) (jg Y Y Y Y (fun _ _ => jA (vs := [(0, _), (1, _)]) (cells := [_, _]) Y Y) (jK Y ?_))
     refine jq (fun w => zeroValue37 w) Y (fun b_4 h23 => ?_)
     refine jv (hsE [1, 2, 3, 4] [] 0 Y Y Y Y) (jK Y (jB (us := #[_, _]) (cs' := [_, _]) (S' := [_, _, _, _, _]) 0 (fun w => sizeOf37 w) Y Y Y Y Y Y Y (jv (hsE [1, 2, 3, 4] [] 0 Y Y Y Y) (jN ?_))))
     obtain rfl := sj hm
     exact jn b_4 (trivial) (sE Y) (hsE [1, 2, 3, 4, 0] [] 0 Y Y Y Y)
    refine J4 Y ?_ ?_
    refine jq (fun w => zeroValue37 w) Y (fun b_5 h24 => ?_)
    refine jv (hsE [1, 2, 3, 4] [] 0 Y Y Y Y) (jK Y ?_)
    refine jd [] [] Y Y Y Y Y Y Y call55 (fun w hh => Kn t40.hi [carried2.hi] (qA L.q) L.n L.cap w (HV.callee (S0 := []) (vs0 := []) hh (roC (hh.vsepA 0 Y h21) roN)) (vlen RI h21 Y) (AOK.q (vne h21)) (h21).hle h20) (fun l_5 h25 => ?_)
    refine jv (hsE [1, 2, 3, 4] [] 0 Y Y Y Y) (jg Y Y Y Y (fun _ _ => jA (vs := [(0, _), (1, _)]) (cells := [_, _]) Y Y) (jK Y (jB (us := #[_, _]) (cs' := [_, _]) (S' := [_, _, _, _, _]) 0 (fun w => sizeOf37 w) Y Y Y Y Y Y Y (jv (hsE [1, 2, 3, 4] [] 0 Y Y Y Y) (jN ?_)))))
    obtain rfl := sj hm
    exact jn b_5 (trivial) (sE Y) (hsE [1, 2, 3, 4, 0] [] 0 Y Y Y Y)
    exact Q2
   refine J4 Y ?_ ?_
   refine jq (fun w => zeroValue37 w) Y (fun b_6 h26 => ?_)
   refine jv (hsE [1, 2, 3, 4] [] 0 Y Y Y Y) (jK Y ?_)
   refine kS RI [carried2.hi] (ps := [(0, _)]) (cells := [_]) (fun w => runUnderlying32 w) (fun w => sizeOf3 w) (fun w => zeroValue3 w) Y Y Y Y Y Y Y Y (fun L_1 h27 => ?_)
   refine jv (hsE [1, 2, 3, 4] [] 0 Y Y Y Y) (jK Y ?_)
   refine jd [] [] Y Y Y Y Y Y Y call55 (fun w hh => Kn t40.hi [carried2.hi] (qA L_1.q) L_1.n L_1.cap w (HV.callee (S0 := []) (vs0 := []) hh (roC (hh.vsepA 0 Y h27) roN)) (vlen RI h27 Y) (AOK.q (vne h27)) (h27).hle h20) (fun l_6 h28 => ?_)
   refine jv (hsE [1, 2, 3, 4] [] 0 Y Y Y Y) (jg Y Y Y Y (fun _ _ => jA (vs := [(0, _), (1, _)]) (cells := [_, _]) Y Y) (jK Y (jB (us := #[_, _]) (cs' := [_, _]) (S' := [_, _, _, _, _]) 0 (fun w => sizeOf37 w) Y Y Y Y Y Y Y (jv (hsE [1, 2, 3, 4] [] 0 Y Y Y Y) (jN ?_)))))
   obtain rfl := sj hm
   exact jn b_6 (trivial) (sE Y) (hsE [1, 2, 3, 4, 0] [] 0 Y Y Y Y)
   exact Q2
  intro l_3 hj
  replace hm := h19
  refine ja (jk (jp (j7 0 runUnderlying37 Y sizeOf3 Y Y (kx 4 isAgg3 Y Y Y Y (j7 1 runUnderlying37 Y sizeOf3 Y Y (kx 4 isAgg3 Y Y Y Y (jb Y Y Y (fun _ _ => Yv Y Y) ?_)))))))
  refine jo ?_
  refine jr Y (fun h29 => ?_) (fun h29 => ?_)
  ·replace hm := ifD h29 hm
   refine jp (jb Y Y Y (fun _ _ => jA (vs := []) (cells := [_, _]) Y Y) (jB (us := #[_, _]) (cs' := [_, _]) (S' := [_, _, _, _, _]) 1 (fun w => sizeOf28 w) Y Y Y Y Y Y Y (jl Y Y (jo (ju (jf (kG 77 ?_)))))))
   refine kG 37 ?_
   obtain rfl := sj hm
   refine jm Y (fun w hh => (.cell Y (loadVar_agg (vs := [_, _]) (isAgg28 _) (sizeOf28 _) (hh.cells 1 Y Y)) (.tmp Y .nil))) (fun w hh => ⟨(⟨none, 0, 0, []⟩, ⟨none, 0, 0, []⟩), rfl, ⟨VOK.nil, VOK.nil⟩, hh.se [] [1, 0] 2 Y Y Y rfl⟩)
  replace hm := ifE h29 hm
  refine js (ja (jk ?_))
  obtain ⟨o_1, h30, h31⟩ := bindO hm
  refine jM (ι := Nat × VL × VL) (fun l_7 => VOK 7 l_7.2.1.n l_7.2.1.cap (RSt.enc o_1.strips) l_7.2.1.sp l_7.2.1.q ∧ VOK 2 l_7.2.2.n l_7.2.2.cap (RSp.enc o_1.carried) l_7.2.2.sp l_7.2.2.q) (fun l_7 => [(1, .int .i64 tenant1), (3, ptr b 0), (6, ptr b_2 0), (10, ptr l_3 0), (11, ptr l_7.1 0)]) (fun l_7 => [kc b_3 #[.int .i64 t40.lo, .int .i64 t40.hi] 37, kc b_2 #[slv none 0 0, slv none 0 0] 28, kc b_1 #[.int .i64 carried2.lo, .int .i64 carried2.hi] 37, kc b #[.slice qa0 na0 ca0, .slice qa1 na1 ca1] 28, kc l_3 #[.int .i64 o.lo, .int .i64 o.hi] 37, kc l_7.1 #[sL l_7.2.1, sL l_7.2.2] 28]) (fun l_7 => [vL 77 l_7.2.1 (RSt.enc o_1.strips), vL 37 l_7.2.2 (RSp.enc o_1.carried)]) ?_ ?_
  ·replace hm := h30
   obtain ⟨t62, h34, hm⟩ := bindO hm
   obtain ⟨t66, h35, hm⟩ := bindO hm
   refine j4 none (.free 0 (.hoist 1 (.free 3 (.hoist 4 (.free 5 (.br (.alt 2 (.br (.alt 6 (.free 7 (.one 8 (.one 9 .done))) (.alt 8 (.one 6 (.free 7 (.one 9 .done))) .nil))) (.alt 6 (.br (.alt 2 (.free 7 (.one 8 (.one 9 .done))) (.alt 8 (.one 2 (.free 7 (.one 9 .done))) .nil))) (.alt 8 (.br (.alt 2 (.one 6 (.free 7 (.one 9 .done))) (.alt 6 (.one 2 (.free 7 (.one 9 .done))) .nil))) .nil))))))))) _ Y (by decide +kernel) (fun w k hh => hh.draw k) (fun w hh => hh) ?_
   refine qo 0 runUnderlying28 sizeOf25 Y Y Y Y (qW 3 isAgg25 Y Y Y Y Y (qo 1 runUnderlying28 sizeOf26 Y Y Y Y (qW 3 isAgg26 Y Y Y Y Y (jg Y Y Y Y (fun w _ => jR hna1 (runUnderlying26 w) Y) (ZF ?_)))))
   refine J4 Y ?_ ?_
   ·refine jd [] [] Y Y Y Y Y Y Y call56 (fun w hh => y6 s0.strips qa0 na0 ca0 w (HV.callee (S0 := []) (vs0 := []) hh (roR hh 0 Y roN)) hna0 hqa0 hla0 h34) (fun l_8 h36 => ?_)
    have h37 := h36
    refine jH (S' := [_, _, _, _, _]) (vs' := [_]) [0, 1, 2, 3, 4] [0] 0 Y Y Y Y (jv (hsE [0, 1, 2, 3, 4] [] 0 Y Y Y Y) (ZF ?_))
    refine J4 Y ?_ ?_
    ·refine JE RSp (⟨0, 0⟩ : Span) h35 underlying26 JD Y Y Y Y Y (fun L_2 h38 => ?_)
     refine jv (hsE [0, 1, 2, 3, 4] [] 0 Y Y Y Y) (jg Y Y Y Y (fun _ _ => jA (vs := [(0, _), (1, _)]) (cells := [_, _]) Y Y) (jK Y ?_))
     refine jq (fun w => zeroValue28 w) Y (fun b_7 h39 => ?_)
     refine jv (hsE [1, 2, 3, 4, 5] [] 0 Y Y Y Y) (jK Y (jB (us := #[_, _]) (cs' := [_, _]) (S' := [_, _, _, _, _, _]) 0 (fun w => sizeOf28 w) Y Y Y Y Y Y Y (jv (hsE [1, 2, 3, 4, 5] [] 0 Y Y Y Y) (jN ?_))))
     obtain rfl := sj hm
     exact jn (b_7, l_8, L_2) (⟨h37, h38⟩) (sE Y) (hsE [1, 2, 3, 4, 5, 0] [1, 0] 0 Y Y Y Y)
    refine J4 Y ?_ ?_
    refine jq (fun w => zeroValue28 w) Y (fun b_8 h40 => ?_)
    refine jv (hsE [1, 2, 3, 4, 5] [] 0 Y Y Y Y) (jK Y ?_)
    refine JE RSp (⟨0, 0⟩ : Span) h35 underlying26 JD Y Y Y Y Y (fun L_3 h41 => ?_)
    refine jv (hsE [1, 2, 3, 4, 5] [] 0 Y Y Y Y) (jg Y Y Y Y (fun _ _ => jA (vs := [(0, _), (1, _)]) (cells := [_, _]) Y Y) (jK Y (jB (us := #[_, _]) (cs' := [_, _]) (S' := [_, _, _, _, _, _]) 0 (fun w => sizeOf28 w) Y Y Y Y Y Y Y (jv (hsE [1, 2, 3, 4, 5] [] 0 Y Y Y Y) (jN ?_)))))
    obtain rfl := sj hm
    exact jn (b_8, l_8, L_3) (⟨h37, h41⟩) (sE Y) (hsE [1, 2, 3, 4, 5, 0] [1, 0] 0 Y Y Y Y)
    exact Q2
   refine J4 Y ?_ ?_
   refine JE RSp (⟨0, 0⟩ : Span) h35 underlying26 JD Y Y Y Y Y (fun L_4 h42 => ?_)
   refine jv (hsE [0, 1, 2, 3, 4] [] 0 Y Y Y Y) (ZF ?_)
   refine J4 Y ?_ ?_
   ·refine jd [] [] Y Y Y Y Y Y Y call56 (fun w hh => y6 s0.strips qa0 na0 ca0 w (HV.callee (S0 := []) (vs0 := []) hh (roR hh 0 Y roN)) hna0 hqa0 hla0 h34) (fun l_9 h43 => ?_)
    have h44 := h43
    refine jH (S' := [_, _, _, _, _]) (vs' := [_, _]) [0, 1, 2, 3, 4] [0, 1] 0 Y Y Y Y (jv (hsE [0, 1, 2, 3, 4] [] 0 Y Y Y Y) (jg Y Y Y Y (fun _ _ => jA (vs := [(0, _), (1, _)]) (cells := [_, _]) Y Y) (jK Y ?_)))
    refine jq (fun w => zeroValue28 w) Y (fun b_9 h45 => ?_)
    refine jv (hsE [1, 2, 3, 4, 5] [] 0 Y Y Y Y) (jK Y (jB (us := #[_, _]) (cs' := [_, _]) (S' := [_, _, _, _, _, _]) 0 (fun w => sizeOf28 w) Y Y Y Y Y Y Y (jv (hsE [1, 2, 3, 4, 5] [] 0 Y Y Y Y) (jN ?_))))
    obtain rfl := sj hm
    exact jn (b_9, l_9, L_4) (⟨h44, h42⟩) (sE Y) (hsE [1, 2, 3, 4, 5, 0] [0, 1] 0 Y Y Y Y)
   refine J4 Y ?_ ?_
   refine jq (fun w => zeroValue28 w) Y (fun b_10 h46 => ?_)
   refine jv (hsE [1, 2, 3, 4, 5] [] 0 Y Y Y Y) (jK Y ?_)
   refine jd [] [] Y Y Y Y Y Y Y call56 (fun w hh => y6 s0.strips qa0 na0 ca0 w (HV.callee (S0 := []) (vs0 := []) hh (roR hh 0 Y roN)) hna0 hqa0 hla0 h34) (fun l_10 h47 => ?_)
   have h48 := h47
   refine jH (S' := [_, _, _, _, _, _]) (vs' := [_, _]) [0, 1, 2, 3, 4, 5] [0, 1] 0 Y Y Y Y (jv (hsE [1, 2, 3, 4, 5] [] 0 Y Y Y Y) (jg Y Y Y Y (fun _ _ => jA (vs := [(0, _), (1, _)]) (cells := [_, _]) Y Y) (jK Y (jB (us := #[_, _]) (cs' := [_, _]) (S' := [_, _, _, _, _, _]) 0 (fun w => sizeOf28 w) Y Y Y Y Y Y Y (jv (hsE [1, 2, 3, 4, 5] [] 0 Y Y Y Y) (jN ?_))))))
   obtain rfl := sj hm
   exact jn (b_10, l_10, L_4) (⟨h48, h42⟩) (sE Y) (hsE [1, 2, 3, 4, 5, 0] [0, 1] 0 Y Y Y Y)
   exact Q2
   refine J4 Y ?_ ?_
   ·refine jq (fun w => zeroValue28 w) Y (fun b_11 h49 => ?_)
    refine jv (hsE [1, 2, 3, 4, 5] [] 0 Y Y Y Y) (ZF ?_)
    refine J4 Y ?_ ?_
    ·refine jd [] [] Y Y Y Y Y Y Y call56 (fun w hh => y6 s0.strips qa0 na0 ca0 w (HV.callee (S0 := []) (vs0 := []) hh (roR hh 0 Y roN)) hna0 hqa0 hla0 h34) (fun l_11 h50 => ?_)
     have h51 := h50
     refine jH (S' := [_, _, _, _, _, _]) (vs' := [_]) [0, 1, 2, 3, 4, 5] [0] 0 Y Y Y Y (jv (hsE [1, 2, 3, 4, 5] [] 0 Y Y Y Y) (jK Y ?_))
     refine JE RSp (⟨0, 0⟩ : Span) h35 underlying26 JD Y Y Y Y Y (fun L_5 h52 => ?_)
     refine jv (hsE [1, 2, 3, 4, 5] [] 0 Y Y Y Y) (jg Y Y Y Y (fun _ _ => jA (vs := [(0, _), (1, _)]) (cells := [_, _]) Y Y) (jK Y (jB (us := #[_, _]) (cs' := [_, _]) (S' := [_, _, _, _, _, _]) 0 (fun w => sizeOf28 w) Y Y Y Y Y Y Y (jv (hsE [1, 2, 3, 4, 5] [] 0 Y Y Y Y) (jN ?_)))))
     obtain rfl := sj hm
     exact jn (b_11, l_11, L_5) (⟨h51, h52⟩) (sE Y) (hsE [1, 2, 3, 4, 5, 0] [1, 0] 0 Y Y Y Y)
    refine J4 Y ?_ ?_
    refine JE RSp (⟨0, 0⟩ : Span) h35 underlying26 JD Y Y Y Y Y (fun L_6 h53 => ?_)
    refine jv (hsE [1, 2, 3, 4, 5] [] 0 Y Y Y Y) (jK Y ?_)
    refine jd [] [] Y Y Y Y Y Y Y call56 (fun w hh => y6 s0.strips qa0 na0 ca0 w (HV.callee (S0 := []) (vs0 := []) hh (roR hh 0 Y roN)) hna0 hqa0 hla0 h34) (fun l_12 h54 => ?_)
    have h55 := h54
    refine jH (S' := [_, _, _, _, _, _]) (vs' := [_, _]) [0, 1, 2, 3, 4, 5] [0, 1] 0 Y Y Y Y (jv (hsE [1, 2, 3, 4, 5] [] 0 Y Y Y Y) (jg Y Y Y Y (fun _ _ => jA (vs := [(0, _), (1, _)]) (cells := [_, _]) Y Y) (jK Y (jB (us := #[_, _]) (cs' := [_, _]) (S' := [_, _, _, _, _, _]) 0 (fun w => sizeOf28 w) Y Y Y Y Y Y Y (jv (hsE [1, 2, 3, 4, 5] [] 0 Y Y Y Y) (jN ?_))))))
    obtain rfl := sj hm
    exact jn (b_11, l_12, L_6) (⟨h55, h53⟩) (sE Y) (hsE [1, 2, 3, 4, 5, 0] [0, 1] 0 Y Y Y Y)
    exact Q2
   exact Q2
  intro l_7 hj
  obtain ⟨h32, h33⟩ := hj
  replace hm := h31
  refine ja (jp (j7 1 runUnderlying28 Y sizeOf26 Y Y (kx 5 isAgg26 Y Y Y Y (j7 1 runUnderlying28 Y sizeOf26 Y Y (kx 3 isAgg26 Y Y Y Y ?_)))))
  obtain ⟨h56, hm⟩ := ifO hm
  obtain ⟨out11_carried, hout11_carried, hm⟩ := bindO hm
  refine ZT RSp 1 underlying26 jaf Y Y Y Y Y h33 hna1 hqa1 (fun w hh => (hh.seg 1 Y)) (Int.ofNat_le.1 h56) (Option.some.inj hout11_carried) Y (fun h57 => ?_)
  refine jH (S' := [_, _, _, _, _, _]) (vs' := [_, _]) [0, 1, 2, 3, 4, 5] [0, 1] 0 Y Y Y Y (jV (j7 1 runUnderlying28 Y sizeOf26 Y Y (kx 5 isAgg26 Y Y Y Y (je Y Y (qX [_, _] 4 isAgg37 sizeOf37 Y Y Y Y ?_)))))
  obtain ⟨t77, h58, hm⟩ := bindO hm
  refine jb Y Y Y (fun w _ => yJ h58 (runUnderlying26 w) (sizeOf37 w) Y Y (vlen RSp h57 Y) (vne h57)) ?_
  obtain ⟨out11_carried_1, hout11_carried_1, hm⟩ := bindO hm
  refine Yz (us := #[_, _]) RSp 1 o (fun w => sizeOf37 w) Y Y Y h57 Y Y Y Y h58 Y (Option.some.inj hout11_carried_1) (fun h59 => ?_)
  refine jH (S' := [_, _, _, _, _, _]) (vs' := [_, _]) [0, 1, 2, 3, 4, 5] [0, 1] 0 Y Y Y Y (jV (qX [_, _] 5 isAgg28 sizeOf28 Y Y Y Y (jB (us := #[_, _]) (cs' := [_, _]) (S' := [_, _, _, _, _, _]) 1 (fun w => sizeOf28 w) Y Y Y Y Y Y Y (jl Y Y (jo (ju ?_))))))
  obtain rfl := sj hm
  refine jm Y (fun w hh => (.cell Y (loadVar_agg (vs := [_, _]) (isAgg28 _) (sizeOf28 _) (hh.cells 1 Y Y)) (.tmp Y .nil))) (fun w hh => ⟨(l_7.2.1, l_7.2.2), rfl, ⟨h32, h59⟩, hh.se [] [0, 1] 2 Y Y Y rfl⟩)
def m_l_awake  : Option Bool :=
 (yD 22 25).bind fun t15 =>
 (yc t15).bind fun t16 =>
 (yD 22 25).bind fun t21 =>
 (zA t21).bind fun t22 =>
 (yD 22 25).bind fun t27 =>
 (Kq t27).bind fun t28 =>
 (yD 22 25).bind fun t32 =>
 (Qd t32 (⟨[-1, 0, -1], [1, 0]⟩ : Marks)).bind fun t36 =>
 (if t16.r2 = 0 then
 (if t22.r2 = 0 then
 (if t28.r1 = 0 then
 (if t36.r1 = 0 then
 (if t16.r1 = 2 then
 (if t22.r1 = 9 then
 (if t36.r0 = 2 then
 ((yO t28.r0 [2, 0]).bind fun t68 =>
 some (!t68)) else
 (some true)) else
 (some true)) else
 (some true)) else
 (some true)) else
 (some true)) else
 (some true)) else
 (some true)).bind fun o =>
 if o = true then
 (some false) else
 ((yD 10 15).bind fun t72 =>
 (KU t72 (⟨false, [0, 1, 2]⟩ : Lack)).bind fun t75 =>
 (yD 10 15).bind fun t79 =>
 (KU t79 (⟨false, [0, 2]⟩ : Lack)).bind fun t82 =>
 (yD 10 15).bind fun t86 =>
 (Qg t86).bind fun t87 =>
 (yD 22 25).bind fun t91 =>
 (QG t91 0 (⟨24, 30⟩ : Span)).bind fun t93 =>
 (if t75.r1 = 0 then
 (if t82.r1 = 0 then
 (if t87.r1 = 7 then
 (if t93.r1 = 0 then
 (if t75.r0 = 6 then
 (if t82.r0 = 2 then
 (if (t93.r0.carried.length : Int) = 2 then
 ((ix t93.r0.carried 0).bind fun t127 =>
 some (decide (t127 = (⟨24, 25⟩ : Span)))) else
 (some false)) else
 (some false)) else
 (some false)) else
 (some false)) else
 (some false)) else
 (some false)) else
 (some false)).bind fun o_1 =>
 some o_1)
theorem Zp   (w : World) (hw : HV w (keys [] []) [] [] [] w)  {res : Bool} (hm : m_l_awake  = some res) :
    Calls Try.prog 20 #[] w (fun en w' => ∃ l : Unit, en = .returned (.bool res) ∧ (True) ∧ HV w (keys [] []) [] [] [] w') := by
  unfold m_l_awake at hm
  refine kl func20 Y ntmps20 Y (e := []) Y hw (jp (jl Y Y (jV ?_)))
  obtain ⟨t15, h1, hm⟩ := bindO hm
  refine jd [] [] Y Y Y Y Y Y Y call75 (fun w hh => zN 22 25 w (HV.callee (S0 := []) (vs0 := []) hh roN)  h1) (fun l h2 => ?_)
  obtain ⟨h3, h4⟩ := h2
  refine jH (S' := []) (vs' := [_, _]) [] [0, 1] 0 Y Y Y Y ?_
  obtain ⟨t16, h5, hm⟩ := bindO hm
  refine jd [] [] Y Y Y Y Y Y Y call17 (fun w hh => KV t15 (qA l.1.q) l.1.n l.1.cap (qA l.2.q) l.2.n l.2.cap w (HV.callee (S0 := []) (vs0 := []) hh (roC (hh.vsepA 0 Y h3) (roC (hh.vsepA 1 Y h4) roN))) (vlen RSt h3 Y) (AOK.q (vne h3)) (h3).hle (vlen RSp h4 Y) (AOK.q (vne h4)) (h4).hle h5) (fun l_1 h6 => ?_)
  obtain ⟨h7, h8⟩ := h6
  refine jH (S' := []) (vs' := [_, _, _]) [] [0, 1, 2] 0 Y Y Y Y (je Y Y (ka Y Y Y (ka Y Y Y (ka Y Y Y (jl Y Y (jl Y Y (jl Y Y ?_)))))))
  refine jV ?_
  obtain ⟨t21, h9, hm⟩ := bindO hm
  refine jd [] [] Y Y Y Y Y Y Y call75 (fun w hh => zN 22 25 w (HV.callee (S0 := []) (vs0 := []) hh roN)  h9) (fun l_2 h10 => ?_)
  obtain ⟨h11, h12⟩ := h10
  refine jH (S' := []) (vs' := [_, _, _, _, _]) [] [0, 1, 2, 3, 4] 0 Y Y Y Y ?_
  obtain ⟨t22, h13, hm⟩ := bindO hm
  refine jd [] [] Y Y Y Y Y Y Y call18 (fun w hh => Yb t21 (qA l_2.1.q) l_2.1.n l_2.1.cap (qA l_2.2.q) l_2.2.n l_2.2.cap w (HV.callee (S0 := []) (vs0 := []) hh (roC (hh.vsepA 0 Y h11) (roC (hh.vsepA 1 Y h12) roN))) (vlen RSt h11 Y) (AOK.q (vne h11)) (h11).hle (vlen RSp h12 Y) (AOK.q (vne h12)) (h12).hle h13) (fun l_3 h14 => ?_)
  obtain ⟨h15, h16⟩ := h14
  refine jH (S' := []) (vs' := [_, _, _, _, _, _]) [] [0, 1, 2, 3, 4, 5] 0 Y Y Y Y (je Y Y (ka Y Y Y (ka Y Y Y (ka Y Y Y (jl Y Y (jl Y Y (jl Y Y ?_)))))))
  refine jV ?_
  obtain ⟨t27, h17, hm⟩ := bindO hm
  refine jd [] [] Y Y Y Y Y Y Y call75 (fun w hh => zN 22 25 w (HV.callee (S0 := []) (vs0 := []) hh roN)  h17) (fun l_4 h18 => ?_)
  obtain ⟨h19, h20⟩ := h18
  refine jH (S' := []) (vs' := [_, _, _, _, _, _, _, _]) [] [0, 1, 2, 3, 4, 5, 6, 7] 0 Y Y Y Y ?_
  obtain ⟨t28, h21, hm⟩ := bindO hm
  refine jd [] [] Y Y Y Y Y Y Y call44 (fun w hh => Yf t27 (qA l_4.1.q) l_4.1.n l_4.1.cap (qA l_4.2.q) l_4.2.n l_4.2.cap w (HV.callee (S0 := []) (vs0 := []) hh (roC (hh.vsepA 0 Y h19) (roC (hh.vsepA 1 Y h20) roN))) (vlen RSt h19 Y) (AOK.q (vne h19)) (h19).hle (vlen RSp h20 Y) (AOK.q (vne h20)) (h20).hle h21) (fun l_5 h22 => ?_)
  have h23 := h22
  refine jH (S' := []) (vs' := [_, _, _, _, _, _, _, _, _]) [] [0, 1, 2, 3, 4, 5, 6, 7, 8] 0 Y Y Y Y (je Y Y (ka Y Y Y (ka Y Y Y (jl Y Y (jl Y Y (jV ?_))))))
  obtain ⟨t32, h24, hm⟩ := bindO hm
  refine jd [] [] Y Y Y Y Y Y Y call75 (fun w hh => zN 22 25 w (HV.callee (S0 := []) (vs0 := []) hh roN)  h24) (fun l_6 h25 => ?_)
  obtain ⟨h26, h27⟩ := h25
  refine jH (S' := []) (vs' := [_, _, _, _, _, _, _, _, _, _, _]) [] [0, 1, 2, 3, 4, 5, 6, 7, 8, 9, 10] 0 Y Y Y Y ?_
  refine kS RI [-1, 0, -1] (ps := [(0, _), (1, _), (2, _)]) (cells := [_, _, _]) (fun w => runUnderlying32 w) (fun w => sizeOf3 w) (fun w => zeroValue3 w) Y Y Y Y Y Y Y Y (fun L h28 => ?_)
  refine kS RI [1, 0] (ps := [(0, _), (1, _)]) (cells := [_, _]) (fun w => runUnderlying32 w) (fun w => sizeOf3 w) (fun w => zeroValue3 w) Y Y Y Y Y Y Y Y (fun L_1 h29 => ?_)
  refine jb Y Y Y (fun _ _ => jA (vs := [(0, _), (1, _)]) (cells := [_, _]) Y Y) ?_
  obtain ⟨t36, h30, hm⟩ := bindO hm
  refine jd [] [] Y Y Y Y Y Y Y call40 (fun w hh => Y2 t32 (⟨[-1, 0, -1], [1, 0]⟩ : Marks) (qA l_6.1.q) l_6.1.n l_6.1.cap (qA l_6.2.q) l_6.2.n l_6.2.cap (qA L.q) L.n L.cap (qA L_1.q) L_1.n L_1.cap w (HV.callee (S0 := []) (vs0 := []) hh (roC (hh.vsepA 2 Y h26) (roC (hh.vsepA 3 Y h27) (roC (hh.vsepA 1 Y h28) (roC (hh.vsepA 0 Y h29) roN))))) (vlen RSt h26 Y) (AOK.q (vne h26)) (h26).hle (vlen RSp h27 Y) (AOK.q (vne h27)) (h27).hle (vlen RI h28 Y) (AOK.q (vne h28)) (h28).hle (vlen RI h29 Y) (AOK.q (vne h29)) (h29).hle h30) (fun l_7 h31 => ?_)
  refine je Y Y (ka Y Y Y (ka Y Y Y (jl Y Y (jl Y Y (jo (jk (jk ?_)))))))
  obtain ⟨o, h32, h33⟩ := bindO hm
  refine jM (ι := Unit) (fun l_8 => True) (fun l_8 => [(70, .bool o)]) (fun l_8 => []) (fun l_8 => []) ?_ ?_
  ·replace hm := h32
   refine jh (je Y Y (jb Y Y Y (fun _ _ => q5 Y Y) (je Y Y ?_)))
   refine jZ 41 Y (fun h34 => ?_) (fun h34 => ?_)
   ·replace hm := ifF (of_ndec_true h34) hm
    refine g_k Y Y Y Y (g_k Y Y Y Y (qO Y Y Y (je Y Y (g_k Y Y Y Y (g_k Y Y Y Y (qO Y Y Y (je Y Y ?_)))))))
    refine g_k Y Y Y Y (g_k Y Y Y Y (qO Y Y Y (je Y Y (g_k Y Y Y Y (g_k Y Y Y Y (qO Y Y Y (je Y Y ?_)))))))
    refine g_k Y Y Y Y (g_k Y Y Y Y (qO Y Y Y (je Y Y (g_k Y Y Y Y (g_k Y Y Y Y (qO Y Y Y (je Y Y ?_)))))))
    refine g_k Y Y Y Y (g_k Y Y Y Y (g_k Y Y Y Y (g_k Y Y Y Y (qO Y Y Y (jx ?_)))))
    obtain rfl := sj hm
    exact jn () (trivial) (sE Y) (hsE [] [] 0 Y Y Y Y)
   replace hm := ifT (of_ndec_false h34) hm
   refine jc Y Y (je Y Y (jc Y Y (jb Y Y Y (fun _ _ => q5 Y Y) (yW Y Y Y (je Y Y ?_)))))
   refine jZ 45 Y (fun h35 => ?_) (fun h35 => ?_)
   ·replace hm := ifF (of_ndec_true h35) hm
    refine g_k Y Y Y Y (g_k Y Y Y Y (qO Y Y Y (je Y Y (g_k Y Y Y Y (g_k Y Y Y Y (qO Y Y Y (je Y Y ?_)))))))
    refine g_k Y Y Y Y (g_k Y Y Y Y (qO Y Y Y (je Y Y (g_k Y Y Y Y (g_k Y Y Y Y (qO Y Y Y (je Y Y ?_)))))))
    refine g_k Y Y Y Y (g_k Y Y Y Y (qO Y Y Y (je Y Y (g_k Y Y Y Y (g_k Y Y Y Y (g_k Y Y Y Y (g_k Y Y Y Y ?_)))))))
    refine qO Y Y Y (jx ?_)
    obtain rfl := sj hm
    exact jn () (trivial) (sE Y) (hsE [] [] 0 Y Y Y Y)
   replace hm := ifT (of_ndec_false h35) hm
   refine jc Y Y (je Y Y (jc Y Y (jb Y Y Y (fun _ _ => q5 Y Y) (yW Y Y Y (je Y Y ?_)))))
   refine jZ 49 Y (fun h36 => ?_) (fun h36 => ?_)
   ·replace hm := ifF (of_ndec_true h36) hm
    refine g_k Y Y Y Y (g_k Y Y Y Y (qO Y Y Y (je Y Y (g_k Y Y Y Y (g_k Y Y Y Y (qO Y Y Y (je Y Y ?_)))))))
    refine g_k Y Y Y Y (g_k Y Y Y Y (qO Y Y Y (je Y Y (g_k Y Y Y Y (g_k Y Y Y Y (qO Y Y Y (je Y Y ?_)))))))
    refine g_k Y Y Y Y (g_k Y Y Y Y (g_k Y Y Y Y (g_k Y Y Y Y (qO Y Y Y (jx ?_)))))
    obtain rfl := sj hm
    exact jn () (trivial) (sE Y) (hsE [] [] 0 Y Y Y Y)
   replace hm := ifT (of_ndec_false h36) hm
   refine jc Y Y (je Y Y (jc Y Y (jb Y Y Y (fun _ _ => q5 Y Y) (yW Y Y Y (je Y Y ?_)))))
   refine jZ 53 Y (fun h37 => ?_) (fun h37 => ?_)
   ·replace hm := ifF (of_ndec_true h37) hm
    refine g_k Y Y Y Y (g_k Y Y Y Y (qO Y Y Y (je Y Y (g_k Y Y Y Y (g_k Y Y Y Y (qO Y Y Y (je Y Y ?_)))))))
    refine g_k Y Y Y Y (g_k Y Y Y Y (qO Y Y Y (je Y Y (g_k Y Y Y Y (g_k Y Y Y Y (g_k Y Y Y Y (g_k Y Y Y Y ?_)))))))
    refine qO Y Y Y (jx ?_)
    obtain rfl := sj hm
    exact jn () (trivial) (sE Y) (hsE [] [] 0 Y Y Y Y)
   replace hm := ifT (of_ndec_false h37) hm
   refine jc Y Y (je Y Y (jc Y Y (jb Y Y Y (fun _ _ => q5 Y Y) (yW Y Y Y (je Y Y ?_)))))
   refine jZ 57 Y (fun h38 => ?_) (fun h38 => ?_)
   ·replace hm := ifF (of_ndec_true h38) hm
    refine g_k Y Y Y Y (g_k Y Y Y Y (qO Y Y Y (je Y Y (g_k Y Y Y Y (g_k Y Y Y Y (qO Y Y Y (je Y Y ?_)))))))
    refine g_k Y Y Y Y (g_k Y Y Y Y (g_k Y Y Y Y (g_k Y Y Y Y (qO Y Y Y (jx ?_)))))
    obtain rfl := sj hm
    exact jn () (trivial) (sE Y) (hsE [] [] 0 Y Y Y Y)
   replace hm := ifT (of_ndec_false h38) hm
   refine jc Y Y (je Y Y (jc Y Y (jb Y Y Y (fun _ _ => q5 Y Y) (yW Y Y Y (je Y Y ?_)))))
   refine jZ 61 Y (fun h39 => ?_) (fun h39 => ?_)
   ·replace hm := ifF (of_ndec_true h39) hm
    refine g_k Y Y Y Y (g_k Y Y Y Y (qO Y Y Y (je Y Y (g_k Y Y Y Y (g_k Y Y Y Y (g_k Y Y Y Y (g_k Y Y Y Y ?_)))))))
    refine qO Y Y Y (jx ?_)
    obtain rfl := sj hm
    exact jn () (trivial) (sE Y) (hsE [] [] 0 Y Y Y Y)
   replace hm := ifT (of_ndec_false h39) hm
   refine jc Y Y (je Y Y (jc Y Y (jb Y Y Y (fun _ _ => q5 Y Y) (yW Y Y Y (je Y Y ?_)))))
   refine jZ 65 Y (fun h40 => ?_) (fun h40 => ?_)
   ·replace hm := ifF (of_ndec_true h40) hm
    refine g_k Y Y Y Y (g_k Y Y Y Y (g_k Y Y Y Y (g_k Y Y Y Y (qO Y Y Y (jx ?_)))))
    obtain rfl := sj hm
    exact jn () (trivial) (sE Y) (hsE [] [] 0 Y Y Y Y)
   replace hm := ifT (of_ndec_false h40) hm
   refine jc Y Y (je Y Y (jc Y Y ?_))
   refine kS RI [2, 0] (ps := [(0, _), (1, _)]) (cells := [_, _]) (fun w => runUnderlying88 w) (fun w => sizeOf91 w) (fun w => zeroValue91 w) Y Y Y Y Y Y Y Y (fun L_2 h41 => ?_)
   refine jc Y Y ?_
   obtain ⟨t68, h42, hm⟩ := bindO hm
   refine jd [] [] Y Y Y Y Y Y Y call76 (fun w hh => KQ t28.r0 [2, 0] (qA l_5.q) l_5.n l_5.cap (qA L_2.q) L_2.n L_2.cap w (HV.callee (S0 := []) (vs0 := []) hh (roC (hh.vsepA 5 Y h23) (roC (hh.vsepA 0 Y h41) roN))) (vlen RI h23 Y) (AOK.q (vne h23)) (h23).hle (vlen RI h41 Y) (AOK.q (vne h41)) (h41).hle h42) (fun l_9 h43 => ?_)
   refine jc Y Y (jb Y Y Y (fun _ _ => qv Y) (yW Y Y Y (jx ?_)))
   obtain rfl := sj hm
   exact jn () (trivial) (sE Y) (hsE [] [] 0 Y Y Y Y)
  intro l_8 hj
  replace hm := h33
  refine ja ?_
  refine jr Y (fun h44 => ?_) (fun h44 => ?_)
  ·replace hm := ifT (h44) hm
   refine jp (jl Y Y (jo (ju (jf ?_))))
   obtain rfl := sj hm
   refine jm Y (fun w hh => (.tmp Y .nil)) (fun w hh => ⟨(), rfl, trivial, hh⟩)
  replace hm := ifN h44 hm
  refine js (ja (jp ?_))
  obtain ⟨t72, h45, hm⟩ := bindO hm
  refine jd [] [] Y Y Y Y Y Y Y call75 (fun w hh => zN 10 15 w (HV.callee (S0 := []) (vs0 := []) hh roN)  h45) (fun l_10 h46 => ?_)
  obtain ⟨h47, h48⟩ := h46
  refine jH (S' := []) (vs' := [_, _]) [] [0, 1] 0 Y Y Y Y ?_
  refine kS RI [0, 1, 2] (ps := [(0, _), (1, _), (2, _)]) (cells := [_, _, _]) (fun w => runUnderlying32 w) (fun w => sizeOf3 w) (fun w => zeroValue3 w) Y Y Y Y Y Y Y Y (fun L_3 h49 => ?_)
  refine jb Y Y Y (fun _ _ => jA (vs := [(1, _)]) (cells := [_, _]) Y Y) ?_
  obtain ⟨t75, h50, hm⟩ := bindO hm
  refine jd [] [] Y Y Y Y Y Y Y call36 (fun w hh => Yx t72 (⟨false, [0, 1, 2]⟩ : Lack) (qA l_10.1.q) l_10.1.n l_10.1.cap (qA l_10.2.q) l_10.2.n l_10.2.cap (qA L_3.q) L_3.n L_3.cap w (HV.callee (S0 := []) (vs0 := []) hh (roC (hh.vsepA 1 Y h47) (roC (hh.vsepA 2 Y h48) (roC (hh.vsepA 0 Y h49) roN)))) (vlen RSt h47 Y) (AOK.q (vne h47)) (h47).hle (vlen RSp h48 Y) (AOK.q (vne h48)) (h48).hle (vlen RI h49 Y) (AOK.q (vne h49)) (h49).hle h50) (fun l_11 h51 => ?_)
  refine je Y Y (ka Y Y Y (ka Y Y Y (jl Y Y (jl Y Y (jV ?_)))))
  obtain ⟨t79, h52, hm⟩ := bindO hm
  refine jd [] [] Y Y Y Y Y Y Y call75 (fun w hh => zN 10 15 w (HV.callee (S0 := []) (vs0 := []) hh roN)  h52) (fun l_12 h53 => ?_)
  obtain ⟨h54, h55⟩ := h53
  refine jH (S' := []) (vs' := [_, _, _, _, _]) [] [0, 1, 2, 3, 4] 0 Y Y Y Y ?_
  refine kS RI [0, 2] (ps := [(0, _), (1, _)]) (cells := [_, _]) (fun w => runUnderlying32 w) (fun w => sizeOf3 w) (fun w => zeroValue3 w) Y Y Y Y Y Y Y Y (fun L_4 h56 => ?_)
  refine jb Y Y Y (fun _ _ => jA (vs := [(1, _)]) (cells := [_, _]) Y Y) ?_
  obtain ⟨t82, h57, hm⟩ := bindO hm
  refine jd [] [] Y Y Y Y Y Y Y call36 (fun w hh => Yx t79 (⟨false, [0, 2]⟩ : Lack) (qA l_12.1.q) l_12.1.n l_12.1.cap (qA l_12.2.q) l_12.2.n l_12.2.cap (qA L_4.q) L_4.n L_4.cap w (HV.callee (S0 := []) (vs0 := []) hh (roC (hh.vsepA 1 Y h54) (roC (hh.vsepA 2 Y h55) (roC (hh.vsepA 0 Y h56) roN)))) (vlen RSt h54 Y) (AOK.q (vne h54)) (h54).hle (vlen RSp h55 Y) (AOK.q (vne h55)) (h55).hle (vlen RI h56 Y) (AOK.q (vne h56)) (h56).hle h57) (fun l_13 h58 => ?_)
  refine je Y Y (ka Y Y Y (ka Y Y Y (jl Y Y (jl Y Y (jV ?_)))))
  obtain ⟨t86, h59, hm⟩ := bindO hm
  refine jd [] [] Y Y Y Y Y Y Y call75 (fun w hh => zN 10 15 w (HV.callee (S0 := []) (vs0 := []) hh roN)  h59) (fun l_14 h60 => ?_)
  obtain ⟨h61, h62⟩ := h60
  refine jH (S' := []) (vs' := [_, _, _, _, _, _, _, _]) [] [0, 1, 2, 3, 4, 5, 6, 7] 0 Y Y Y Y ?_
  obtain ⟨t87, h63, hm⟩ := bindO hm
  refine jd [] [] Y Y Y Y Y Y Y call27 (fun w hh => Y6 t86 (qA l_14.1.q) l_14.1.n l_14.1.cap (qA l_14.2.q) l_14.2.n l_14.2.cap w (HV.callee (S0 := []) (vs0 := []) hh (roC (hh.vsepA 0 Y h61) (roC (hh.vsepA 1 Y h62) roN))) (vlen RSt h61 Y) (AOK.q (vne h61)) (h61).hle (vlen RSp h62 Y) (AOK.q (vne h62)) (h62).hle h63) (fun l_15 h64 => ?_)
  obtain ⟨h65, h66⟩ := h64
  refine jH (S' := []) (vs' := [_, _, _, _, _, _, _, _, _]) [] [0, 1, 2, 3, 4, 5, 6, 7, 8] 0 Y Y Y Y (je Y Y (ka Y Y Y (ka Y Y Y (jl Y Y (jV ?_)))))
  obtain ⟨t91, h67, hm⟩ := bindO hm
  refine jd [] [] Y Y Y Y Y Y Y call75 (fun w hh => zN 22 25 w (HV.callee (S0 := []) (vs0 := []) hh roN)  h67) (fun l_16 h68 => ?_)
  obtain ⟨h69, h70⟩ := h68
  refine jH (S' := []) (vs' := [_, _, _, _, _, _, _, _, _, _, _]) [] [0, 1, 2, 3, 4, 5, 6, 7, 8, 9, 10] 0 Y Y Y Y (jb Y Y Y (fun _ _ => jA (vs := [(0, _), (1, _)]) (cells := [_, _]) Y Y) ?_)
  obtain ⟨t93, h71, hm⟩ := bindO hm
  refine jd [] [] Y Y Y Y Y Y Y call14 (fun w hh => Zd t91 0 (⟨24, 30⟩ : Span) (qA l_16.1.q) l_16.1.n l_16.1.cap (qA l_16.2.q) l_16.2.n l_16.2.cap w (HV.callee (S0 := []) (vs0 := []) hh (roC (hh.vsepA 0 Y h69) (roC (hh.vsepA 1 Y h70) roN))) (vlen RSt h69 Y) (AOK.q (vne h69)) (h69).hle (vlen RSp h70 Y) (AOK.q (vne h70)) (h70).hle h71) (fun l_17 h72 => ?_)
  obtain ⟨h73, h74⟩ := h72
  refine jH (S' := []) (vs' := [_, _, _, _, _, _, _, _, _, _, _, _, _]) [] [0, 1, 2, 3, 4, 5, 6, 7, 8, 9, 10, 11, 12] 0 Y Y Y Y (je Y Y (ka Y Y Y (ka Y Y Y ?_)))
  refine jq (fun w => zeroValue28 w) Y (fun b h75 => ?_)
  refine jB (us := #[_, _]) (cs' := [_, _]) (S' := [_]) 0 (fun w => sizeOf28 w) Y Y Y Y Y Y Y (jl Y Y (jo (jk ?_)))
  obtain ⟨o_1, h76, h77⟩ := bindO hm
  refine jM (ι := Unit) (fun l_18 => True) (fun l_18 => [(0, .bool o_1)]) (fun l_18 => [kc b #[sL l_17.1, sL l_17.2] 28]) (fun l_18 => [vL 77 l_17.1 (RSt.enc t93.r0.strips), vL 37 l_17.2 (RSp.enc t93.r0.carried)]) ?_ ?_
  ·replace hm := h76
   refine jh (je Y Y (jb Y Y Y (fun _ _ => JT Y Y) (je Y Y ?_)))
   refine jZ 98 Y (fun h78 => ?_) (fun h78 => ?_)
   ·replace hm := ifD h78 hm
    refine jc Y Y (je Y Y (jc Y Y (jb Y Y Y (fun _ _ => JT Y Y) (qO Y Y Y (je Y Y ?_)))))
    refine jZ 102 Y (fun h79 => ?_) (fun h79 => ?_)
    ·replace hm := ifD h79 hm
     refine jc Y Y (je Y Y (jc Y Y (jb Y Y Y (fun _ _ => JT Y Y) (qO Y Y Y (je Y Y ?_)))))
     refine jZ 106 Y (fun h80 => ?_) (fun h80 => ?_)
     ·replace hm := ifD h80 hm
      refine jc Y Y (je Y Y (jc Y Y (jb Y Y Y (fun _ _ => JT Y Y) (qO Y Y Y (je Y Y ?_)))))
      refine jZ 110 Y (fun h81 => ?_) (fun h81 => ?_)
      ·replace hm := ifD h81 hm
       refine jc Y Y (je Y Y (jc Y Y (jb Y Y Y (fun _ _ => JT Y Y) (qO Y Y Y (je Y Y ?_)))))
       refine jZ 114 Y (fun h82 => ?_) (fun h82 => ?_)
       ·replace hm := ifD h82 hm
        refine jc Y Y (je Y Y (jc Y Y (jb Y Y Y (fun _ _ => JT Y Y) (qO Y Y Y (je Y Y ?_)))))
        refine jZ 118 Y (fun h83 => ?_) (fun h83 => ?_)
        ·replace hm := ifD h83 hm
         refine jc Y Y (j7 1 runUnderlying28 Y sizeOf26 Y Y (jc Y Y (kx 0 isAgg26 Y Y Y Y (jc Y Y (jb Y Y Y (fun w _ => zQ (vlen RSp h74 Y) (runUnderlying26 w) Y) (jc Y Y (jb Y Y Y (fun _ _ => JT Y Y) ?_)))))))
         refine qO Y Y Y (je Y Y ?_)
         refine jZ 124 Y (fun h84 => ?_) (fun h84 => ?_)
         ·replace hm := ifD h84 hm
          refine jc Y Y (j7 1 runUnderlying28 Y sizeOf26 Y Y (jc Y Y (kx 0 isAgg26 Y Y Y Y (jc Y Y ?_))))
          obtain ⟨t127, h85, hm⟩ := bindO hm
          refine jb Y Y Y (fun w _ => yJ h85 (runUnderlying26 w) (sizeOf37 w) Y Y (vlen RSp h74 Y) (vne h74)) (jc Y Y ?_)
          refine jb Y Y Y (fun w hh => kT RSp 0 [.int .i64 t127.lo, .int .i64 t127.hi] h85 (isAgg37 w) (sizeOf37 w) Y (hh.vseg 1 Y h74) Y (Nat.add_zero _).symm) ?_
          refine jc Y Y (jb Y Y Y (fun _ _ => jA (vs := [(0, _), (1, _)]) (cells := [_, _]) Y Y) (jc Y Y (jb Y Y Y (fun w _ => Q6 (ZQ t127 (⟨24, 25⟩ : Span) w) Zn Y Y) (qO Y Y Y (jl Y Y (jx ?_))))))
          obtain rfl := sj hm
          exact jn () (trivial) (sE Y) (hsE [0] [0, 1] 0 Y Y Y Y)
         replace hm := ifE h84 hm
         refine g_k Y Y Y Y (g_k Y Y Y Y (g_k Y Y Y Y (g_k Y Y Y Y (g_k Y Y Y Y (g_k Y Y Y Y (yW Y Y Y (jl Y Y ?_)))))))
         refine jx ?_
         obtain rfl := sj hm
         exact jn () (trivial) (sE Y) (hsE [0] [0, 1] 0 Y Y Y Y)
        replace hm := ifE h83 hm
        refine g_k Y Y Y Y (g_k Y Y Y Y (g_k Y Y Y Y (g_k Y Y Y Y (yW Y Y Y (je Y Y (g_k Y Y Y Y (g_k Y Y Y Y ?_)))))))
        refine g_k Y Y Y Y (g_k Y Y Y Y (g_k Y Y Y Y (g_k Y Y Y Y (yW Y Y Y (jl Y Y (jx ?_))))))
        obtain rfl := sj hm
        exact jn () (trivial) (sE Y) (hsE [0] [0, 1] 0 Y Y Y Y)
       replace hm := ifE h82 hm
       refine g_k Y Y Y Y (g_k Y Y Y Y (yW Y Y Y (je Y Y (g_k Y Y Y Y (g_k Y Y Y Y (g_k Y Y Y Y (g_k Y Y Y Y ?_)))))))
       refine yW Y Y Y (je Y Y (g_k Y Y Y Y (g_k Y Y Y Y (g_k Y Y Y Y (g_k Y Y Y Y (g_k Y Y Y Y (g_k Y Y Y Y ?_)))))))
       refine yW Y Y Y (jl Y Y (jx ?_))
       obtain rfl := sj hm
       exact jn () (trivial) (sE Y) (hsE [0] [0, 1] 0 Y Y Y Y)
      replace hm := ifE h81 hm
      refine g_k Y Y Y Y (g_k Y Y Y Y (yW Y Y Y (je Y Y (g_k Y Y Y Y (g_k Y Y Y Y (yW Y Y Y (je Y Y ?_)))))))
      refine g_k Y Y Y Y (g_k Y Y Y Y (g_k Y Y Y Y (g_k Y Y Y Y (yW Y Y Y (je Y Y (g_k Y Y Y Y (g_k Y Y Y Y ?_)))))))
      refine g_k Y Y Y Y (g_k Y Y Y Y (g_k Y Y Y Y (g_k Y Y Y Y (yW Y Y Y (jl Y Y (jx ?_))))))
      obtain rfl := sj hm
      exact jn () (trivial) (sE Y) (hsE [0] [0, 1] 0 Y Y Y Y)
     replace hm := ifE h80 hm
     refine g_k Y Y Y Y (g_k Y Y Y Y (yW Y Y Y (je Y Y (g_k Y Y Y Y (g_k Y Y Y Y (yW Y Y Y (je Y Y ?_)))))))
     refine g_k Y Y Y Y (g_k Y Y Y Y (yW Y Y Y (je Y Y (g_k Y Y Y Y (g_k Y Y Y Y (g_k Y Y Y Y (g_k Y Y Y Y ?_)))))))
     refine yW Y Y Y (je Y Y (g_k Y Y Y Y (g_k Y Y Y Y (g_k Y Y Y Y (g_k Y Y Y Y (g_k Y Y Y Y (g_k Y Y Y Y ?_)))))))
     refine yW Y Y Y (jl Y Y (jx ?_))
     obtain rfl := sj hm
     exact jn () (trivial) (sE Y) (hsE [0] [0, 1] 0 Y Y Y Y)
    replace hm := ifE h79 hm
    refine g_k Y Y Y Y (g_k Y Y Y Y (yW Y Y Y (je Y Y (g_k Y Y Y Y (g_k Y Y Y Y (yW Y Y Y (je Y Y ?_)))))))
    refine g_k Y Y Y Y (g_k Y Y Y Y (yW Y Y Y (je Y Y (g_k Y Y Y Y (g_k Y Y Y Y (yW Y Y Y (je Y Y ?_)))))))
    refine g_k Y Y Y Y (g_k Y Y Y Y (g_k Y Y Y Y (g_k Y Y Y Y (yW Y Y Y (je Y Y (g_k Y Y Y Y (g_k Y Y Y Y ?_)))))))
    refine g_k Y Y Y Y (g_k Y Y Y Y (g_k Y Y Y Y (g_k Y Y Y Y (yW Y Y Y (jl Y Y (jx ?_))))))
    obtain rfl := sj hm
    exact jn () (trivial) (sE Y) (hsE [0] [0, 1] 0 Y Y Y Y)
   replace hm := ifE h78 hm
   refine g_k Y Y Y Y (g_k Y Y Y Y (yW Y Y Y (je Y Y (g_k Y Y Y Y (g_k Y Y Y Y (yW Y Y Y (je Y Y ?_)))))))
   refine g_k Y Y Y Y (g_k Y Y Y Y (yW Y Y Y (je Y Y (g_k Y Y Y Y (g_k Y Y Y Y (yW Y Y Y (je Y Y ?_)))))))
   refine g_k Y Y Y Y (g_k Y Y Y Y (yW Y Y Y (je Y Y (g_k Y Y Y Y (g_k Y Y Y Y (g_k Y Y Y Y (g_k Y Y Y Y ?_)))))))
   refine yW Y Y Y (je Y Y (g_k Y Y Y Y (g_k Y Y Y Y (g_k Y Y Y Y (g_k Y Y Y Y (g_k Y Y Y Y (g_k Y Y Y Y ?_)))))))
   refine yW Y Y Y (jl Y Y (jx ?_))
   obtain rfl := sj hm
   exact jn () (trivial) (sE Y) (hsE [0] [0, 1] 0 Y Y Y Y)
  intro l_18 hj
  replace hm := h77
  refine ja (ju ?_)
  obtain rfl := sj hm
  refine jm Y (fun w hh => (.tmp Y .nil)) (fun w hh => ⟨(), rfl, trivial, hh.se [] [] 0 Y Y Y rfl⟩)
end Go.Proofs.Ws

namespace Go.Sp
def sumI {α : Type} (f : α → Int) : List α → Int
  | [] => 0
  | x :: l => f x + sumI f l
theorem sumI_append {α : Type} (f : α → Int) : ∀ l m : List α, sumI f (l ++ m) = sumI f l + sumI f m
  | [], m => by simp [sumI]
  | x :: l, m => by simp only [List.cons_append, sumI, sumI_append f l m]; omega
theorem sumI_congr {α : Type} {f g : α → Int} : ∀ {l : List α}, (∀ x, x ∈ l → f x = g x) → sumI f l = sumI g l
  | [], _ => rfl
  | x :: l, h => by
    simp only [sumI]
    rw [h x (by simp), sumI_congr (l := l) (fun y hy => h y (by simp [hy]))]
theorem sumI_le {α : Type} {f g : α → Int} : ∀ {l : List α}, (∀ x, x ∈ l → f x ≤ g x) → sumI f l ≤ sumI g l
  | [], _ => by simp [sumI]
  | x :: l, h => by
    have h1 := h x (by simp)
    have h2 := sumI_le (l := l) (fun y hy => h y (by simp [hy]))
    simp only [sumI]; omega
theorem sumI_zero {α : Type} : ∀ l : List α, sumI (fun _ => 0) l = 0
  | [] => rfl
  | x :: l => by simp only [sumI, sumI_zero l]; omega
theorem sumI_map {α β : Type} (f : β → Int) (g : α → β) : ∀ l : List α, sumI f (l.map g) = sumI (fun x => f (g x)) l
  | [] => rfl
  | x :: l => by simp only [List.map_cons, sumI, sumI_map f g l]
def base (w : Wy) : Wy := { w with goes := 0 }
def Same (l l' : List Wy) : Prop := l.map base = l'.map base
theorem Same.refl (l : List Wy) : Same l l := rfl
theorem Same.symm {l l' : List Wy} (h : Same l l') : Same l' l := Eq.symm h
theorem Same.trans {a b c : List Wy} (h : Same a b) (k : Same b c) : Same a c := Eq.trans h k
theorem Same.len {l l' : List Wy} (h : Same l l') : l.length = l'.length := by have := congrArg List.length h; simpa using this
theorem Same.cons {w w' : Wy} {l l' : List Wy} (h : Same (w :: l) (w' :: l')) : base w = base w' ∧ Same l l' := by
  have : base w :: l.map base = base w' :: l'.map base := h
  injection this with h1 h2
  exact ⟨h1, h2⟩
theorem base_eq {w w' : Wy} (h : base w = base w') : w.fr = w'.fr ∧ w.dst = w'.dst ∧ w.lo = w'.lo ∧ w.hi = w'.hi ∧ w.cost = w'.cost := by
  cases w; cases w'
  simp only [base, Wy.mk.injEq] at h
  exact ⟨h.1, h.2.1, h.2.2.1, h.2.2.2.1, h.2.2.2.2.1⟩
def bal (φ : Int → Int) (l : List Wy) : Int := sumI (fun w => (φ w.dst - φ w.fr) * w.goes) l
def costs (l : List Wy) : Int := sumI (fun w => w.cost * w.goes) l
def Round (l : List Wy) : Prop := ∀ φ, bal φ l = 0
def Within (l : List Wy) : Prop := ∀ w, w ∈ l → w.lo ≤ w.goes ∧ w.goes ≤ w.hi
def Pot (π : Int → Int) (l : List Wy) : Prop := ∀ w, w ∈ l → (w.goes < w.hi → π w.dst ≤ π w.fr + w.cost) ∧ (min w.lo w.goes < w.goes → π w.fr ≤ π w.dst - w.cost)
theorem Pot.cheap {π : Int → Int} : ∀ {l l' : List Wy}, Same l l' → Pot π l → Within l' → costs l - bal π l ≤ costs l' - bal π l'
  | [], [], _, _, _ => by simp [costs, bal, sumI]
  | [], w' :: l', h, _, _ => by have := Same.len h; simp at this
  | w :: l, [], h, _, _ => by have := Same.len h; simp at this
  | w :: l, w' :: l', h, hp, hw => by
    obtain ⟨hb, hs⟩ := h.cons
    obtain ⟨e1, e2, e3, e4, e5⟩ := base_eq hb
    have ih := Pot.cheap hs (fun x hx => hp x (by simp [hx])) (fun x hx => hw x (by simp [hx]))
    obtain ⟨p1, p2⟩ := hp w (by simp)
    obtain ⟨w1, w2⟩ := hw w' (by simp)
    unfold costs bal at ih ⊢
    simp only [sumI]
    have key : w.cost * w.goes - (π w.dst - π w.fr) * w.goes ≤ w'.cost * w'.goes - (π w'.dst - π w'.fr) * w'.goes := by
      rw [← e5, ← e1, ← e2, ← Int.sub_mul, ← Int.sub_mul]
      have h0 : 0 ≤ (w.cost - (π w.dst - π w.fr)) * (w'.goes - w.goes) := by
        by_cases h1 : w.goes < w'.goes
        · have := p1 (by omega)
          exact Int.mul_nonneg (by omega) (by omega)
        · by_cases h2 : w'.goes < w.goes
          · have := p2 (by omega)
            have h3 := Int.mul_nonneg (a := -(w.cost - (π w.dst - π w.fr))) (b := -(w'.goes - w.goes)) (by omega) (by omega)
            rwa [Int.neg_mul_neg] at h3
          · have : w'.goes - w.goes = 0 := by omega
            rw [this, Int.mul_zero]; omega
      rw [Int.mul_sub] at h0
      omega
    omega
theorem Pot.least {π : Int → Int} {l l' : List Wy} (h : Same l l') (hp : Pot π l) (hr : Round l) (hw : Within l') (hr' : Round l') : costs l ≤ costs l' := by
  have := Pot.cheap h hp hw
  rw [hr π, hr' π] at this
  omega
def Cut (S : Int → Bool) (l : List Wy) : Prop := ∀ w, w ∈ l → (S w.fr = true → S w.dst = false → w.hi ≤ w.goes) ∧ (S w.fr = false → S w.dst = true → w.goes ≤ w.lo)
def ind (S : Int → Bool) (v : Int) : Int := if S v = true then 1 else 0
def gap (S : Int → Bool) (l : List Wy) : Int := sumI (fun w => if S w.fr = false ∧ S w.dst = true then w.lo else if S w.fr = true ∧ S w.dst = false then - w.hi else 0) l
theorem Cut.gap {S : Int → Bool} {l : List Wy} (h : Cut S l) (hr : Round l) {w0 : Wy} (h0 : w0 ∈ l) (h1 : S w0.fr = false) (h2 : S w0.dst = true) (h3 : w0.goes < w0.lo) : 0 < gap S l := by
  have hb := hr (ind S)
  have key : ∀ m : List Wy, (∀ w, w ∈ m → (S w.fr = true → S w.dst = false → w.hi ≤ w.goes) ∧ (S w.fr = false → S w.dst = true → w.goes ≤ w.lo)) → bal (ind S) m ≤ Go.Sp.gap S m ∧ (w0 ∈ m → bal (ind S) m < Go.Sp.gap S m) := by
    intro m
    induction m with
    | nil => intro _; exact ⟨by simp [bal, Go.Sp.gap, sumI], fun h => by cases h⟩
    | cons w m ih =>
      intro hm
      obtain ⟨i1, i2⟩ := ih (fun x hx => hm x (by simp [hx]))
      obtain ⟨c1, c2⟩ := hm w (by simp)
      have hterm : (ind S w.dst - ind S w.fr) * w.goes ≤ (if S w.fr = false ∧ S w.dst = true then w.lo else if S w.fr = true ∧ S w.dst = false then - w.hi else 0) := by
        cases hf : S w.fr <;> cases hd : S w.dst <;> simp only [ind, hf, hd, if_true, if_false, Bool.false_eq_true, and_self, and_true, true_and, and_false, false_and, reduceCtorEq, Bool.true_eq_false]
        · simp
        · have := c2 hf hd; omega
        · have := c1 hf hd; omega
        · simp
      unfold bal Go.Sp.gap at i1 i2 ⊢
      simp only [sumI]
      refine ⟨by omega, fun hmem => ?_⟩
      rcases List.mem_cons.1 hmem with rfl | hmem
      · have e1 : (ind S w0.dst - ind S w0.fr) * w0.goes = w0.goes := by simp [ind, h1, h2]
        have e2 : (if S w0.fr = false ∧ S w0.dst = true then w0.lo else if S w0.fr = true ∧ S w0.dst = false then - w0.hi else 0) = w0.lo := by simp [h1, h2]
        rw [e1, e2]
        omega
      · have := i2 hmem; omega
  have := (key l h).2 h0
  omega
theorem gap_le {S : Int → Bool} {l : List Wy} (hr : Round l) (hw : Within l) : gap S l ≤ 0 := by
  have hb := hr (ind S)
  have : gap S l ≤ bal (ind S) l := by
    unfold gap bal
    refine sumI_le fun w hm => ?_
    obtain ⟨c1, c2⟩ := hw w hm
    cases hf : S w.fr <;> cases hd : S w.dst <;> simp only [ind, hf, hd, if_true, if_false, Bool.false_eq_true, and_self, and_true, true_and, and_false, false_and, reduceCtorEq, Bool.true_eq_false] <;> omega
  omega
theorem gap_same {S : Int → Bool} : ∀ {l l' : List Wy}, Same l l' → gap S l = gap S l'
  | [], [], _ => rfl
  | [], w' :: l', h => by have := Same.len h; simp at this
  | w :: l, [], h => by have := Same.len h; simp at this
  | w :: l, w' :: l', h => by
    obtain ⟨hb, hs⟩ := h.cons
    obtain ⟨e1, e2, e3, e4, e5⟩ := base_eq hb
    have := gap_same (S := S) hs
    unfold gap at this ⊢
    simp only [sumI]
    rw [this, e1, e2, e3, e4]
end Go.Sp

namespace Go.Sp
section
variable (A B C : Change → Int)
structure BF where
  far : Int → Int
  pre : Int → Change
  last : Int
def upd {α : Type} (f : Int → α) (b : Int) (v : α) : Int → α := fun x => if x = b then v else f x
theorem upd_same {α : Type} {f : Int → α} {b : Int} {v : α} : upd f b v b = v := by simp [upd]
theorem upd_ne {α : Type} {f : Int → α} {b x : Int} {v : α} (h : x ≠ b) : upd f b v x = f x := by simp [upd, h]
def relax (s : BF) (c : Change) : BF := if s.far (A c) + C c < s.far (B c) then ⟨upd s.far (B c) (s.far (A c) + C c), upd s.pre (B c) c, B c⟩ else s
def pred (s : BF) (x : Int) : Int := A (s.pre x)
def iterP (p : Int → Int) : Nat → Int → Int
  | 0, x => x
  | k + 1, x => iterP p k (p x)
theorem iterP_succ (p : Int → Int) : ∀ (k : Nat) (x : Int), iterP p (k + 1) x = p (iterP p k x)
  | 0, x => rfl
  | k + 1, x => by
    show iterP p (k + 1) (p x) = p (iterP p k (p x))
    exact iterP_succ p k (p x)
theorem iterP_add (p : Int → Int) : ∀ (j k : Nat) (x : Int), iterP p (j + k) x = iterP p j (iterP p k x)
  | j, 0, x => rfl
  | j, k + 1, x => by
    show iterP p (j + k) (p x) = _
    rw [iterP_add p j k (p x)]
    rfl
structure Inv (cs : List Change) (r : Nat) (todo : List Change) (rel : Int → Nat) (N : Nat) (s : BF) : Prop where
  lo : ∀ x, - (N : Int) ≤ s.far x
  hi : ∀ x, s.far x ≤ 0
  le : ∀ x, rel x ≤ r
  pc : ∀ x, 1 ≤ rel x → s.pre x ∈ cs ∧ B (s.pre x) = x ∧ s.far (A (s.pre x)) + C (s.pre x) ≤ s.far x ∧ rel x ≤ rel (A (s.pre x)) + 1
  done : ∀ c, c ∈ cs → c ∈ todo ∨ s.far (B c) ≤ s.far (A c) + C c ∨ r ≤ rel (A c)
  left : ∀ c, c ∈ cs → s.far (B c) ≤ s.far (A c) + C c ∨ r ≤ rel (A c) + 1
  strict : ∀ y k, 0 < k → (∀ i, i < k → 1 ≤ rel (iterP (pred A s) i y)) → iterP (pred A s) k y = y → ∃ i, i < k ∧ s.far (iterP (pred A s) (i + 1) y) + C (s.pre (iterP (pred A s) i y)) < s.far (iterP (pred A s) i y)
  lst : 1 ≤ r → (∀ x, rel x = r → 0 ≤ s.last) ∧ (0 ≤ s.last → rel s.last = r)
variable {A B C}
theorem Inv.step {cs : List Change} (hne : ∀ c, c ∈ cs → A c ≠ B c) (hB : ∀ c, c ∈ cs → 0 ≤ B c) (hC : ∀ c, c ∈ cs → -1 ≤ C c) {r : Nat} (hr : 1 ≤ r) {c : Change} {todo : List Change} {rel : Int → Nat} {N : Nat} {s : BF} (hc : c ∈ cs) (h : Inv A B C cs r (c :: todo) rel N s) :
    ∃ rel', Inv A B C cs r todo rel' (N + 1) (relax A B C s c) ∧ ∀ x, rel x ≤ rel' x := by
  unfold relax
  by_cases hlt : s.far (A c) + C c < s.far (B c)
  · rw [if_pos hlt]
    have hlo := h.lo (A c)
    have hhi := h.hi (B c)
    have hcc := hC c hc
    have hne' := hne c hc
    have hleft : r ≤ rel (A c) + 1 := by rcases h.left c hc with h1 | h1; · omega
                                         · exact h1
    refine ⟨fun x => if x = B c then r else rel x, ?_, fun x => ?_⟩
    rotate_left
    · have := h.le x
      simp only; split <;> omega
    have hrel : ∀ x, (if x = B c then r else rel x) = if x = B c then r else rel x := fun _ => rfl
    have hfarle : ∀ x, upd s.far (B c) (s.far (A c) + C c) x ≤ s.far x := fun x => by
      unfold upd; split
      · rename_i e; subst e; omega
      · omega
    -- the predecessor of a node
    have hpred : ∀ x, pred A ⟨upd s.far (B c) (s.far (A c) + C c), upd s.pre (B c) c, B c⟩ x = if x = B c then A c else pred A s x := fun x => by
      unfold pred upd; simp only; split <;> rfl
    refine ⟨fun x => ?_, fun x => ?_, fun x => ?_, fun x hx => ?_, fun d hd => ?_, fun d hd => ?_, fun y k hk hall hcyc => ?_, fun _ => ⟨fun x _ => hB c hc, fun _ => by simp⟩⟩
    · have := h.lo x
      simp only [upd]; split <;> omega
    · have := h.hi x; have := hfarle x; simp only at *; omega
    · have := h.le x
      show (if x = B c then r else rel x) ≤ r
      split <;> omega
    · simp only at hx ⊢
      by_cases hxb : x = B c
      · subst hxb
        rw [upd_same, upd_same, upd_ne hne', if_pos rfl, if_neg hne']
        exact ⟨hc, rfl, Int.le_refl _, hleft⟩
      · rw [if_neg hxb] at hx
        rw [upd_ne hxb, upd_ne hxb, if_neg hxb]
        obtain ⟨h1, h2, h3, h4⟩ := h.pc x hx
        refine ⟨h1, h2, ?_, ?_⟩
        · have := hfarle (A (s.pre x)); omega
        · have := h.le x
          split
          · omega
          · exact h4
    · simp only
      by_cases hda : A d = B c
      · right; right; rw [if_pos hda]; exact Nat.le_refl _
      · rw [if_neg hda, upd_ne hda]
        by_cases hdc : d = c
        · subst hdc
          right; left
          rw [upd_same]; exact Int.le_refl _
        · rcases h.done d hd with h1 | h1 | h1
          · rcases List.mem_cons.1 h1 with h1 | h1
            · exact absurd h1 hdc
            · exact .inl h1
          · right; left; have := hfarle (B d); omega
          · exact .inr (.inr h1)
    · simp only
      by_cases hda : A d = B c
      · right; rw [if_pos hda]; omega
      · rw [if_neg hda, upd_ne hda]
        rcases h.left d hd with h1 | h1
        · left; have := hfarle (B d); omega
        · exact .inr h1
    · -- what goes round
      generalize hp' : pred A ⟨upd s.far (B c) (s.far (A c) + C c), upd s.pre (B c) c, B c⟩ = p' at hall hcyc hpred ⊢
      by_cases hb : ∃ m, m < k ∧ iterP p' m y = B c
      · -- it leads over the node that turned: the one behind it is slack
        obtain ⟨m, hm, hmb⟩ := hb
        have key : ∃ i, i < k ∧ iterP p' (i + 1) y = B c := by
          cases m with
          | zero => exact ⟨k - 1, by omega, by rw [show k - 1 + 1 = k by omega, hcyc]; exact hmb⟩
          | succ m => exact ⟨m, by omega, hmb⟩
        obtain ⟨i, hi, hib⟩ := key
        refine ⟨i, hi, ?_⟩
        have hz : p' (iterP p' i y) = B c := (iterP_succ p' i y).symm.trans hib
        rw [hib]
        have hri := hall i hi
        generalize iterP p' i y = z at hri hz ⊢
        by_cases hzb : z = B c
        · subst hzb
          rw [hpred, if_pos rfl] at hz
          exact absurd hz hne'
        · simp only [upd_ne hzb, upd_same, hzb, if_false] at hri ⊢
          rw [hpred, if_neg hzb] at hz
          obtain ⟨h1, h2, h3, h4⟩ := h.pc z hri
          unfold pred at hz
          rw [hz] at h3
          omega
      · have hno : ∀ m, m < k → iterP p' m y ≠ B c := fun m hm e => hb ⟨m, hm, e⟩
        have heq : ∀ m, m ≤ k → iterP p' m y = iterP (pred A s) m y := by
          intro m
          induction m with
          | zero => intro _; rfl
          | succ m ih =>
            intro hm
            rw [iterP_succ, iterP_succ, ih (by omega), hpred, if_neg (by rw [← ih (by omega)]; exact hno m (by omega))]
        obtain ⟨i, hi, h1⟩ := h.strict y k hk (fun i hi => by
          have := hall i hi
          simp only [hno i hi, if_false] at this
          rwa [heq i (by omega)] at this) (by rw [← heq k (Nat.le_refl _)]; exact hcyc)
        refine ⟨i, hi, ?_⟩
        have e1 : iterP p' (i + 1) y ≠ B c := by
          by_cases hik : i + 1 = k
          · rw [hik, hcyc]; have := hno 0 hk; exact this
          · exact hno (i + 1) (by omega)
        show upd s.far (B c) (s.far (A c) + C c) (iterP p' (i + 1) y) + C (upd s.pre (B c) c (iterP p' i y)) < upd s.far (B c) (s.far (A c) + C c) (iterP p' i y)
        rw [upd_ne e1, upd_ne (hno i hi), upd_ne (hno i hi), heq i (by omega), heq (i + 1) (by omega)]
        exact h1
  · rw [if_neg hlt]
    refine ⟨rel, ⟨fun x => by have := h.lo x; omega, h.hi, h.le, h.pc, fun d hd => ?_, h.left, h.strict, h.lst⟩, fun x => Nat.le_refl _⟩
    rcases h.done d hd with h1 | h1
    · rcases List.mem_cons.1 h1 with h1 | h1
      · subst h1; right; left; omega
      · exact .inl h1
    · exact .inr h1
end
end Go.Sp

