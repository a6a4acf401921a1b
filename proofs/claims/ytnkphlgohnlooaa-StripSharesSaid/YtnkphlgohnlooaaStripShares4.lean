/- What the functions that the law StripShares reaches come to, and why it holds: part 4. -/
import Derived.Test.YtnkphlgohnlooaaStripShares3
namespace Go.Proofs.Ws
set_option maxHeartbeats 4000000
set_option maxRecDepth 100000
open Go Go.Fw Go.Gx Go.Sp
set_option linter.unusedVariables false
structure z9 where
  sum3 : Int
  t11 : Int
def zN (n00 : (List Wy)) (s : z9) : Option (z9 ⊕ Int) :=
 if s.t11 < (n00.length : Int) then
 ((ix n00 s.t11).bind fun t13 =>
 (mulc t13.cost t13.goes).bind fun t20 =>
 (addc s.sum3 t20).bind fun t21 =>
 (addc s.t11 1).bind fun t22 =>
 some (.inl (⟨t21, t22⟩ : z9))) else
 (some (.inr s.sum3))
def yp (n00 : (List Wy)) : Option Int :=
 (iterM FU (zN n00) (⟨0, 0⟩ : z9)).bind fun o =>
 some o
theorem Qe (n00 : (List Wy)) (rb : Nat) (qa1 : Option Addr) (na1 ca1 : Nat) (w : World) (hw : HV w (keys [] []) [] [] [(rb, 0, [.slice qa1 na1 ca1]), (aB qa1, aO qa1, RWay.enc n00)] w)  (hna1 : n00.length = na1) (hqa1 : AOK na1 qa1) (hla1 : na1 ≤ ca1) {res : Int} (hm : yp n00 = some res) :
    Calls Try.prog 69 #[ptr rb 0] w (fun en w' => ∃ l : Unit, en = .returned (.int .i64 res) ∧ (True) ∧ HV w (keys [] []) [] [] [] w') := by
  unfold yp at hm
  refine kb Try.func69 rfl Try.ntmps69 rfl (e := [(0, _)]) rfl hw (jp (jm rfl rfl (j1 (jm rfl rfl (jo (jj (jp ?_)))))))
  refine jf rfl rfl (jc rfl rfl rfl (fun _ _ => jJ rfl) (jL 0 Try.runUnderlying168 rfl Try.sizeOf166 rfl rfl (jc rfl rfl rfl (fun w hh => jY (Try.isAgg166 w) rfl (segCell (hh.seg 0 rfl) 0 rfl)) (jc rfl rfl rfl (fun w _ => jB hna1 (Try.runUnderlying166 w) rfl) (jf rfl rfl (jo ?_))))))
  obtain ⟨o, h1, h2⟩ := bindO hm
  refine jC (ι := Unit) (fun l => True) (fun l => [(3, .int .i64 o)]) (fun l => []) (fun l => []) ?_ ?_
  ·replace hm := h1
   refine jl ?_
   refine jF (ι := Unit) hm (fun s l_1 => True) (fun s l_1 => [(3, .int .i64 s.sum3), (9, .slice qa1 na1 ca1), (10, .int .i64 (n00.length : Int)), (11, .int .i64 s.t11)]) (fun s l_1 => []) (fun s l_1 => []) () (trivial) (sE rfl) (fun w hh => hh) (fun s l_1 r hpl hm h3 => ?_)
   unfold zN at hm
   refine jp (qv rfl rfl rfl (jo (jj ?_)))
   refine jq rfl (fun h4 => ?_) (fun h4 => ?_)
   ·replace hm := ifD h4 hm
    refine jr (jb (jj (jl (jp ?_))))
    obtain ⟨t13, h5, hm⟩ := bindO hm
    refine jc rfl rfl rfl (fun w _ => jW h5 (Try.runUnderlying166 w) (Try.sizeOf170 w) rfl rfl hna1 hqa1) ?_
    refine jc rfl rfl rfl (fun w hh => kk RWay 0 [.int .i64 t13.fr, .int .i64 t13.dst, .int .i64 t13.lo, .int .i64 t13.hi, .int .i64 t13.cost, .int .i64 t13.goes] h5 (Try.isAgg170 w) (Try.sizeOf170 w) rfl (hh.seg 1 rfl) rfl (Nat.add_zero _).symm) ?_
    refine jt (fun w => Try.zeroValue170 w) rfl (fun b h6 => ?_)
    refine jE (us := #[_, _, _, _, _, _]) (cs' := [_, _, _, _, _, _]) (S' := [_]) 0 (fun w => Try.sizeOf170 w) rfl rfl rfl rfl rfl rfl rfl (jo (jh (jf rfl rfl (jL 4 Try.runUnderlying170 rfl Try.sizeOf3 rfl rfl (jU 0 Try.isAgg3 rfl rfl rfl rfl (jL 5 Try.runUnderlying170 rfl Try.sizeOf3 rfl rfl (jU 0 Try.isAgg3 rfl rfl rfl rfl ?_)))))))
    obtain ⟨t20, h7, hm⟩ := bindO hm
    refine jc rfl rfl rfl (fun _ _ => Yj h7 rfl rfl) ?_
    obtain ⟨t21, h8, hm⟩ := bindO hm
    refine kt h8 rfl rfl rfl (jm rfl rfl (jv (js (jb (jh ?_)))))
    obtain ⟨t22, h9, hm⟩ := bindO hm
    refine kt h9 rfl rfl rfl (jf rfl rfl (jv ?_))
    obtain rfl := sj hm
    refine jb ?_
    exact jy _ () rfl (trivial) (sE rfl) (hsE [] [] 0 rfl rfl rfl rfl)
   ·replace hm := ifE h4 hm
    refine jM (ji (ji (jz ?_)))
    obtain rfl := sj hm
    have hbo := h3 _ rfl
    subst hbo
    exact jg () (trivial) (sE rfl) (fun w hh => hh)
  ·intro l hj
   replace hm := h2
   refine jb (jp (jf rfl rfl (jm rfl rfl (jo (jw ?_)))))
   obtain rfl := sj hm
   refine jn rfl (fun w hh => (.tmp rfl .nil)) (fun w hh => ⟨(), rfl, trivial, hh.se [] [] 2 rfl rfl rfl rfl⟩)
structure JL where
  r1 : Int
  r2 : Int
  r0 : (List (List Int))
def qZ (s0 : Scalps) : Option JL :=
 (ks s0).bind fun t11 =>
 oc t11 (fun t11a => some (⟨0, t11a, ([] : List (List Int))⟩ : JL)) (fun t11b => (JB s0.strips s0.carried).bind fun t20 =>
 (j0 s0.strips s0.carried t11b (fun p : Pair => jP p s0.strips s0.carried)).bind fun t21 =>
 oc t21 (fun t21a => some (⟨0, 7, ([] : List (List Int))⟩ : JL)) (fun t21b => (qU t21b.t12 s0.strips s0.carried).bind fun t28 =>
 (yp t21b.t12).bind fun t30 =>
 some (⟨t30, 0, t28⟩ : JL)))
theorem Yp (s0 : Scalps) (qa0 : Option Addr) (na0 ca0 : Nat) (qa1 : Option Addr) (na1 ca1 : Nat) (w : World) (hw : HV w (keys [] []) [] [] [(aB qa0, aO qa0, RSt.enc s0.strips), (aB qa1, aO qa1, RSp.enc s0.carried)] w) (hna0 : s0.strips.length = na0) (hqa0 : AOK na0 qa0) (hla0 : na0 ≤ ca0) (hna1 : s0.carried.length = na1) (hqa1 : AOK na1 qa1) (hla1 : na1 ≤ ca1) {res : JL} (hm : qZ s0 = some res) :
    Calls Try.prog 17 #[.agg #[.slice qa0 na0 ca0, .slice qa1 na1 ca1]] w (fun en w' => ∃ l : DL, en = .returned (.tuple #[slv l.v.q l.v.n l.v.cap, .int .i64 res.r1, .int .i64 res.r2]) ∧ (VOK 1 l.v.n l.v.cap (RwH.enc l.rs) l.v.sp l.v.q ∧ DOK RI res.r0 l.rs) ∧ HV w (keys [] []) [] [⟨32, RwH.enc l.rs, l.v.sp, l.v.q, dbl 3 RI res.r0 l.rs⟩] [] w') := by
  unfold qZ at hm
  refine kb Try.func17 rfl Try.ntmps17 rfl (e := [(0, _)]) rfl hw (jp ?_)
  refine jH rfl rfl (fun b h3 => ?_)
  refine jc rfl rfl rfl (fun _ _ => qj rfl) (jm rfl rfl (jm rfl rfl (j1 (kG [_, _] 0 Try.isAgg28 Try.sizeOf28 rfl rfl rfl rfl ?_))))
  obtain ⟨t11, h4, hm⟩ := bindO hm
  rcases t11 with t11a | t11b
  ·replace hm := ocL hm
   refine jd [] [] rfl rfl rfl rfl rfl rfl rfl Try.call65 (fun w hh => kL s0 qa0 na0 ca0 qa1 na1 ca1 w (HV.callee (S0 := []) (vs0 := []) hh (roR hh 0 rfl (roR hh 1 rfl roN))) hna0 hqa0 hla0 hna1 hqa1 hla1 h4) (fun l h5 => ?_)
   have h6 := h5
   refine jf rfl rfl (kj rfl rfl rfl (kj rfl rfl rfl (jm rfl rfl (jm rfl rfl (jo (jj (jp ?_)))))))
   refine jf rfl rfl (jc rfl rfl rfl (fun _ _ => Ym h6 rfl rfl) (jo (yl rfl rfl (jp (jf rfl rfl (jc rfl rfl rfl (fun _ _ => qj rfl) (jm rfl rfl ?_)))))))
   refine jm rfl rfl (jo (jw (je (kr 32 ?_))))
   obtain rfl := sj hm
   refine jn rfl (fun w hh => (.tmp rfl (.tmp rfl (.tmp rfl .nil)))) (fun w hh => ⟨⟨⟨none, 0, 0, []⟩, []⟩, rfl, ⟨VOK.nil, DOK.nil⟩, hh.se [] [0] 2 rfl rfl rfl rfl⟩)
  ·replace hm := ocR hm
   refine jd [] [] rfl rfl rfl rfl rfl rfl rfl Try.call65 (fun w hh => kL s0 qa0 na0 ca0 qa1 na1 ca1 w (HV.callee (S0 := []) (vs0 := []) hh (roR hh 0 rfl (roR hh 1 rfl roN))) hna0 hqa0 hla0 hna1 hqa1 hla1 h4) (fun l_1 h7 => ?_)
   refine jS (S' := [_, _, _]) (vs' := []) [0, 1, 2] [] 0 rfl rfl rfl rfl (jf rfl rfl (kj rfl rfl rfl (kj rfl rfl rfl (jm rfl rfl (jm rfl rfl (jo (jj ?_)))))))
   refine jp (jf rfl rfl (jc rfl rfl rfl (fun _ _ => kv rfl rfl) (jo (qO rfl rfl (jr (jb (jp ?_)))))))
   refine jf rfl rfl (jf rfl rfl ?_)
   obtain ⟨t20, h8, hm⟩ := bindO hm
   refine jd [] [] rfl rfl rfl rfl rfl rfl rfl Try.call67 (fun w hh => QP s0.strips s0.carried l_1.1 qa0 na0 ca0 qa1 na1 ca1 (.map (some l_1.2)) w (HV.callee (S0 := []) (vs0 := []) hh (roC (bsep (hh.bseg 0 rfl)) (roR hh 0 rfl (roR hh 1 rfl roN)))) hna0 hqa0 hla0 hna1 hqa1 hla1 h8) (fun l_2 h9 => ?_)
   refine jS (S' := [_, _, _, _]) (vs' := []) [0, 1, 2, 3] [] 0 rfl rfl rfl rfl ?_
   obtain ⟨t21, h10, hm⟩ := bindO hm
   rcases t21 with t21a | t21b
   ·replace hm := ocL hm
    refine jS (S' := [_, _, _, _]) (vs' := []) [2, 0, 1, 3] [] 0 rfl rfl rfl rfl ?_
    refine jd [_] [] rfl rfl rfl rfl rfl rfl rfl Try.call66 (fun w hh => j4 s0.strips s0.carried t11b (fun p : Pair => jP p s0.strips s0.carried) l_1.1 qa0 na0 ca0 qa1 na1 ca1 l_1.2 122 (#[]) (#[ptr l_2 0]) ([(l_2, 0, [.func (.func 97) #[ptr l_1.1 0] #[]]), (l_1.1, 0, [.slice qa0 na0 ca0, .slice qa1 na1 ca1, .map (some l_1.2)]), (aB qa0, aO qa0, RSt.enc s0.strips), (aB qa1, aO qa1, RSp.enc s0.carried)]) w (HV.callee (S0 := [_]) (vs0 := []) hh (roA (roC (hh.bsepH 1 rfl) (roR hh 0 rfl (roR hh 1 rfl roN))) (roC (hh.bsepH 0 rfl) (roC (hh.bsepH 1 rfl) (roR hh 0 rfl (roR hh 1 rfl roN)))))) hna0 hqa0 hla0 hna1 hqa1 hla1 (⟨fun a w => Try.call122 a w, (fun p r hr w hT => clRet (zt p s0.strips s0.carried l_2 l_1.1 qa0 na0 ca0 qa1 na1 ca1 (.map (some l_1.2)) w (HVstart hT) hna0 hqa0 hla0 hna1 hqa1 hla1 hr))⟩ : ClOK Try.prog 122 #[] #[ptr l_2 0] ([(l_2, 0, [.func (.func 97) #[ptr l_1.1 0] #[]]), (l_1.1, 0, [.slice qa0 na0 ca0, .slice qa1 na1 ca1, .map (some l_1.2)]), (aB qa0, aO qa0, RSt.enc s0.strips), (aB qa1, aO qa1, RSp.enc s0.carried)]) (fun x : Pair => [.agg #[.int .i64 x.tenant, .int .i64 x.strip]]) (fun x : Int => .int .i64 x) (fun p : Pair => jP p s0.strips s0.carried)) h10) (fun l_3 h11 => ?_)
    have h12 := h11
    refine jS (S' := [_, _, _, _]) (vs' := [_]) [0, 1, 2, 3] [0] 0 rfl rfl rfl rfl (jf rfl rfl (kj rfl rfl rfl (kj rfl rfl rfl ?_)))
    refine jt (fun w => Try.zeroValue61 w) rfl (fun b_1 h13 => ?_)
    refine jm rfl rfl (jE (us := #[_, _]) (cs' := [_, _]) (S' := [_, _, _, _, _]) 0 (fun w => Try.sizeOf61 w) rfl rfl rfl rfl rfl rfl rfl (jo (jj (jp (jf rfl rfl (jc rfl rfl rfl (fun w _ => JS (Try.runUnderlying118 w) rfl rfl) (jo ?_)))))))
    refine yl rfl rfl (jp (jc rfl rfl rfl (fun _ _ => qj rfl) (jm rfl rfl (jm rfl rfl (jo (jw (je ?_)))))))
    refine kr 32 ?_
    obtain rfl := sj hm
    refine jn rfl (fun w hh => (.tmp rfl (.tmp rfl (.tmp rfl .nil)))) (fun w hh => ⟨⟨⟨none, 0, 0, []⟩, []⟩, rfl, ⟨VOK.nil, DOK.nil⟩, hh.se [] [0] 2 rfl rfl rfl rfl⟩)
   ·replace hm := ocR hm
    refine jS (S' := [_, _, _, _]) (vs' := []) [2, 0, 1, 3] [] 0 rfl rfl rfl rfl ?_
    refine jd [_] [] rfl rfl rfl rfl rfl rfl rfl Try.call66 (fun w hh => j4 s0.strips s0.carried t11b (fun p : Pair => jP p s0.strips s0.carried) l_1.1 qa0 na0 ca0 qa1 na1 ca1 l_1.2 122 (#[]) (#[ptr l_2 0]) ([(l_2, 0, [.func (.func 97) #[ptr l_1.1 0] #[]]), (l_1.1, 0, [.slice qa0 na0 ca0, .slice qa1 na1 ca1, .map (some l_1.2)]), (aB qa0, aO qa0, RSt.enc s0.strips), (aB qa1, aO qa1, RSp.enc s0.carried)]) w (HV.callee (S0 := [_]) (vs0 := []) hh (roA (roC (hh.bsepH 1 rfl) (roR hh 0 rfl (roR hh 1 rfl roN))) (roC (hh.bsepH 0 rfl) (roC (hh.bsepH 1 rfl) (roR hh 0 rfl (roR hh 1 rfl roN)))))) hna0 hqa0 hla0 hna1 hqa1 hla1 (⟨fun a w => Try.call122 a w, (fun p r hr w hT => clRet (zt p s0.strips s0.carried l_2 l_1.1 qa0 na0 ca0 qa1 na1 ca1 (.map (some l_1.2)) w (HVstart hT) hna0 hqa0 hla0 hna1 hqa1 hla1 hr))⟩ : ClOK Try.prog 122 #[] #[ptr l_2 0] ([(l_2, 0, [.func (.func 97) #[ptr l_1.1 0] #[]]), (l_1.1, 0, [.slice qa0 na0 ca0, .slice qa1 na1 ca1, .map (some l_1.2)]), (aB qa0, aO qa0, RSt.enc s0.strips), (aB qa1, aO qa1, RSp.enc s0.carried)]) (fun x : Pair => [.agg #[.int .i64 x.tenant, .int .i64 x.strip]]) (fun x : Int => .int .i64 x) (fun p : Pair => jP p s0.strips s0.carried)) h10) (fun l_4 h14 => ?_)
    obtain ⟨h15, h16⟩ := h14
    refine jS (S' := [_, _, _, _, _]) (vs' := [_, _]) [0, 1, 2, 3, 4] [0, 1] 0 rfl rfl rfl rfl (jf rfl rfl (kj rfl rfl rfl (kj rfl rfl rfl ?_)))
    refine jt (fun w => Try.zeroValue61 w) rfl (fun b_2 h17 => ?_)
    refine jm rfl rfl (jE (us := #[_, _]) (cs' := [_, _]) (S' := [_, _, _, _, _, _]) 0 (fun w => Try.sizeOf61 w) rfl rfl rfl rfl rfl rfl rfl (jo (jj (jp (jf rfl rfl (jc rfl rfl rfl (fun w _ => JS (Try.runUnderlying118 w) rfl rfl) (jo ?_)))))))
    refine qO rfl rfl (jr (jb (jp (jf rfl rfl (jf rfl rfl ?_)))))
    obtain ⟨t28, h18, hm⟩ := bindO hm
    refine jd [] [] rfl rfl rfl rfl rfl rfl rfl Try.call68 (fun w hh => Yt t21b.t12 s0.strips s0.carried l_4.1 (qA l_4.2.2.q) l_4.2.2.n l_4.2.2.cap l_1.1 qa0 na0 ca0 qa1 na1 ca1 (.map (some l_1.2)) w (HV.callee (S0 := []) (vs0 := []) hh (roC (bsep (hh.bseg 2 rfl)) (roC (hh.vsepA 1 rfl h16) (roC (bsep (hh.bseg 4 rfl)) (roR hh 0 rfl (roR hh 1 rfl roN)))))) (vlen RWay h16 rfl) (AOK.q (vne h16)) (h16).hle hna0 hqa0 hla0 hna1 hqa1 hla1 h18) (fun l_5 h19 => ?_)
    obtain ⟨h20, h21⟩ := h19
    refine jS (S' := [_, _, _, _, _, _]) (vs' := [_, _, _]) [0, 1, 2, 3, 4, 5] [0, 1, 2] 0 rfl rfl rfl rfl (jf rfl rfl ?_)
    obtain ⟨t30, h22, hm⟩ := bindO hm
    refine jd [] [] rfl rfl rfl rfl rfl rfl rfl Try.call69 (fun w hh => Qe t21b.t12 l_4.1 (qA l_4.2.2.q) l_4.2.2.n l_4.2.2.cap w (HV.callee (S0 := []) (vs0 := []) hh (roC (bsep (hh.bseg 2 rfl)) (roC (hh.vsepA 2 rfl h16) roN))) (vlen RWay h16 rfl) (AOK.q (vne h16)) (h16).hle h22) (fun l_6 h23 => ?_)
    refine jm rfl rfl (jm rfl rfl (jm rfl rfl (jo (jw ?_))))
    obtain rfl := sj hm
    refine jn rfl (fun w hh => (.tmp rfl (.tmp rfl (.tmp rfl .nil)))) (fun w hh => ⟨l_5, rfl, ⟨h20, h21⟩, hh.se [] [0] 2 rfl rfl rfl rfl⟩)
def yK (p0 : Pair) (a110 : (Pair → Option Int)) : Option Int :=
 (a110 p0).bind fun t7 =>
 (negc t7).bind fun t8 =>
 some t8
theorem YQ (p0 : Pair) (a110 : (Pair → Option Int)) (rb : Nat) (f_a110 : FuncId) (fs_a110 cs_a110 : Array Value) (T_a110 : List Sg) (w : World) (hw : HV w (keys [] []) [] [] ([(rb, 0, [.func (.func f_a110) fs_a110 cs_a110])] ++ T_a110) w)  (hcl_a110 : ClOK Try.prog f_a110 fs_a110 cs_a110 T_a110 (fun x : Pair => [.agg #[.int .i64 x.tenant, .int .i64 x.strip]]) (fun x : Int => .int .i64 x) a110) {res : Int} (hm : yK p0 a110 = some res) :
    Calls Try.prog 70 #[.agg #[.int .i64 p0.tenant, .int .i64 p0.strip], ptr rb 0] w (fun en w' => ∃ l : Unit, en = .returned (.int .i64 res) ∧ (True) ∧ HV w (keys [] []) [] [] [] w') := by
  unfold yK at hm
  refine kb Try.func70 rfl Try.ntmps70 rfl (e := [(0, _), (1, _)]) rfl hw (jp ?_)
  refine jH rfl rfl (fun b h1 => ?_)
  refine jm rfl rfl (j1 (jL 0 Try.runUnderlying123 rfl Try.sizeOf121 rfl rfl (jc rfl rfl rfl (fun w hh => jY (Try.isAgg121 w) rfl (segCell (hh.seg 0 rfl) 0 rfl)) (kG [_, _] 0 Try.isAgg128 Try.sizeOf128 rfl rfl rfl rfl ?_))))
  obtain ⟨t7, h2, hm⟩ := bindO hm
  refine Y3 hcl_a110 (fun t ht => (List.mem_cons_of_mem _ ht)) h2 rfl rfl rfl rfl rfl rfl ?_
  obtain ⟨t8, h3, hm⟩ := bindO hm
  refine jc rfl rfl rfl (fun _ _ => Zf h3 rfl) (jm rfl rfl (jo (jw ?_)))
  obtain rfl := sj hm
  refine jn rfl (fun w hh => (.tmp rfl .nil)) (fun w hh => ⟨(), rfl, trivial, hh.selN [] [] (by decide) (by decide) rfl rfl⟩)
structure J6 where
  r1 : Int
  r2 : Int
  r0 : (List (List Int))
def Js (s0 : Scalps) : Option J6 :=
 (ks s0).bind fun t12 =>
 oc t12 (fun t12a => some (⟨0, t12a, ([] : List (List Int))⟩ : J6)) (fun t12b => (JB s0.strips s0.carried).bind fun t19 =>
 (j0 s0.strips s0.carried t12b (fun p : Pair => yK p (fun p_1 : Pair => jP p_1 s0.strips s0.carried))).bind fun t24 =>
 oc t24 (fun t24a => some (⟨0, 7, ([] : List (List Int))⟩ : J6)) (fun t24b => (qU t24b.t12 s0.strips s0.carried).bind fun t31 =>
 (yp t24b.t12).bind fun t33 =>
 (negc t33).bind fun t34 =>
 some (⟨t34, 0, t31⟩ : J6)))
theorem ZK (s0 : Scalps) (qa0 : Option Addr) (na0 ca0 : Nat) (qa1 : Option Addr) (na1 ca1 : Nat) (w : World) (hw : HV w (keys [] []) [] [] [(aB qa0, aO qa0, RSt.enc s0.strips), (aB qa1, aO qa1, RSp.enc s0.carried)] w) (hna0 : s0.strips.length = na0) (hqa0 : AOK na0 qa0) (hla0 : na0 ≤ ca0) (hna1 : s0.carried.length = na1) (hqa1 : AOK na1 qa1) (hla1 : na1 ≤ ca1) {res : J6} (hm : Js s0 = some res) :
    Calls Try.prog 18 #[.agg #[.slice qa0 na0 ca0, .slice qa1 na1 ca1]] w (fun en w' => ∃ l : DL, en = .returned (.tuple #[slv l.v.q l.v.n l.v.cap, .int .i64 res.r1, .int .i64 res.r2]) ∧ (VOK 1 l.v.n l.v.cap (RwH.enc l.rs) l.v.sp l.v.q ∧ DOK RI res.r0 l.rs) ∧ HV w (keys [] []) [] [⟨32, RwH.enc l.rs, l.v.sp, l.v.q, dbl 3 RI res.r0 l.rs⟩] [] w') := by
  unfold Js at hm
  refine kb Try.func18 rfl Try.ntmps18 rfl (e := [(0, _)]) rfl hw (jp ?_)
  refine jH rfl rfl (fun b h3 => ?_)
  refine jc rfl rfl rfl (fun _ _ => qj rfl) (jm rfl rfl (jm rfl rfl (j1 (kG [_, _] 0 Try.isAgg28 Try.sizeOf28 rfl rfl rfl rfl ?_))))
  obtain ⟨t12, h4, hm⟩ := bindO hm
  rcases t12 with t12a | t12b
  ·replace hm := ocL hm
   refine jd [] [] rfl rfl rfl rfl rfl rfl rfl Try.call65 (fun w hh => kL s0 qa0 na0 ca0 qa1 na1 ca1 w (HV.callee (S0 := []) (vs0 := []) hh (roR hh 0 rfl (roR hh 1 rfl roN))) hna0 hqa0 hla0 hna1 hqa1 hla1 h4) (fun l h5 => ?_)
   have h6 := h5
   refine jf rfl rfl (kj rfl rfl rfl (kj rfl rfl rfl (jm rfl rfl (jm rfl rfl (jo (jj (jp ?_)))))))
   refine jf rfl rfl (jc rfl rfl rfl (fun _ _ => Ym h6 rfl rfl) (jo (yl rfl rfl (jp (jf rfl rfl (jc rfl rfl rfl (fun _ _ => qj rfl) (jm rfl rfl ?_)))))))
   refine jm rfl rfl (jo (jw (je (kr 32 ?_))))
   obtain rfl := sj hm
   refine jn rfl (fun w hh => (.tmp rfl (.tmp rfl (.tmp rfl .nil)))) (fun w hh => ⟨⟨⟨none, 0, 0, []⟩, []⟩, rfl, ⟨VOK.nil, DOK.nil⟩, hh.se [] [0] 2 rfl rfl rfl rfl⟩)
  ·replace hm := ocR hm
   refine jd [] [] rfl rfl rfl rfl rfl rfl rfl Try.call65 (fun w hh => kL s0 qa0 na0 ca0 qa1 na1 ca1 w (HV.callee (S0 := []) (vs0 := []) hh (roR hh 0 rfl (roR hh 1 rfl roN))) hna0 hqa0 hla0 hna1 hqa1 hla1 h4) (fun l_1 h7 => ?_)
   refine jS (S' := [_, _, _]) (vs' := []) [0, 1, 2] [] 0 rfl rfl rfl rfl (jf rfl rfl (kj rfl rfl rfl (kj rfl rfl rfl (jm rfl rfl (jm rfl rfl (jo (jj ?_)))))))
   refine jp (jf rfl rfl (jc rfl rfl rfl (fun _ _ => kv rfl rfl) (jo (qO rfl rfl (jr (jb (jp ?_)))))))
   refine jf rfl rfl ?_
   obtain ⟨t19, h8, hm⟩ := bindO hm
   refine jd [] [] rfl rfl rfl rfl rfl rfl rfl Try.call67 (fun w hh => QP s0.strips s0.carried l_1.1 qa0 na0 ca0 qa1 na1 ca1 (.map (some l_1.2)) w (HV.callee (S0 := []) (vs0 := []) hh (roC (bsep (hh.bseg 0 rfl)) (roR hh 0 rfl (roR hh 1 rfl roN)))) hna0 hqa0 hla0 hna1 hqa1 hla1 h8) (fun l_2 h9 => ?_)
   refine jS (S' := [_, _, _, _]) (vs' := []) [0, 1, 2, 3] [] 0 rfl rfl rfl rfl ?_
   refine jt (fun w => Try.zeroValue123 w) rfl (fun b_1 h10 => ?_)
   refine jE (us := #[_]) (cs' := [_]) (S' := [_, _, _, _, _]) 0 (fun w => Try.sizeOf123 w) rfl rfl rfl rfl rfl rfl rfl (j1 (jf rfl rfl (jc rfl rfl rfl (fun _ _ => jQ (u := #[]) (u' := #[_]) rfl rfl) (jc rfl rfl rfl (fun _ _ => jG (vs := [(0, _)]) (cells := [_]) rfl rfl) ?_))))
   obtain ⟨t24, h11, hm⟩ := bindO hm
   rcases t24 with t24a | t24b
   ·replace hm := ocL hm
    refine jS (S' := [_, _, _, _, _]) (vs' := []) [3, 0, 1, 2, 4] [] 0 rfl rfl rfl rfl ?_
    refine jd [_] [] rfl rfl rfl rfl rfl rfl rfl Try.call66 (fun w hh => j4 s0.strips s0.carried t12b (fun p : Pair => yK p (fun p_1 : Pair => jP p_1 s0.strips s0.carried)) l_1.1 qa0 na0 ca0 qa1 na1 ca1 l_1.2 70 (#[]) (#[ptr b_1 0]) ([(b_1, 0, [.func (.func 122) #[] #[ptr l_2 0]])] ++ [(l_2, 0, [.func (.func 97) #[ptr l_1.1 0] #[]]), (l_1.1, 0, [.slice qa0 na0 ca0, .slice qa1 na1 ca1, .map (some l_1.2)]), (aB qa0, aO qa0, RSt.enc s0.strips), (aB qa1, aO qa1, RSp.enc s0.carried)]) w (HV.callee (S0 := [_]) (vs0 := []) hh (roA (roC (hh.bsepH 2 rfl) (roR hh 0 rfl (roR hh 1 rfl roN))) (roA (roC (hh.bsepH 0 rfl) roN) (roC (hh.bsepH 1 rfl) (roC (hh.bsepH 2 rfl) (roR hh 0 rfl (roR hh 1 rfl roN))))))) hna0 hqa0 hla0 hna1 hqa1 hla1 (⟨fun a w => Try.call70 a w, (fun p r hr w hT => clRet (YQ p (fun p_1 : Pair => jP p_1 s0.strips s0.carried) b_1 122 (#[]) (#[ptr l_2 0]) ([(l_2, 0, [.func (.func 97) #[ptr l_1.1 0] #[]]), (l_1.1, 0, [.slice qa0 na0 ca0, .slice qa1 na1 ca1, .map (some l_1.2)]), (aB qa0, aO qa0, RSt.enc s0.strips), (aB qa1, aO qa1, RSp.enc s0.carried)]) w (HVstart hT) (⟨fun a w => Try.call122 a w, (fun p_1 r hr w hT => clRet (zt p_1 s0.strips s0.carried l_2 l_1.1 qa0 na0 ca0 qa1 na1 ca1 (.map (some l_1.2)) w (HVstart hT) hna0 hqa0 hla0 hna1 hqa1 hla1 hr))⟩ : ClOK Try.prog 122 #[] #[ptr l_2 0] ([(l_2, 0, [.func (.func 97) #[ptr l_1.1 0] #[]]), (l_1.1, 0, [.slice qa0 na0 ca0, .slice qa1 na1 ca1, .map (some l_1.2)]), (aB qa0, aO qa0, RSt.enc s0.strips), (aB qa1, aO qa1, RSp.enc s0.carried)]) (fun x : Pair => [.agg #[.int .i64 x.tenant, .int .i64 x.strip]]) (fun x : Int => .int .i64 x) (fun p_1 : Pair => jP p_1 s0.strips s0.carried)) hr))⟩ : ClOK Try.prog 70 #[] #[ptr b_1 0] ([(b_1, 0, [.func (.func 122) #[] #[ptr l_2 0]])] ++ [(l_2, 0, [.func (.func 97) #[ptr l_1.1 0] #[]]), (l_1.1, 0, [.slice qa0 na0 ca0, .slice qa1 na1 ca1, .map (some l_1.2)]), (aB qa0, aO qa0, RSt.enc s0.strips), (aB qa1, aO qa1, RSp.enc s0.carried)]) (fun x : Pair => [.agg #[.int .i64 x.tenant, .int .i64 x.strip]]) (fun x : Int => .int .i64 x) (fun p : Pair => yK p (fun p_1 : Pair => jP p_1 s0.strips s0.carried))) h11) (fun l_3 h12 => ?_)
    have h13 := h12
    refine jS (S' := [_, _, _, _, _]) (vs' := [_]) [0, 1, 2, 3, 4] [0] 0 rfl rfl rfl rfl (jf rfl rfl (kj rfl rfl rfl (kj rfl rfl rfl ?_)))
    refine jt (fun w => Try.zeroValue61 w) rfl (fun b_2 h14 => ?_)
    refine jm rfl rfl (jE (us := #[_, _]) (cs' := [_, _]) (S' := [_, _, _, _, _, _]) 0 (fun w => Try.sizeOf61 w) rfl rfl rfl rfl rfl rfl rfl (jo (jj (jp (jf rfl rfl (jc rfl rfl rfl (fun w _ => JS (Try.runUnderlying118 w) rfl rfl) (jo ?_)))))))
    refine yl rfl rfl (jp (jc rfl rfl rfl (fun _ _ => qj rfl) (jm rfl rfl (jm rfl rfl (jo (jw (je ?_)))))))
    refine kr 32 ?_
    obtain rfl := sj hm
    refine jn rfl (fun w hh => (.tmp rfl (.tmp rfl (.tmp rfl .nil)))) (fun w hh => ⟨⟨⟨none, 0, 0, []⟩, []⟩, rfl, ⟨VOK.nil, DOK.nil⟩, hh.se [] [0] 2 rfl rfl rfl rfl⟩)
   ·replace hm := ocR hm
    refine jS (S' := [_, _, _, _, _]) (vs' := []) [3, 0, 1, 2, 4] [] 0 rfl rfl rfl rfl ?_
    refine jd [_] [] rfl rfl rfl rfl rfl rfl rfl Try.call66 (fun w hh => j4 s0.strips s0.carried t12b (fun p : Pair => yK p (fun p_1 : Pair => jP p_1 s0.strips s0.carried)) l_1.1 qa0 na0 ca0 qa1 na1 ca1 l_1.2 70 (#[]) (#[ptr b_1 0]) ([(b_1, 0, [.func (.func 122) #[] #[ptr l_2 0]])] ++ [(l_2, 0, [.func (.func 97) #[ptr l_1.1 0] #[]]), (l_1.1, 0, [.slice qa0 na0 ca0, .slice qa1 na1 ca1, .map (some l_1.2)]), (aB qa0, aO qa0, RSt.enc s0.strips), (aB qa1, aO qa1, RSp.enc s0.carried)]) w (HV.callee (S0 := [_]) (vs0 := []) hh (roA (roC (hh.bsepH 2 rfl) (roR hh 0 rfl (roR hh 1 rfl roN))) (roA (roC (hh.bsepH 0 rfl) roN) (roC (hh.bsepH 1 rfl) (roC (hh.bsepH 2 rfl) (roR hh 0 rfl (roR hh 1 rfl roN))))))) hna0 hqa0 hla0 hna1 hqa1 hla1 (⟨fun a w => Try.call70 a w, (fun p r hr w hT => clRet (YQ p (fun p_1 : Pair => jP p_1 s0.strips s0.carried) b_1 122 (#[]) (#[ptr l_2 0]) ([(l_2, 0, [.func (.func 97) #[ptr l_1.1 0] #[]]), (l_1.1, 0, [.slice qa0 na0 ca0, .slice qa1 na1 ca1, .map (some l_1.2)]), (aB qa0, aO qa0, RSt.enc s0.strips), (aB qa1, aO qa1, RSp.enc s0.carried)]) w (HVstart hT) (⟨fun a w => Try.call122 a w, (fun p_1 r hr w hT => clRet (zt p_1 s0.strips s0.carried l_2 l_1.1 qa0 na0 ca0 qa1 na1 ca1 (.map (some l_1.2)) w (HVstart hT) hna0 hqa0 hla0 hna1 hqa1 hla1 hr))⟩ : ClOK Try.prog 122 #[] #[ptr l_2 0] ([(l_2, 0, [.func (.func 97) #[ptr l_1.1 0] #[]]), (l_1.1, 0, [.slice qa0 na0 ca0, .slice qa1 na1 ca1, .map (some l_1.2)]), (aB qa0, aO qa0, RSt.enc s0.strips), (aB qa1, aO qa1, RSp.enc s0.carried)]) (fun x : Pair => [.agg #[.int .i64 x.tenant, .int .i64 x.strip]]) (fun x : Int => .int .i64 x) (fun p_1 : Pair => jP p_1 s0.strips s0.carried)) hr))⟩ : ClOK Try.prog 70 #[] #[ptr b_1 0] ([(b_1, 0, [.func (.func 122) #[] #[ptr l_2 0]])] ++ [(l_2, 0, [.func (.func 97) #[ptr l_1.1 0] #[]]), (l_1.1, 0, [.slice qa0 na0 ca0, .slice qa1 na1 ca1, .map (some l_1.2)]), (aB qa0, aO qa0, RSt.enc s0.strips), (aB qa1, aO qa1, RSp.enc s0.carried)]) (fun x : Pair => [.agg #[.int .i64 x.tenant, .int .i64 x.strip]]) (fun x : Int => .int .i64 x) (fun p : Pair => yK p (fun p_1 : Pair => jP p_1 s0.strips s0.carried))) h11) (fun l_4 h15 => ?_)
    obtain ⟨h16, h17⟩ := h15
    refine jS (S' := [_, _, _, _, _, _]) (vs' := [_, _]) [0, 1, 2, 3, 4, 5] [0, 1] 0 rfl rfl rfl rfl (jf rfl rfl (kj rfl rfl rfl (kj rfl rfl rfl ?_)))
    refine jt (fun w => Try.zeroValue61 w) rfl (fun b_3 h18 => ?_)
    refine jm rfl rfl (jE (us := #[_, _]) (cs' := [_, _]) (S' := [_, _, _, _, _, _, _]) 0 (fun w => Try.sizeOf61 w) rfl rfl rfl rfl rfl rfl rfl (jo (jj (jp (jf rfl rfl (jc rfl rfl rfl (fun w _ => JS (Try.runUnderlying118 w) rfl rfl) (jo ?_)))))))
    refine qO rfl rfl (jr (jb (jp (jf rfl rfl (jf rfl rfl ?_)))))
    obtain ⟨t31, h19, hm⟩ := bindO hm
    refine jd [] [] rfl rfl rfl rfl rfl rfl rfl Try.call68 (fun w hh => Yt t24b.t12 s0.strips s0.carried l_4.1 (qA l_4.2.2.q) l_4.2.2.n l_4.2.2.cap l_1.1 qa0 na0 ca0 qa1 na1 ca1 (.map (some l_1.2)) w (HV.callee (S0 := []) (vs0 := []) hh (roC (bsep (hh.bseg 2 rfl)) (roC (hh.vsepA 1 rfl h17) (roC (bsep (hh.bseg 5 rfl)) (roR hh 0 rfl (roR hh 1 rfl roN)))))) (vlen RWay h17 rfl) (AOK.q (vne h17)) (h17).hle hna0 hqa0 hla0 hna1 hqa1 hla1 h19) (fun l_5 h20 => ?_)
    obtain ⟨h21, h22⟩ := h20
    refine jS (S' := [_, _, _, _, _, _, _]) (vs' := [_, _, _]) [0, 1, 2, 3, 4, 5, 6] [0, 1, 2] 0 rfl rfl rfl rfl (jf rfl rfl ?_)
    obtain ⟨t33, h23, hm⟩ := bindO hm
    refine jd [] [] rfl rfl rfl rfl rfl rfl rfl Try.call69 (fun w hh => Qe t24b.t12 l_4.1 (qA l_4.2.2.q) l_4.2.2.n l_4.2.2.cap w (HV.callee (S0 := []) (vs0 := []) hh (roC (bsep (hh.bseg 2 rfl)) (roC (hh.vsepA 2 rfl h17) roN))) (vlen RWay h17 rfl) (AOK.q (vne h17)) (h17).hle h23) (fun l_6 h24 => ?_)
    obtain ⟨t34, h25, hm⟩ := bindO hm
    refine jc rfl rfl rfl (fun _ _ => Zf h25 rfl) (jm rfl rfl (jm rfl rfl (jm rfl rfl (jo (jw ?_)))))
    obtain rfl := sj hm
    refine jn rfl (fun w hh => (.tmp rfl (.tmp rfl (.tmp rfl .nil)))) (fun w hh => ⟨l_5, rfl, ⟨h21, h22⟩, hh.se [] [0] 2 rfl rfl rfl rfl⟩)
def Q0 (holds0_c0 : Int) (holds0_c10 : (List Strip)) (holds0_c11 : (List Span)) : Option Unit :=
 some ()
theorem YJ (holds0_c0 : Int) (holds0_c10 : (List Strip)) (holds0_c11 : (List Span)) (rb : Nat) (rb_1 : Nat) (rb_2 : Nat) (qa3 : Option Addr) (na3 ca3 : Nat) (qa4 : Option Addr) (na4 ca4 : Nat) (mv : Value) (w : World) (hw : HV w (keys [] []) [] [] [(rb, 0, [.int .i64 holds0_c0]), (rb_1, 0, [ptr rb_2 0]), (rb_2, 0, [.slice qa3 na3 ca3, .slice qa4 na4 ca4, mv]), (aB qa3, aO qa3, RSt.enc holds0_c10), (aB qa4, aO qa4, RSp.enc holds0_c11)] w)    (hna3 : holds0_c10.length = na3) (hqa3 : AOK na3 qa3) (hla3 : na3 ≤ ca3) (hna4 : holds0_c11.length = na4) (hqa4 : AOK na4 qa4) (hla4 : na4 ≤ ca4) {res : Unit} (hm : Q0 holds0_c0 holds0_c10 holds0_c11 = some res) :
    Calls Try.prog 73 #[.func (.func 102) #[] #[ptr rb 0, ptr rb_1 0]] w (fun en w' => ∃ l : Nat, en = .returned (.agg #[.func (.func 122) #[] #[ptr l 0]]) ∧ (True) ∧ HV w (keys [] []) [(l, .cells #[.func (.func 102) #[] #[ptr rb 0, ptr rb_1 0]] 131 (0, 0))] [] [] w') := by
  unfold Q0 at hm
  refine kb Try.func73 rfl Try.ntmps73 rfl (e := [(0, _)]) rfl hw (jp ?_)
  refine jH rfl rfl (fun b h1 => ?_)
  refine jt (fun w => Try.zeroValue123 w) rfl (fun b_1 h2 => ?_)
  refine j1 (jc rfl rfl rfl (fun _ _ => jQ (u := #[]) (u' := #[_]) rfl rfl) (jc rfl rfl rfl (fun _ _ => jG (vs := [(0, _)]) (cells := [_]) rfl rfl) (jE (us := #[_]) (cs' := [_]) (S' := [_, _]) 0 (fun w => Try.sizeOf123 w) rfl rfl rfl rfl rfl rfl rfl (jo (jw ?_)))))
  obtain rfl := sj hm
  refine jn rfl (fun w hh => (.cell rfl (loadVar_agg (vs := [_]) (Try.isAgg123 _) (Try.sizeOf123 _) (hh.cells 0 rfl rfl)) .nil)) (fun w hh => ⟨b, rfl, trivial, hh.se [1] [] 5 rfl rfl rfl rfl⟩)
def J3 (p0 : Pair) (a11 : Int) (a220 : (List Strip)) (a221 : (List Span)) : Option Bool :=
 (if p0.tenant = a11 then
 ((Jw a220 a221 p0).bind fun t12 =>
 some t12) else
 (some false)).bind fun o =>
 some o
theorem Yz (p0 : Pair) (a11 : Int) (a220 : (List Strip)) (a221 : (List Span)) (rb : Nat) (rb_1 : Nat) (rb_2 : Nat) (qa3 : Option Addr) (na3 ca3 : Nat) (qa4 : Option Addr) (na4 ca4 : Nat) (mv : Value) (w : World) (hw : HV w (keys [] []) [] [] [(rb, 0, [.int .i64 a11]), (rb_1, 0, [ptr rb_2 0]), (rb_2, 0, [.slice qa3 na3 ca3, .slice qa4 na4 ca4, mv]), (aB qa3, aO qa3, RSt.enc a220), (aB qa4, aO qa4, RSp.enc a221)] w)    (hna3 : a220.length = na3) (hqa3 : AOK na3 qa3) (hla3 : na3 ≤ ca3) (hna4 : a221.length = na4) (hqa4 : AOK na4 qa4) (hla4 : na4 ≤ ca4) {res : Bool} (hm : J3 p0 a11 a220 a221 = some res) :
    Calls Try.prog 102 #[.agg #[.int .i64 p0.tenant, .int .i64 p0.strip], ptr rb 0, ptr rb_1 0] w (fun en w' => ∃ l : Unit, en = .returned (.bool res) ∧ (True) ∧ HV w (keys [] []) [] [] [] w') := by
  unfold J3 at hm
  refine kb Try.func102 rfl Try.ntmps102 rfl (e := [(0, _), (1, _), (2, _)]) rfl hw (jp ?_)
  refine jH rfl rfl (fun b h1 => ?_)
  refine jm rfl rfl (jo (jj ?_))
  obtain ⟨o, h2, h3⟩ := bindO hm
  refine jC (ι := Unit) (fun l => True) (fun l => [(4, .bool o)]) (fun l => [(b, .cells #[.int .i64 p0.tenant, .int .i64 p0.strip] 128 (0, 0))]) (fun l => []) ?_ ?_
  ·replace hm := h2
   refine jh (jL 0 Try.runUnderlying128 rfl Try.sizeOf3 rfl rfl (jU 0 Try.isAgg3 rfl rfl rfl rfl (jc rfl rfl rfl (fun w hh => jY (Try.isAgg3 w) rfl (segCell (hh.seg 0 rfl) 0 rfl)) (jc rfl rfl rfl (fun _ _ => zr rfl rfl) (jf rfl rfl ?_)))))
   refine jD 9 rfl (fun h4 => ?_) (fun h4 => ?_)
   ·replace hm := ifD h4 hm
    refine ja rfl rfl (jc rfl rfl rfl (fun w hh => jY (Try.isAgg115 w) rfl (segCell (hh.seg 1 rfl) 0 rfl)) (ja rfl rfl (kG [_, _] 0 Try.isAgg128 Try.sizeOf128 rfl rfl rfl rfl (ja rfl rfl ?_))))
    obtain ⟨t12, h5, hm⟩ := bindO hm
    refine jd [] [] rfl rfl rfl rfl rfl rfl rfl Try.call97 (fun w hh => YR a220 a221 p0 rb_2 qa3 na3 ca3 qa4 na4 ca4 mv w (HV.callee (S0 := []) (vs0 := []) hh (roR hh 2 rfl (roR hh 3 rfl (roR hh 4 rfl roN)))) hna3 hqa3 hla3 hna4 hqa4 hla4 h5) (fun l_1 h6 => ?_)
    refine j3 rfl rfl rfl (jm rfl rfl (jv ?_))
    obtain rfl := sj hm
    exact jg () (trivial) (sE rfl) (fun w hh => hh)
   ·replace hm := ifE h4 hm
    refine g_k rfl rfl rfl rfl (g_k rfl rfl rfl rfl (g_k rfl rfl rfl rfl (ki rfl rfl rfl (jm rfl rfl (jv ?_)))))
    obtain rfl := sj hm
    exact jg () (trivial) (sE rfl) (fun w hh => hh)
  ·intro l hj
   replace hm := h3
   refine jb (jw ?_)
   obtain rfl := sj hm
   refine jn rfl (fun w hh => (.tmp rfl .nil)) (fun w hh => ⟨(), rfl, trivial, hh.se [] [] 5 rfl rfl rfl rfl⟩)
def kN (p0 : Pair) (a11_c0 : Int) (a11_c10 : (List Strip)) (a11_c11 : (List Span)) : Option Int :=
 (J3 p0 a11_c0 a11_c10 a11_c11).bind fun t6 =>
 if t6 = true then
 (some 1) else
 (some 0)
theorem K0 (p0 : Pair) (a11_c0 : Int) (a11_c10 : (List Strip)) (a11_c11 : (List Span)) (rb : Nat) (rb_1 : Nat) (rb_2 : Nat) (rb_3 : Nat) (qa4 : Option Addr) (na4 ca4 : Nat) (qa5 : Option Addr) (na5 ca5 : Nat) (mv : Value) (w : World) (hw : HV w (keys [] []) [] [] [(rb, 0, [.func (.func 102) #[] #[ptr rb_1 0, ptr rb_2 0]]), (rb_1, 0, [.int .i64 a11_c0]), (rb_2, 0, [ptr rb_3 0]), (rb_3, 0, [.slice qa4 na4 ca4, .slice qa5 na5 ca5, mv]), (aB qa4, aO qa4, RSt.enc a11_c10), (aB qa5, aO qa5, RSp.enc a11_c11)] w)     (hna4 : a11_c10.length = na4) (hqa4 : AOK na4 qa4) (hla4 : na4 ≤ ca4) (hna5 : a11_c11.length = na5) (hqa5 : AOK na5 qa5) (hla5 : na5 ≤ ca5) {res : Int} (hm : kN p0 a11_c0 a11_c10 a11_c11 = some res) :
    Calls Try.prog 122 #[.agg #[.int .i64 p0.tenant, .int .i64 p0.strip], ptr rb 0] w (fun en w' => ∃ l : Unit, en = .returned (.int .i64 res) ∧ (True) ∧ HV w (keys [] []) [] [] [] w') := by
  unfold kN at hm
  refine kb Try.func122 rfl Try.ntmps122 rfl (e := [(0, _), (1, _)]) rfl hw (jp ?_)
  refine jH rfl rfl (fun b h1 => ?_)
  refine jm rfl rfl (jo (jj (jp (jc rfl rfl rfl (fun w hh => jY (Try.isAgg131 w) rfl (segCell (hh.seg 0 rfl) 0 rfl)) (kG [_, _] 0 Try.isAgg128 Try.sizeOf128 rfl rfl rfl rfl ?_)))))
  obtain ⟨t6, h2, hm⟩ := bindO hm
  refine jd [] [] rfl rfl rfl rfl rfl rfl rfl Try.call102 (fun w hh => Yz p0 a11_c0 a11_c10 a11_c11 rb_1 rb_2 rb_3 qa4 na4 ca4 qa5 na5 ca5 mv w (HV.callee (S0 := []) (vs0 := []) hh (roR hh 1 rfl (roR hh 2 rfl (roR hh 3 rfl (roR hh 4 rfl (roR hh 5 rfl roN)))))) hna4 hqa4 hla4 hna5 hqa5 hla5 h2) (fun l h3 => ?_)
  refine jo ?_
  refine jq rfl (fun h4 => ?_) (fun h4 => ?_)
  ·replace hm := ifT (h4) hm
   refine jp (jm rfl rfl (jo (jw (je ?_))))
   obtain rfl := sj hm
   refine jn rfl (fun w hh => (.tmp rfl .nil)) (fun w hh => ⟨(), rfl, trivial, hh.se [] [] 6 rfl rfl rfl rfl⟩)
  ·replace hm := ifN h4 hm
   refine jr (jb (jp (jm rfl rfl (jo (jw ?_)))))
   obtain rfl := sj hm
   refine jn rfl (fun w hh => (.tmp rfl .nil)) (fun w hh => ⟨(), rfl, trivial, hh.se [] [] 6 rfl rfl rfl rfl⟩)
def jT (p0 : Pair) (a110 : (Pair → Option Int)) : Option Int :=
 (a110 p0).bind fun t7 =>
 (negc t7).bind fun t8 =>
 some t8
theorem zc (p0 : Pair) (a110 : (Pair → Option Int)) (rb : Nat) (f_a110 : FuncId) (fs_a110 cs_a110 : Array Value) (T_a110 : List Sg) (w : World) (hw : HV w (keys [] []) [] [] ([(rb, 0, [.func (.func f_a110) fs_a110 cs_a110])] ++ T_a110) w)  (hcl_a110 : ClOK Try.prog f_a110 fs_a110 cs_a110 T_a110 (fun x : Pair => [.agg #[.int .i64 x.tenant, .int .i64 x.strip]]) (fun x : Int => .int .i64 x) a110) {res : Int} (hm : jT p0 a110 = some res) :
    Calls Try.prog 121 #[.agg #[.int .i64 p0.tenant, .int .i64 p0.strip], ptr rb 0] w (fun en w' => ∃ l : Unit, en = .returned (.int .i64 res) ∧ (True) ∧ HV w (keys [] []) [] [] [] w') := by
  unfold jT at hm
  refine kb Try.func121 rfl Try.ntmps121 rfl (e := [(0, _), (1, _)]) rfl hw (jp ?_)
  refine jH rfl rfl (fun b h1 => ?_)
  refine jm rfl rfl (j1 (jL 0 Try.runUnderlying123 rfl Try.sizeOf121 rfl rfl (jc rfl rfl rfl (fun w hh => jY (Try.isAgg121 w) rfl (segCell (hh.seg 0 rfl) 0 rfl)) (kG [_, _] 0 Try.isAgg128 Try.sizeOf128 rfl rfl rfl rfl ?_))))
  obtain ⟨t7, h2, hm⟩ := bindO hm
  refine Y3 hcl_a110 (fun t ht => (List.mem_cons_of_mem _ ht)) h2 rfl rfl rfl rfl rfl rfl ?_
  obtain ⟨t8, h3, hm⟩ := bindO hm
  refine jc rfl rfl rfl (fun _ _ => Zf h3 rfl) (jm rfl rfl (jo (jw ?_)))
  obtain rfl := sj hm
  refine jn rfl (fun w hh => (.tmp rfl .nil)) (fun w hh => ⟨(), rfl, trivial, hh.selN [] [] (by decide) (by decide) rfl rfl⟩)
structure qW where
  r0 : Span
  r1 : Int
def q7 (d00 : (List Strip)) (d01 : (List Span)) (d02 : (List (Pair × Bool))) (c1_0 : (Pair → Option Int)) : Option qW :=
 (j0 d00 d01 d02 c1_0).bind fun t13 =>
 oc t13 (fun t13a => (j0 d00 d01 d02 (fun p : Pair => jT p c1_0)).bind fun t20 =>
 oc t20 (fun t20a => some (⟨(⟨0, 0⟩ : Span), 7⟩ : qW)) (fun t20b => some (⟨(⟨0, 0⟩ : Span), 7⟩ : qW))) (fun t13b => (j0 d00 d01 d02 (fun p_1 : Pair => jT p_1 c1_0)).bind fun t20_1 =>
 oc t20_1 (fun t20_1a => (yp t13b.t12).bind fun t27 =>
 none) (fun t20_1b => (yp t13b.t12).bind fun t27_1 =>
 (yp t20_1b.t12).bind fun t29 =>
 (negc t29).bind fun t30 =>
 some (⟨(⟨t27_1, t30⟩ : Span), 0⟩ : qW)))
theorem KI (d00 : (List Strip)) (d01 : (List Span)) (d02 : (List (Pair × Bool))) (c1_0 : (Pair → Option Int)) (rb : Nat) (qa1 : Option Addr) (na1 ca1 : Nat) (qa2 : Option Addr) (na2 ca2 : Nat) (pb : Nat) (f_c1_0 : FuncId) (fs_c1_0 cs_c1_0 : Array Value) (T_c1_0 : List Sg) (w : World) (hw : HV w (keys [(pb, gobj (kR RPr) kB d02)] []) [(pb, gobj (kR RPr) kB d02)] [] ([(rb, 0, [.slice qa1 na1 ca1, .slice qa2 na2 ca2, .map (some pb)]), (aB qa1, aO qa1, RSt.enc d00), (aB qa2, aO qa2, RSp.enc d01)] ++ T_c1_0) w)  (hna1 : d00.length = na1) (hqa1 : AOK na1 qa1) (hla1 : na1 ≤ ca1) (hna2 : d01.length = na2) (hqa2 : AOK na2 qa2) (hla2 : na2 ≤ ca2) (hcl_c1_0 : ClOK Try.prog f_c1_0 fs_c1_0 cs_c1_0 T_c1_0 (fun x : Pair => [.agg #[.int .i64 x.tenant, .int .i64 x.strip]]) (fun x : Int => .int .i64 x) c1_0) {res : qW} (hm : q7 d00 d01 d02 c1_0 = some res) :
    Calls Try.prog 72 #[ptr rb 0, .agg #[.func (.func f_c1_0) fs_c1_0 cs_c1_0]] w (fun en w' => ∃ l : Unit, en = .returned (.tuple #[.agg #[.int .i64 res.r0.lo, .int .i64 res.r0.hi], .int .i64 res.r1]) ∧ (True) ∧ HV w (keys [(pb, gobj (kR RPr) kB d02)] []) [(pb, gobj (kR RPr) kB d02)] [] [] w') := by
  unfold q7 at hm
  refine kb Try.func72 rfl Try.ntmps72 rfl (e := [(0, _), (1, _)]) rfl hw (jp ?_)
  refine jH rfl rfl (fun b h1 => ?_)
  refine jt (fun w => Try.zeroValue37 w) rfl (fun b_1 h2 => ?_)
  refine jm rfl rfl (j1 (jf rfl rfl (kG [_] 1 Try.isAgg123 Try.sizeOf123 rfl rfl rfl rfl ?_)))
  obtain ⟨t13, h3, hm⟩ := bindO hm
  rcases t13 with t13a | t13b
  ·replace hm := ocL hm
   refine jS (S' := [_, _, _]) (vs' := []) [2, 0, 1] [] 0 rfl rfl rfl rfl ?_
   refine jd [_] [] rfl rfl rfl rfl rfl rfl rfl Try.call66 (fun w hh => j4 d00 d01 d02 c1_0 rb qa1 na1 ca1 qa2 na2 ca2 pb f_c1_0 fs_c1_0 cs_c1_0 T_c1_0 w (HV.callee (S0 := [_]) (vs0 := []) hh (roA (roR hh 0 rfl (roR hh 1 rfl (roR hh 2 rfl roN))) (hh.rsepT (fun t ht => (List.mem_cons_of_mem _ (List.mem_cons_of_mem _ (List.mem_cons_of_mem _ ht))))))) hna1 hqa1 hla1 hna2 hqa2 hla2 hcl_c1_0 h3) (fun l h4 => ?_)
   have h5 := h4
   refine jS (S' := [_, _, _]) (vs' := [_]) [0, 1, 2] [0] 0 rfl rfl rfl rfl (jf rfl rfl (kj rfl rfl rfl (kj rfl rfl rfl ?_)))
   refine jt (fun w => Try.zeroValue61 w) rfl (fun b_2 h6 => ?_)
   refine jm rfl rfl (jE (us := #[_, _]) (cs' := [_, _]) (S' := [_, _, _, _]) 0 (fun w => Try.sizeOf61 w) rfl rfl rfl rfl rfl rfl rfl (j1 (jf rfl rfl (jc rfl rfl rfl (fun _ _ => jQ (u := #[]) (u' := #[_]) rfl rfl) (jc rfl rfl rfl (fun _ _ => jG (vs := [(0, _)]) (cells := [_]) rfl rfl) ?_)))))
   obtain ⟨t20, h7, hm⟩ := bindO hm
   rcases t20 with t20a | t20b
   ·replace hm := ocL hm
    refine jS (S' := [_, _, _, _]) (vs' := [_]) [1, 0, 2, 3] [0] 0 rfl rfl rfl rfl ?_
    refine jd [_] [] rfl rfl rfl rfl rfl rfl rfl Try.call66 (fun w hh => j4 d00 d01 d02 (fun p : Pair => jT p c1_0) rb qa1 na1 ca1 qa2 na2 ca2 pb 121 (#[]) (#[ptr b 0]) ([(b, 0, [.func (.func f_c1_0) fs_c1_0 cs_c1_0])] ++ T_c1_0) w (HV.callee (S0 := [_]) (vs0 := []) hh (roA (roR hh 0 rfl (roR hh 1 rfl (roR hh 2 rfl roN))) (roA (roC (hh.bsepH 2 rfl) roN) (hh.rsepT (fun t ht => (List.mem_cons_of_mem _ (List.mem_cons_of_mem _ (List.mem_cons_of_mem _ ht)))))))) hna1 hqa1 hla1 hna2 hqa2 hla2 (⟨fun a w => Try.call121 a w, (fun p r hr w hT => clRet (zc p c1_0 b f_c1_0 fs_c1_0 cs_c1_0 T_c1_0 w (HVstart hT) hcl_c1_0 hr))⟩ : ClOK Try.prog 121 #[] #[ptr b 0] ([(b, 0, [.func (.func f_c1_0) fs_c1_0 cs_c1_0])] ++ T_c1_0) (fun x : Pair => [.agg #[.int .i64 x.tenant, .int .i64 x.strip]]) (fun x : Int => .int .i64 x) (fun p : Pair => jT p c1_0)) h7) (fun l_1 h8 => ?_)
    have h9 := h8
    refine jS (S' := [_, _, _, _]) (vs' := [_, _]) [0, 1, 2, 3] [0, 1] 0 rfl rfl rfl rfl (jf rfl rfl (kj rfl rfl rfl (kj rfl rfl rfl ?_)))
    refine jt (fun w => Try.zeroValue61 w) rfl (fun b_3 h10 => ?_)
    refine jm rfl rfl (jE (us := #[_, _]) (cs' := [_, _]) (S' := [_, _, _, _, _]) 0 (fun w => Try.sizeOf61 w) rfl rfl rfl rfl rfl rfl rfl (jo (jj (jp (jf rfl rfl (jc rfl rfl rfl (fun w _ => JS (Try.runUnderlying118 w) rfl rfl) (jo ?_)))))))
    refine yl rfl rfl (jp (jc rfl rfl rfl (fun _ _ => jG (vs := []) (cells := [_, _]) rfl rfl) (jE (us := #[_, _]) (cs' := [_, _]) (S' := [_, _, _, _, _]) 3 (fun w => Try.sizeOf37 w) rfl rfl rfl rfl rfl rfl rfl (jm rfl rfl (jo (jw (je ?_)))))))
    obtain rfl := sj hm
    refine jn rfl (fun w hh => (.cell rfl (loadVar_agg (vs := [_, _]) (Try.isAgg37 _) (Try.sizeOf37 _) (hh.cells 3 rfl rfl)) (.tmp rfl .nil))) (fun w hh => ⟨(), rfl, trivial, hh.selN [1] [] (by decide) (by decide) rfl rfl⟩)
   ·replace hm := ocR hm
    refine jS (S' := [_, _, _, _]) (vs' := [_]) [1, 0, 2, 3] [0] 0 rfl rfl rfl rfl ?_
    refine jd [_] [] rfl rfl rfl rfl rfl rfl rfl Try.call66 (fun w hh => j4 d00 d01 d02 (fun p : Pair => jT p c1_0) rb qa1 na1 ca1 qa2 na2 ca2 pb 121 (#[]) (#[ptr b 0]) ([(b, 0, [.func (.func f_c1_0) fs_c1_0 cs_c1_0])] ++ T_c1_0) w (HV.callee (S0 := [_]) (vs0 := []) hh (roA (roR hh 0 rfl (roR hh 1 rfl (roR hh 2 rfl roN))) (roA (roC (hh.bsepH 2 rfl) roN) (hh.rsepT (fun t ht => (List.mem_cons_of_mem _ (List.mem_cons_of_mem _ (List.mem_cons_of_mem _ ht)))))))) hna1 hqa1 hla1 hna2 hqa2 hla2 (⟨fun a w => Try.call121 a w, (fun p r hr w hT => clRet (zc p c1_0 b f_c1_0 fs_c1_0 cs_c1_0 T_c1_0 w (HVstart hT) hcl_c1_0 hr))⟩ : ClOK Try.prog 121 #[] #[ptr b 0] ([(b, 0, [.func (.func f_c1_0) fs_c1_0 cs_c1_0])] ++ T_c1_0) (fun x : Pair => [.agg #[.int .i64 x.tenant, .int .i64 x.strip]]) (fun x : Int => .int .i64 x) (fun p : Pair => jT p c1_0)) h7) (fun l_2 h11 => ?_)
    obtain ⟨h12, h13⟩ := h11
    refine jS (S' := [_, _, _, _, _]) (vs' := [_, _, _]) [0, 1, 2, 3, 4] [0, 1, 2] 0 rfl rfl rfl rfl (jf rfl rfl (kj rfl rfl rfl (kj rfl rfl rfl ?_)))
    refine jt (fun w => Try.zeroValue61 w) rfl (fun b_4 h14 => ?_)
    refine jm rfl rfl (jE (us := #[_, _]) (cs' := [_, _]) (S' := [_, _, _, _, _, _]) 0 (fun w => Try.sizeOf61 w) rfl rfl rfl rfl rfl rfl rfl (jo (jj (jp (jf rfl rfl (jc rfl rfl rfl (fun w _ => JS (Try.runUnderlying118 w) rfl rfl) (jo ?_)))))))
    refine yl rfl rfl (jp (jc rfl rfl rfl (fun _ _ => jG (vs := []) (cells := [_, _]) rfl rfl) (jE (us := #[_, _]) (cs' := [_, _]) (S' := [_, _, _, _, _, _]) 4 (fun w => Try.sizeOf37 w) rfl rfl rfl rfl rfl rfl rfl (jm rfl rfl (jo (jw (je ?_)))))))
    obtain rfl := sj hm
    refine jn rfl (fun w hh => (.cell rfl (loadVar_agg (vs := [_, _]) (Try.isAgg37 _) (Try.sizeOf37 _) (hh.cells 4 rfl rfl)) (.tmp rfl .nil))) (fun w hh => ⟨(), rfl, trivial, hh.selN [1] [] (by decide) (by decide) rfl rfl⟩)
  ·replace hm := ocR hm
   refine jS (S' := [_, _, _]) (vs' := []) [2, 0, 1] [] 0 rfl rfl rfl rfl ?_
   refine jd [_] [] rfl rfl rfl rfl rfl rfl rfl Try.call66 (fun w hh => j4 d00 d01 d02 c1_0 rb qa1 na1 ca1 qa2 na2 ca2 pb f_c1_0 fs_c1_0 cs_c1_0 T_c1_0 w (HV.callee (S0 := [_]) (vs0 := []) hh (roA (roR hh 0 rfl (roR hh 1 rfl (roR hh 2 rfl roN))) (hh.rsepT (fun t ht => (List.mem_cons_of_mem _ (List.mem_cons_of_mem _ (List.mem_cons_of_mem _ ht))))))) hna1 hqa1 hla1 hna2 hqa2 hla2 hcl_c1_0 h3) (fun l_3 h15 => ?_)
   obtain ⟨h16, h17⟩ := h15
   refine jS (S' := [_, _, _, _]) (vs' := [_, _]) [0, 1, 2, 3] [0, 1] 0 rfl rfl rfl rfl (jf rfl rfl (kj rfl rfl rfl (kj rfl rfl rfl ?_)))
   refine jt (fun w => Try.zeroValue61 w) rfl (fun b_5 h18 => ?_)
   refine jm rfl rfl (jE (us := #[_, _]) (cs' := [_, _]) (S' := [_, _, _, _, _]) 0 (fun w => Try.sizeOf61 w) rfl rfl rfl rfl rfl rfl rfl (j1 (jf rfl rfl (jc rfl rfl rfl (fun _ _ => jQ (u := #[]) (u' := #[_]) rfl rfl) (jc rfl rfl rfl (fun _ _ => jG (vs := [(0, _)]) (cells := [_]) rfl rfl) ?_)))))
   obtain ⟨t20_1, h19, hm⟩ := bindO hm
   rcases t20_1 with t20_1a | t20_1b
   ·replace hm := ocL hm
    refine jS (S' := [_, _, _, _, _]) (vs' := [_, _]) [1, 0, 2, 3, 4] [0, 1] 0 rfl rfl rfl rfl ?_
    refine jd [_] [] rfl rfl rfl rfl rfl rfl rfl Try.call66 (fun w hh => j4 d00 d01 d02 (fun p_1 : Pair => jT p_1 c1_0) rb qa1 na1 ca1 qa2 na2 ca2 pb 121 (#[]) (#[ptr b 0]) ([(b, 0, [.func (.func f_c1_0) fs_c1_0 cs_c1_0])] ++ T_c1_0) w (HV.callee (S0 := [_]) (vs0 := []) hh (roA (roR hh 0 rfl (roR hh 1 rfl (roR hh 2 rfl roN))) (roA (roC (hh.bsepH 3 rfl) roN) (hh.rsepT (fun t ht => (List.mem_cons_of_mem _ (List.mem_cons_of_mem _ (List.mem_cons_of_mem _ ht)))))))) hna1 hqa1 hla1 hna2 hqa2 hla2 (⟨fun a w => Try.call121 a w, (fun p_1 r hr w hT => clRet (zc p_1 c1_0 b f_c1_0 fs_c1_0 cs_c1_0 T_c1_0 w (HVstart hT) hcl_c1_0 hr))⟩ : ClOK Try.prog 121 #[] #[ptr b 0] ([(b, 0, [.func (.func f_c1_0) fs_c1_0 cs_c1_0])] ++ T_c1_0) (fun x : Pair => [.agg #[.int .i64 x.tenant, .int .i64 x.strip]]) (fun x : Int => .int .i64 x) (fun p_1 : Pair => jT p_1 c1_0)) h19) (fun l_4 h20 => ?_)
    have h21 := h20
    refine jS (S' := [_, _, _, _, _]) (vs' := [_, _, _]) [0, 1, 2, 3, 4] [0, 1, 2] 0 rfl rfl rfl rfl (jf rfl rfl (kj rfl rfl rfl (kj rfl rfl rfl ?_)))
    refine jt (fun w => Try.zeroValue61 w) rfl (fun b_6 h22 => ?_)
    refine jm rfl rfl (jE (us := #[_, _]) (cs' := [_, _]) (S' := [_, _, _, _, _, _]) 0 (fun w => Try.sizeOf61 w) rfl rfl rfl rfl rfl rfl rfl (jo (jj (jp (jf rfl rfl (jc rfl rfl rfl (fun w _ => JS (Try.runUnderlying118 w) rfl rfl) (jo ?_)))))))
    refine qO rfl rfl (jr (jb (jp (jf rfl rfl ?_))))
    obtain ⟨t27, h23, hm⟩ := bindO hm
    refine jd [] [] rfl rfl rfl rfl rfl rfl rfl Try.call69 (fun w hh => Qe t13b.t12 l_3.1 (qA l_3.2.2.q) l_3.2.2.n l_3.2.2.cap w (HV.callee (S0 := []) (vs0 := []) hh (roC (bsep (hh.bseg 3 rfl)) (roC (hh.vsepA 2 rfl h17) roN))) (vlen RWay h17 rfl) (AOK.q (vne h17)) (h17).hle h23) (fun l_5 h24 => ?_)
    refine jf rfl rfl ?_
    exact absurd hm (by simp)
   ·replace hm := ocR hm
    refine jS (S' := [_, _, _, _, _]) (vs' := [_, _]) [1, 0, 2, 3, 4] [0, 1] 0 rfl rfl rfl rfl ?_
    refine jd [_] [] rfl rfl rfl rfl rfl rfl rfl Try.call66 (fun w hh => j4 d00 d01 d02 (fun p_1 : Pair => jT p_1 c1_0) rb qa1 na1 ca1 qa2 na2 ca2 pb 121 (#[]) (#[ptr b 0]) ([(b, 0, [.func (.func f_c1_0) fs_c1_0 cs_c1_0])] ++ T_c1_0) w (HV.callee (S0 := [_]) (vs0 := []) hh (roA (roR hh 0 rfl (roR hh 1 rfl (roR hh 2 rfl roN))) (roA (roC (hh.bsepH 3 rfl) roN) (hh.rsepT (fun t ht => (List.mem_cons_of_mem _ (List.mem_cons_of_mem _ (List.mem_cons_of_mem _ ht)))))))) hna1 hqa1 hla1 hna2 hqa2 hla2 (⟨fun a w => Try.call121 a w, (fun p_1 r hr w hT => clRet (zc p_1 c1_0 b f_c1_0 fs_c1_0 cs_c1_0 T_c1_0 w (HVstart hT) hcl_c1_0 hr))⟩ : ClOK Try.prog 121 #[] #[ptr b 0] ([(b, 0, [.func (.func f_c1_0) fs_c1_0 cs_c1_0])] ++ T_c1_0) (fun x : Pair => [.agg #[.int .i64 x.tenant, .int .i64 x.strip]]) (fun x : Int => .int .i64 x) (fun p_1 : Pair => jT p_1 c1_0)) h19) (fun l_6 h25 => ?_)
    obtain ⟨h26, h27⟩ := h25
    refine jS (S' := [_, _, _, _, _, _]) (vs' := [_, _, _, _]) [0, 1, 2, 3, 4, 5] [0, 1, 2, 3] 0 rfl rfl rfl rfl (jf rfl rfl (kj rfl rfl rfl (kj rfl rfl rfl ?_)))
    refine jt (fun w => Try.zeroValue61 w) rfl (fun b_7 h28 => ?_)
    refine jm rfl rfl (jE (us := #[_, _]) (cs' := [_, _]) (S' := [_, _, _, _, _, _, _]) 0 (fun w => Try.sizeOf61 w) rfl rfl rfl rfl rfl rfl rfl (jo (jj (jp (jf rfl rfl (jc rfl rfl rfl (fun w _ => JS (Try.runUnderlying118 w) rfl rfl) (jo ?_)))))))
    refine qO rfl rfl (jr (jb (jp (jf rfl rfl ?_))))
    obtain ⟨t27_1, h29, hm⟩ := bindO hm
    refine jd [] [] rfl rfl rfl rfl rfl rfl rfl Try.call69 (fun w hh => Qe t13b.t12 l_3.1 (qA l_3.2.2.q) l_3.2.2.n l_3.2.2.cap w (HV.callee (S0 := []) (vs0 := []) hh (roC (bsep (hh.bseg 4 rfl)) (roC (hh.vsepA 3 rfl h17) roN))) (vlen RWay h17 rfl) (AOK.q (vne h17)) (h17).hle h29) (fun l_7 h30 => ?_)
    refine jf rfl rfl ?_
    obtain ⟨t29, h31, hm⟩ := bindO hm
    refine jd [] [] rfl rfl rfl rfl rfl rfl rfl Try.call69 (fun w hh => Qe t20_1b.t12 l_6.1 (qA l_6.2.2.q) l_6.2.2.n l_6.2.2.cap w (HV.callee (S0 := []) (vs0 := []) hh (roC (bsep (hh.bseg 2 rfl)) (roC (hh.vsepA 1 rfl h27) roN))) (vlen RWay h27 rfl) (AOK.q (vne h27)) (h27).hle h31) (fun l_8 h32 => ?_)
    obtain ⟨t30, h33, hm⟩ := bindO hm
    refine jc rfl rfl rfl (fun _ _ => Zf h33 rfl) (jc rfl rfl rfl (fun _ _ => jG (vs := [(0, _), (1, _)]) (cells := [_, _]) rfl rfl) (jE (us := #[_, _]) (cs' := [_, _]) (S' := [_, _, _, _, _, _, _]) 5 (fun w => Try.sizeOf37 w) rfl rfl rfl rfl rfl rfl rfl (jm rfl rfl (jo (jw ?_)))))
    obtain rfl := sj hm
    refine jn rfl (fun w hh => (.cell rfl (loadVar_agg (vs := [_, _]) (Try.isAgg37 _) (Try.sizeOf37 _) (hh.cells 5 rfl rfl)) (.tmp rfl .nil))) (fun w hh => ⟨(), rfl, trivial, hh.selN [1] [] (by decide) (by decide) rfl rfl⟩)
structure qN where
  r1 : Int
  r0 : (List Int)
structure y5 where
  t21 : Int
  out6 : (List Int)
structure Yi where
  x8 : Span
  e9 : Int
def K1 (s0 : Scalps) (t12b : (List (Pair × Bool))) (s : y5) : Option (y5 ⊕ ((List Int) ⊕ qN)) :=
 if s.t21 < (s0.carried.length : Int) then
 ((((Q0 s.t21 s0.strips s0.carried).bind fun t27 =>
 (q7 s0.strips s0.carried t12b (fun p_1 : Pair => kN p_1 s.t21 s0.strips s0.carried)).bind fun t28 =>
 some (⟨t28.r0, t28.r1⟩ : Yi)).bind fun o_2 =>
 if o_2.e9 = 0 then
 (if o_2.x8.hi = 0 then
 ((appc 8 s.out6 [1]).bind fun t44 =>
 some (.inl t44)) else
 (if 0 < o_2.x8.lo then
 ((appc 8 s.out6 [2]).bind fun t51 =>
 some (.inl t51)) else
 ((appc 8 s.out6 [0]).bind fun t33 =>
 some (.inl t33)))) else
 (some (.inr (⟨o_2.e9, []⟩ : qN)))).bind fun o_1 =>
 oc o_1 (fun j_2 => (addc s.t21 1).bind fun t52 =>
 some (.inl (⟨t52, j_2⟩ : y5))) (fun r_1 => some (.inr (.inr r_1)))) else
 (some (.inr (.inl s.out6)))
def KW (s0 : Scalps) : Option qN :=
 (ks s0).bind fun t12 =>
 oc t12 (fun t12a => some (⟨t12a, []⟩ : qN)) (fun t12b => (iterM FU (K1 s0 t12b) (⟨0, []⟩ : y5)).bind fun o =>
 oc o (fun j_3 => some (⟨0, j_3⟩ : qN)) (fun r_2 => some r_2))
theorem Zo (s0 : Scalps) (qa0 : Option Addr) (na0 ca0 : Nat) (qa1 : Option Addr) (na1 ca1 : Nat) (w : World) (hw : HV w (keys [] []) [] [] [(aB qa0, aO qa0, RSt.enc s0.strips), (aB qa1, aO qa1, RSp.enc s0.carried)] w) (hna0 : s0.strips.length = na0) (hqa0 : AOK na0 qa0) (hla0 : na0 ≤ ca0) (hna1 : s0.carried.length = na1) (hqa1 : AOK na1 qa1) (hla1 : na1 ≤ ca1) {res : qN} (hm : KW s0 = some res) :
    Calls Try.prog 44 #[.agg #[.slice qa0 na0 ca0, .slice qa1 na1 ca1]] w (fun en w' => ∃ l : VL, en = .returned (.tuple #[slv l.q l.n l.cap, .int .i64 res.r1]) ∧ (VOK 1 l.n l.cap (RI.enc res.r0) l.sp l.q) ∧ HV w (keys [] []) [] [⟨91, RI.enc res.r0, l.sp, l.q, []⟩] [] w') := by
  unfold KW at hm
  refine kb Try.func44 rfl Try.ntmps44 rfl (e := [(0, _)]) rfl hw (jp ?_)
  refine jH rfl rfl (fun b h2 => ?_)
  refine jc rfl rfl rfl (fun _ _ => qj rfl) (jm rfl rfl (j1 (kG [_, _] 0 Try.isAgg28 Try.sizeOf28 rfl rfl rfl rfl ?_)))
  obtain ⟨t12, h3, hm⟩ := bindO hm
  rcases t12 with t12a | t12b
  ·replace hm := ocL hm
   refine jd [] [] rfl rfl rfl rfl rfl rfl rfl Try.call65 (fun w hh => kL s0 qa0 na0 ca0 qa1 na1 ca1 w (HV.callee (S0 := []) (vs0 := []) hh (roR hh 0 rfl (roR hh 1 rfl roN))) hna0 hqa0 hla0 hna1 hqa1 hla1 h3) (fun l h4 => ?_)
   have h5 := h4
   refine jf rfl rfl (kj rfl rfl rfl (kj rfl rfl rfl ?_))
   refine jt (fun w => Try.zeroValue115 w) rfl (fun b_1 h6 => ?_)
   refine yV (cs' := #[_]) (S' := [_, _]) 0 (fun w => Try.sizeOf115 w) rfl rfl rfl rfl rfl rfl rfl (jm rfl rfl (jo (jj (jp (jf rfl rfl (jc rfl rfl rfl (fun _ _ => Ym h5 rfl rfl) (jo ?_)))))))
   refine yl rfl rfl (jp (jf rfl rfl (jc rfl rfl rfl (fun _ _ => qj rfl) (jm rfl rfl (jo (jw (je ?_)))))))
   refine kr 91 ?_
   obtain rfl := sj hm
   refine jn rfl (fun w hh => (.tmp rfl (.tmp rfl .nil))) (fun w hh => ⟨⟨none, 0, 0, []⟩, rfl, VOK.nil, hh.se [] [0] 2 rfl rfl rfl rfl⟩)
  ·replace hm := ocR hm
   refine jd [] [] rfl rfl rfl rfl rfl rfl rfl Try.call65 (fun w hh => kL s0 qa0 na0 ca0 qa1 na1 ca1 w (HV.callee (S0 := []) (vs0 := []) hh (roR hh 0 rfl (roR hh 1 rfl roN))) hna0 hqa0 hla0 hna1 hqa1 hla1 h3) (fun l_1 h7 => ?_)
   refine jS (S' := [_, _, _]) (vs' := []) [0, 1, 2] [] 0 rfl rfl rfl rfl (jf rfl rfl (kj rfl rfl rfl (kj rfl rfl rfl ?_)))
   refine jt (fun w => Try.zeroValue115 w) rfl (fun b_2 h8 => ?_)
   refine yV (cs' := #[_]) (S' := [_, _, _, _]) 0 (fun w => Try.sizeOf115 w) rfl rfl rfl rfl rfl rfl rfl (jm rfl rfl (jo (jj (jp (jf rfl rfl (jc rfl rfl rfl (fun _ _ => kv rfl rfl) (jo ?_)))))))
   refine qO rfl rfl (jr (jb (jp (jc rfl rfl rfl (fun _ _ => qj rfl) (jo (jj (jp ?_)))))))
   refine jL 1 Try.runUnderlying28 rfl Try.sizeOf26 rfl rfl (jU 3 Try.isAgg26 rfl rfl rfl rfl (jc rfl rfl rfl (fun w _ => jB hna1 (Try.runUnderlying26 w) rfl) (jf rfl rfl (jo (kr 91 ?_)))))
   obtain ⟨o, h9, h10⟩ := bindO hm
   refine jC (ι := (List Int) × VL) (fun j => o = .inl j.1 ∧ VOK 1 j.2.n j.2.cap (RI.enc j.1) j.2.sp j.2.q) (fun j => [(6, slv j.2.q j.2.n j.2.cap)]) (fun j => [(b_2, .cells #[ptr l_1.1 0] 115 (0, 0)), (l_1.1, .cells #[.slice qa0 na0 ca0, .slice qa1 na1 ca1, .map (some l_1.2)] 163 (0, 0)), (l_1.2, gobj (kR RPr) kB t12b), (b, .cells #[.slice qa0 na0 ca0, .slice qa1 na1 ca1] 28 (0, 0))]) (fun j => [⟨91, RI.enc j.1, j.2.sp, j.2.q, []⟩]) ?_ ?_
   ·replace hm := h9
    refine jl ?_
    refine jF (ι := VL) hm (fun s l_2 => VOK 1 l_2.n l_2.cap (RI.enc s.out6) l_2.sp l_2.q) (fun s l_2 => [(4, ptr b_2 0), (6, slv l_2.q l_2.n l_2.cap), (20, .int .i64 (s0.carried.length : Int)), (21, .int .i64 s.t21)]) (fun s l_2 => [(b_2, .cells #[ptr l_1.1 0] 115 (0, 0)), (l_1.1, .cells #[.slice qa0 na0 ca0, .slice qa1 na1 ca1, .map (some l_1.2)] 163 (0, 0)), (l_1.2, gobj (kR RPr) kB t12b), (b, .cells #[.slice qa0 na0 ca0, .slice qa1 na1 ca1] 28 (0, 0))]) (fun s l_2 => [⟨91, RI.enc s.out6, l_2.sp, l_2.q, []⟩]) ⟨none, 0, 0, []⟩ (VOK.nil) (sE rfl) (fun w hh => hh) (fun s l_2 r hpl hm h13 => ?_)
    have h12 := hpl
    unfold K1 at hm
    refine jp (qv rfl rfl rfl (jo (jj ?_)))
    refine jq rfl (fun h14 => ?_) (fun h14 => ?_)
    ·replace hm := ifD h14 hm
     refine jr (jb (jj ?_))
     obtain ⟨o_1, h15, h16⟩ := bindO hm
     refine jC (ι := (List Int) × VL) (fun j_1 => o_1 = .inl j_1.1 ∧ VOK 1 j_1.2.n j_1.2.cap (RI.enc j_1.1) j_1.2.sp j_1.2.q) (fun j_1 => [(4, ptr b_2 0), (6, slv j_1.2.q j_1.2.n j_1.2.cap), (20, .int .i64 (s0.carried.length : Int)), (21, .int .i64 s.t21)]) (fun j_1 => [(b_2, .cells #[ptr l_1.1 0] 115 (0, 0)), (l_1.1, .cells #[.slice qa0 na0 ca0, .slice qa1 na1 ca1, .map (some l_1.2)] 163 (0, 0)), (l_1.2, gobj (kR RPr) kB t12b), (b, .cells #[.slice qa0 na0 ca0, .slice qa1 na1 ca1] 28 (0, 0))]) (fun j_1 => [⟨91, RI.enc j_1.1, j_1.2.sp, j_1.2.q, []⟩]) ?_ ?_
     ·replace hm := h15
      refine jl (jp (jf rfl rfl ?_))
      refine jt (fun w => Try.zeroValue3 w) rfl (fun b_3 h18 => ?_)
      refine yV (cs' := #[_]) (S' := [_, _, _, _, _]) 0 (fun w => Try.sizeOf3 w) rfl rfl rfl rfl rfl rfl rfl (jo (jj ?_))
      obtain ⟨o_2, h19, h20⟩ := bindO hm
      refine jC (ι := Nat) (fun l_3 => True) (fun l_3 => [(4, ptr b_2 0), (6, slv l_2.q l_2.n l_2.cap), (8, ptr l_3 0), (9, .int .i64 o_2.e9), (20, .int .i64 (s0.carried.length : Int)), (21, .int .i64 s.t21)]) (fun l_3 => [(b_3, .cells #[.int .i64 s.t21] 3 (0, 0)), (b_2, .cells #[ptr l_1.1 0] 115 (0, 0)), (l_1.1, .cells #[.slice qa0 na0 ca0, .slice qa1 na1 ca1, .map (some l_1.2)] 163 (0, 0)), (l_1.2, gobj (kR RPr) kB t12b), (b, .cells #[.slice qa0 na0 ca0, .slice qa1 na1 ca1] 28 (0, 0)), (l_3, .cells #[.int .i64 o_2.x8.lo, .int .i64 o_2.x8.hi] 37 (0, 0))]) (fun l_3 => [⟨91, RI.enc s.out6, l_2.sp, l_2.q, []⟩]) ?_ ?_
      ·replace hm := h19
       obtain ⟨t27, h21, hm⟩ := bindO hm
       obtain ⟨t28, h22, hm⟩ := bindO hm
       refine jX none (.hoist 0 (.free 1 (.br (.alt 2 (.br (.alt 3 (.free 4 (.free 5 (.free 6 (.one 7 (.one 8 (.free 9 .done)))))) (.alt 7 (.one 3 (.free 4 (.free 5 (.free 6 (.one 8 (.free 9 .done)))))) .nil))) (.alt 7 (.one 2 (.one 3 (.free 4 (.free 5 (.free 6 (.one 8 (.free 9 .done))))))) .nil))))) _ rfl (by decide +kernel) (fun w k hh => hh.draw k) (fun w hh => hh) ?_
       refine qq 1 Try.isAgg115 rfl rfl rfl rfl rfl (jk rfl rfl rfl rfl (fun _ _ => jQ (u := #[]) (u' := #[_, _]) rfl rfl) (YX ?_))
       refine kQ rfl ?_ ?_
       ·refine jd [] [] rfl rfl rfl rfl rfl rfl rfl Try.call73 (fun w hh => YJ s.t21 s0.strips s0.carried b_3 b_2 l_1.1 qa0 na0 ca0 qa1 na1 ca1 (.map (some l_1.2)) w (HV.callee (S0 := []) (vs0 := []) hh (roC (bsep (hh.bseg 0 rfl)) (roC (bsep (hh.bseg 1 rfl)) (roC (bsep (hh.bseg 2 rfl)) (roR hh 0 rfl (roR hh 1 rfl roN)))))) hna0 hqa0 hla0 hna1 hqa1 hla1 h21) (fun l_4 h23 => ?_)
        refine jS (S' := [_, _, _, _, _, _]) (vs' := [_]) [0, 1, 2, 3, 4, 5] [0] 0 rfl rfl rfl rfl (ju (hsE [1, 2, 3, 4, 5] [0] 0 rfl rfl rfl rfl) (YX ?_))
        refine kQ rfl ?_ ?_
        ·refine jS (S' := [_, _, _, _, _, _]) (vs' := [_]) [4, 0, 1, 2, 3, 5] [0] 0 rfl rfl rfl rfl ?_
         refine jd [_] [] rfl rfl rfl rfl rfl rfl rfl Try.call72 (fun w hh => KI s0.strips s0.carried t12b (fun p_1 : Pair => kN p_1 s.t21 s0.strips s0.carried) l_1.1 qa0 na0 ca0 qa1 na1 ca1 l_1.2 122 (#[]) (#[ptr l_4 0]) ([(l_4, 0, [.func (.func 102) #[] #[ptr b_3 0, ptr b_2 0]]), (b_3, 0, [.int .i64 s.t21]), (b_2, 0, [ptr l_1.1 0]), (l_1.1, 0, [.slice qa0 na0 ca0, .slice qa1 na1 ca1, .map (some l_1.2)]), (aB qa0, aO qa0, RSt.enc s0.strips), (aB qa1, aO qa1, RSp.enc s0.carried)]) w (HV.callee (S0 := [_]) (vs0 := []) hh (roA (roC (hh.bsepH 3 rfl) (roR hh 0 rfl (roR hh 1 rfl roN))) (roC (hh.bsepH 0 rfl) (roC (hh.bsepH 1 rfl) (roC (hh.bsepH 2 rfl) (roC (hh.bsepH 3 rfl) (roR hh 0 rfl (roR hh 1 rfl roN)))))))) hna0 hqa0 hla0 hna1 hqa1 hla1 (⟨fun a w => Try.call122 a w, (fun p_1 r hr w hT => clRet (K0 p_1 s.t21 s0.strips s0.carried l_4 b_3 b_2 l_1.1 qa0 na0 ca0 qa1 na1 ca1 (.map (some l_1.2)) w (HVstart hT) hna0 hqa0 hla0 hna1 hqa1 hla1 hr))⟩ : ClOK Try.prog 122 #[] #[ptr l_4 0] ([(l_4, 0, [.func (.func 102) #[] #[ptr b_3 0, ptr b_2 0]]), (b_3, 0, [.int .i64 s.t21]), (b_2, 0, [ptr l_1.1 0]), (l_1.1, 0, [.slice qa0 na0 ca0, .slice qa1 na1 ca1, .map (some l_1.2)]), (aB qa0, aO qa0, RSt.enc s0.strips), (aB qa1, aO qa1, RSp.enc s0.carried)]) (fun x : Pair => [.agg #[.int .i64 x.tenant, .int .i64 x.strip]]) (fun x : Int => .int .i64 x) (fun p_1 : Pair => kN p_1 s.t21 s0.strips s0.carried)) h22) (fun l_5 h24 => ?_)
         refine jS (S' := [_, _, _, _, _, _]) (vs' := [_]) [0, 1, 2, 3, 4, 5] [0] 0 rfl rfl rfl rfl (ju (hsE [2, 3, 4, 0, 5] [0] 0 rfl rfl rfl rfl) (kg rfl rfl rfl (jk rfl rfl rfl rfl (fun _ _ => yy rfl rfl) (jk rfl rfl rfl rfl (fun _ _ => yy rfl rfl) (jK rfl ?_)))))
         refine jt (fun w => Try.zeroValue37 w) rfl (fun b_4 h25 => ?_)
         refine ju (hsE [3, 4, 5, 1, 6] [0] 0 rfl rfl rfl rfl) (jK rfl (jE (us := #[_, _]) (cs' := [_, _]) (S' := [_, _, _, _, _, _, _]) 0 (fun w => Try.sizeOf37 w) rfl rfl rfl rfl rfl rfl rfl (ju (hsE [3, 4, 5, 1, 6] [0] 0 rfl rfl rfl rfl) (jk rfl rfl rfl rfl (fun _ _ => jN rfl) (jI ?_)))))
         obtain rfl := sj hm
         exact jg b_4 (trivial) (sE rfl) (hsE [3, 4, 5, 1, 6, 0] [0] 0 rfl rfl rfl rfl)
        refine kQ rfl ?_ ?_
        ·refine jt (fun w => Try.zeroValue37 w) rfl (fun b_5 h26 => ?_)
         refine ju (hsE [2, 3, 4, 5, 6] [0] 0 rfl rfl rfl rfl) (jK rfl (jS (S' := [_, _, _, _, _, _, _]) (vs' := [_]) [5, 0, 1, 2, 3, 4, 6] [0] 0 rfl rfl rfl rfl ?_))
         refine jd [_] [] rfl rfl rfl rfl rfl rfl rfl Try.call72 (fun w hh => KI s0.strips s0.carried t12b (fun p_3 : Pair => kN p_3 s.t21 s0.strips s0.carried) l_1.1 qa0 na0 ca0 qa1 na1 ca1 l_1.2 122 (#[]) (#[ptr l_4 0]) ([(l_4, 0, [.func (.func 102) #[] #[ptr b_3 0, ptr b_2 0]]), (b_3, 0, [.int .i64 s.t21]), (b_2, 0, [ptr l_1.1 0]), (l_1.1, 0, [.slice qa0 na0 ca0, .slice qa1 na1 ca1, .map (some l_1.2)]), (aB qa0, aO qa0, RSt.enc s0.strips), (aB qa1, aO qa1, RSp.enc s0.carried)]) w (HV.callee (S0 := [_]) (vs0 := []) hh (roA (roC (hh.bsepH 4 rfl) (roR hh 0 rfl (roR hh 1 rfl roN))) (roC (hh.bsepH 1 rfl) (roC (hh.bsepH 2 rfl) (roC (hh.bsepH 3 rfl) (roC (hh.bsepH 4 rfl) (roR hh 0 rfl (roR hh 1 rfl roN)))))))) hna0 hqa0 hla0 hna1 hqa1 hla1 (⟨fun a w => Try.call122 a w, (fun p_3 r hr w hT => clRet (K0 p_3 s.t21 s0.strips s0.carried l_4 b_3 b_2 l_1.1 qa0 na0 ca0 qa1 na1 ca1 (.map (some l_1.2)) w (HVstart hT) hna0 hqa0 hla0 hna1 hqa1 hla1 hr))⟩ : ClOK Try.prog 122 #[] #[ptr l_4 0] ([(l_4, 0, [.func (.func 102) #[] #[ptr b_3 0, ptr b_2 0]]), (b_3, 0, [.int .i64 s.t21]), (b_2, 0, [ptr l_1.1 0]), (l_1.1, 0, [.slice qa0 na0 ca0, .slice qa1 na1 ca1, .map (some l_1.2)]), (aB qa0, aO qa0, RSt.enc s0.strips), (aB qa1, aO qa1, RSp.enc s0.carried)]) (fun x : Pair => [.agg #[.int .i64 x.tenant, .int .i64 x.strip]]) (fun x : Int => .int .i64 x) (fun p_3 : Pair => kN p_3 s.t21 s0.strips s0.carried)) h22) (fun l_6 h27 => ?_)
         refine jS (S' := [_, _, _, _, _, _, _]) (vs' := [_]) [0, 1, 2, 3, 4, 5, 6] [0] 0 rfl rfl rfl rfl (ju (hsE [3, 4, 5, 0, 6] [0] 0 rfl rfl rfl rfl) (kg rfl rfl rfl (jk rfl rfl rfl rfl (fun _ _ => yy rfl rfl) (jk rfl rfl rfl rfl (fun _ _ => yy rfl rfl) (jK rfl (jE (us := #[_, _]) (cs' := [_, _]) (S' := [_, _, _, _, _, _, _]) 1 (fun w => Try.sizeOf37 w) rfl rfl rfl rfl rfl rfl rfl (ju (hsE [3, 4, 5, 0, 6] [0] 0 rfl rfl rfl rfl) ?_)))))))
         refine jk rfl rfl rfl rfl (fun _ _ => jN rfl) (jI ?_)
         obtain rfl := sj hm
         exact jg b_5 (trivial) (sE rfl) (hsE [3, 4, 5, 0, 6, 1] [0] 0 rfl rfl rfl rfl)
        exact Ks
       refine kQ rfl ?_ ?_
       ·refine jt (fun w => Try.zeroValue37 w) rfl (fun b_6 h28 => ?_)
        refine ju (hsE [1, 2, 3, 4, 5] [0] 0 rfl rfl rfl rfl) (jK rfl ?_)
        refine jd [] [] rfl rfl rfl rfl rfl rfl rfl Try.call73 (fun w hh => YJ s.t21 s0.strips s0.carried b_3 b_2 l_1.1 qa0 na0 ca0 qa1 na1 ca1 (.map (some l_1.2)) w (HV.callee (S0 := []) (vs0 := []) hh (roC (bsep (hh.bseg 1 rfl)) (roC (bsep (hh.bseg 2 rfl)) (roC (bsep (hh.bseg 3 rfl)) (roR hh 0 rfl (roR hh 1 rfl roN)))))) hna0 hqa0 hla0 hna1 hqa1 hla1 h21) (fun l_7 h29 => ?_)
        refine jS (S' := [_, _, _, _, _, _, _]) (vs' := [_]) [0, 1, 2, 3, 4, 5, 6] [0] 0 rfl rfl rfl rfl (ju (hsE [2, 3, 4, 5, 6] [0] 0 rfl rfl rfl rfl) (jK rfl (jS (S' := [_, _, _, _, _, _, _]) (vs' := [_]) [5, 0, 1, 2, 3, 4, 6] [0] 0 rfl rfl rfl rfl ?_)))
        refine jd [_] [] rfl rfl rfl rfl rfl rfl rfl Try.call72 (fun w hh => KI s0.strips s0.carried t12b (fun p_5 : Pair => kN p_5 s.t21 s0.strips s0.carried) l_1.1 qa0 na0 ca0 qa1 na1 ca1 l_1.2 122 (#[]) (#[ptr l_7 0]) ([(l_7, 0, [.func (.func 102) #[] #[ptr b_3 0, ptr b_2 0]]), (b_3, 0, [.int .i64 s.t21]), (b_2, 0, [ptr l_1.1 0]), (l_1.1, 0, [.slice qa0 na0 ca0, .slice qa1 na1 ca1, .map (some l_1.2)]), (aB qa0, aO qa0, RSt.enc s0.strips), (aB qa1, aO qa1, RSp.enc s0.carried)]) w (HV.callee (S0 := [_]) (vs0 := []) hh (roA (roC (hh.bsepH 4 rfl) (roR hh 0 rfl (roR hh 1 rfl roN))) (roC (hh.bsepH 0 rfl) (roC (hh.bsepH 2 rfl) (roC (hh.bsepH 3 rfl) (roC (hh.bsepH 4 rfl) (roR hh 0 rfl (roR hh 1 rfl roN)))))))) hna0 hqa0 hla0 hna1 hqa1 hla1 (⟨fun a w => Try.call122 a w, (fun p_5 r hr w hT => clRet (K0 p_5 s.t21 s0.strips s0.carried l_7 b_3 b_2 l_1.1 qa0 na0 ca0 qa1 na1 ca1 (.map (some l_1.2)) w (HVstart hT) hna0 hqa0 hla0 hna1 hqa1 hla1 hr))⟩ : ClOK Try.prog 122 #[] #[ptr l_7 0] ([(l_7, 0, [.func (.func 102) #[] #[ptr b_3 0, ptr b_2 0]]), (b_3, 0, [.int .i64 s.t21]), (b_2, 0, [ptr l_1.1 0]), (l_1.1, 0, [.slice qa0 na0 ca0, .slice qa1 na1 ca1, .map (some l_1.2)]), (aB qa0, aO qa0, RSt.enc s0.strips), (aB qa1, aO qa1, RSp.enc s0.carried)]) (fun x : Pair => [.agg #[.int .i64 x.tenant, .int .i64 x.strip]]) (fun x : Int => .int .i64 x) (fun p_5 : Pair => kN p_5 s.t21 s0.strips s0.carried)) h22) (fun l_8 h30 => ?_)
        refine jS (S' := [_, _, _, _, _, _, _]) (vs' := [_]) [0, 1, 2, 3, 4, 5, 6] [0] 0 rfl rfl rfl rfl (ju (hsE [3, 4, 5, 0, 6] [0] 0 rfl rfl rfl rfl) (kg rfl rfl rfl (jk rfl rfl rfl rfl (fun _ _ => yy rfl rfl) (jk rfl rfl rfl rfl (fun _ _ => yy rfl rfl) (jK rfl (jE (us := #[_, _]) (cs' := [_, _]) (S' := [_, _, _, _, _, _, _]) 2 (fun w => Try.sizeOf37 w) rfl rfl rfl rfl rfl rfl rfl (ju (hsE [3, 4, 5, 0, 6] [0] 0 rfl rfl rfl rfl) ?_)))))))
        refine jk rfl rfl rfl rfl (fun _ _ => jN rfl) (jI ?_)
        obtain rfl := sj hm
        exact jg b_6 (trivial) (sE rfl) (hsE [3, 4, 5, 0, 6, 2] [0] 0 rfl rfl rfl rfl)
       exact Ks
      ·intro l_3 hj
       replace hm := h20
       refine jb (jl (jp (jf rfl rfl (jc rfl rfl rfl (fun _ _ => kv rfl rfl) (jm rfl rfl (jo ?_))))))
       refine jq rfl (fun h31 => ?_) (fun h31 => ?_)
       ·replace hm := ifF (of_ndec_true h31) hm
        refine jp (jf rfl rfl (jc rfl rfl rfl (fun _ _ => qj rfl) (jm rfl rfl (jo (jw (jx (jx ?_)))))))
        obtain rfl := sj hm
        refine je ?_
        replace hm := ocR h16
        refine je (je (jx ?_))
        obtain rfl := sj hm
        have hbo := h13 _ rfl
        subst hbo
        refine je ?_
        replace hm := ocR h10
        refine je (kr 91 ?_)
        obtain rfl := sj hm
        refine jn rfl (fun w hh => (.tmp rfl (.tmp rfl .nil))) (fun w hh => ⟨⟨none, 0, 0, []⟩, rfl, VOK.nil, hh.se [] [0] 2 rfl rfl rfl rfl⟩)
       ·replace hm := ifT (of_ndec_false h31) hm
        refine jp (jL 1 Try.runUnderlying37 rfl Try.sizeOf3 rfl rfl (jU 5 Try.isAgg3 rfl rfl rfl rfl (jc rfl rfl rfl (fun _ _ => zr rfl rfl) (jm rfl rfl (jo ?_)))))
        refine jq rfl (fun h32 => ?_) (fun h32 => ?_)
        ·replace hm := ifD h32 hm
         refine jh (jf rfl rfl ?_)
         refine kW RI [1] (ps := [(0, _)]) (cells := [_]) (fun w => Try.runUnderlying88 w) (fun w => Try.sizeOf91 w) (fun w => Try.zeroValue91 w) rfl rfl rfl rfl rfl rfl rfl rfl (fun L h33 => ?_)
         obtain ⟨t44, h34, hm⟩ := bindO hm
         refine y4 RI 1 h34 Try.underlying88 Zy rfl rfl rfl rfl rfl h12 rfl rfl (vlen RI h33 rfl) (AOK.q (vne h33)) (fun w hh => (hh.vsegA 0 rfl h33)) rfl (fun L_1 h35 h35n => ?_)
         refine jS (S' := [_, _, _, _, _, _]) (vs' := [_, _]) [0, 1, 2, 3, 4, 5] [0, 1] 0 rfl rfl rfl rfl (jm rfl rfl (jv (js (js ?_))))
         obtain rfl := sj hm
         exact jg (t44, L_1) (⟨rfl, h35⟩) (sE rfl) (hsE [1, 2, 3, 4] [1] 0 rfl rfl rfl rfl)
        ·replace hm := ifE h32 hm
         refine jp (jL 0 Try.runUnderlying37 rfl Try.sizeOf3 rfl rfl (jU 5 Try.isAgg3 rfl rfl rfl rfl (jc rfl rfl rfl (fun _ _ => Qq rfl rfl) (jm rfl rfl (jo ?_)))))
         refine jq rfl (fun h36 => ?_) (fun h36 => ?_)
         ·replace hm := ifD h36 hm
          refine jh (jf rfl rfl ?_)
          refine kW RI [2] (ps := [(0, _)]) (cells := [_]) (fun w => Try.runUnderlying88 w) (fun w => Try.sizeOf91 w) (fun w => Try.zeroValue91 w) rfl rfl rfl rfl rfl rfl rfl rfl (fun L_2 h37 => ?_)
          obtain ⟨t51, h38, hm⟩ := bindO hm
          refine y4 RI 1 h38 Try.underlying88 Zy rfl rfl rfl rfl rfl h12 rfl rfl (vlen RI h37 rfl) (AOK.q (vne h37)) (fun w hh => (hh.vsegA 0 rfl h37)) rfl (fun L_3 h39 h39n => ?_)
          refine jS (S' := [_, _, _, _, _, _]) (vs' := [_, _]) [0, 1, 2, 3, 4, 5] [0, 1] 0 rfl rfl rfl rfl (jm rfl rfl (jv (js (js ?_))))
          obtain rfl := sj hm
          exact jg (t51, L_3) (⟨rfl, h39⟩) (sE rfl) (hsE [1, 2, 3, 4] [1] 0 rfl rfl rfl rfl)
         ·replace hm := ifE h36 hm
          refine jh (jf rfl rfl ?_)
          refine kW RI [0] (ps := [(0, _)]) (cells := [_]) (fun w => Try.runUnderlying88 w) (fun w => Try.sizeOf91 w) (fun w => Try.zeroValue91 w) rfl rfl rfl rfl rfl rfl rfl rfl (fun L_4 h40 => ?_)
          obtain ⟨t33, h41, hm⟩ := bindO hm
          refine y4 RI 1 h41 Try.underlying88 Zy rfl rfl rfl rfl rfl h12 rfl rfl (vlen RI h40 rfl) (AOK.q (vne h40)) (fun w hh => (hh.vsegA 0 rfl h40)) rfl (fun L_5 h42 h42n => ?_)
          refine jS (S' := [_, _, _, _, _, _]) (vs' := [_, _]) [0, 1, 2, 3, 4, 5] [0, 1] 0 rfl rfl rfl rfl (jm rfl rfl (jv (js (js ?_))))
          obtain rfl := sj hm
          exact jg (t33, L_5) (⟨rfl, h42⟩) (sE rfl) (hsE [1, 2, 3, 4] [1] 0 rfl rfl rfl rfl)
     ·rintro ⟨j_2, l_9⟩ hj
      obtain ⟨h44, h43⟩ := hj
      subst h44
      replace hm := ocL h16
      refine jb (jh ?_)
      obtain ⟨t52, h45, hm⟩ := bindO hm
      refine kt h45 rfl rfl rfl (jf rfl rfl (jv ?_))
      obtain rfl := sj hm
      refine jb ?_
      exact jy _ l_9 rfl (h43) (sE rfl) (fun w hh => hh)
    ·replace hm := ifE h14 hm
     refine jM (ji (ji (jz ?_)))
     obtain rfl := sj hm
     have hbo := h13 _ rfl
     subst hbo
     exact jg (s.out6, l_2) (⟨rfl, h12⟩) (sE rfl) (fun w hh => hh)
   ·rintro ⟨j_3, l_10⟩ hj
    obtain ⟨h47, h46⟩ := hj
    subst h47
    replace hm := ocL h10
    refine jb (jp (jf rfl rfl (jm rfl rfl (jm rfl rfl (jo (jw ?_))))))
    obtain rfl := sj hm
    refine jn rfl (fun w hh => (.tmp rfl (.tmp rfl .nil))) (fun w hh => ⟨l_10, rfl, h46, hh.se [] [0] 2 rfl rfl rfl rfl⟩)
def KV (n0 : Int) : Option Bool :=
 (K8 n0 (-20) 20).bind fun t4 =>
 some t4
theorem Zh (n0 : Int)  (w : World) (hw : HV w (keys [] []) [] [] [] w)  {res : Bool} (hm : KV n0 = some res) :
    Calls Try.prog 99 #[.int .i64 n0] w (fun en w' => ∃ l : Unit, en = .returned (.bool res) ∧ (True) ∧ HV w (keys [] []) [] [] [] w') := by
  unfold KV at hm
  refine kb Try.func99 rfl Try.ntmps99 rfl (e := [(0, _)]) rfl hw (jp (jm rfl rfl (j1 (jf rfl rfl ?_))))
  obtain ⟨t4, h1, hm⟩ := bindO hm
  refine jd [] [] rfl rfl rfl rfl rfl rfl rfl Try.call57 (fun w hh => Yo n0 (-20) 20 w (HV.callee (S0 := []) (vs0 := []) hh roN)  h1) (fun l h2 => ?_)
  refine jm rfl rfl (jo (jw ?_))
  obtain rfl := sj hm
  refine jn rfl (fun w hh => (.tmp rfl .nil)) (fun w hh => ⟨(), rfl, trivial, hh⟩)
def JH (x0 : Int) : Option Bool :=
 (KV x0).bind fun t6 =>
 some (!t6)
theorem Ys (x0 : Int) (rb : Nat) (w : World) (hw : HV w (keys [] []) [] [] [(rb, 0, [.func (.func 99) #[] #[]])] w)  {res : Bool} (hm : JH x0 = some res) :
    Calls Try.prog 128 #[.int .i64 x0, ptr rb 0] w (fun en w' => ∃ l : Unit, en = .returned (.bool res) ∧ (True) ∧ HV w (keys [] []) [] [] [] w') := by
  unfold JH at hm
  refine kb Try.func128 rfl Try.ntmps128 rfl (e := [(0, _), (1, _)]) rfl hw (jp (jm rfl rfl (j1 (jc rfl rfl rfl (fun w hh => jY (Try.isAgg71 w) rfl (segCell (hh.seg 0 rfl) 0 rfl)) (jf rfl rfl ?_)))))
  obtain ⟨t6, h1, hm⟩ := bindO hm
  refine jd [] [] rfl rfl rfl rfl rfl rfl rfl Try.call99 (fun w hh => Zh x0 w (HV.callee (S0 := []) (vs0 := []) hh roN)  h1) (fun l h2 => ?_)
  refine jc rfl rfl rfl (fun _ _ => kq rfl) (jm rfl rfl (jo (jw ?_)))
  obtain rfl := sj hm
  refine jn rfl (fun w hh => (.tmp rfl .nil)) (fun w hh => ⟨(), rfl, trivial, hh.se [] [] 1 rfl rfl rfl rfl⟩)
def yI (s0 : (List Int)) (s : Int) : Option (Int ⊕ (Unit ⊕ Int)) :=
 if s < (s0.length : Int) then
 ((ix s0 s).bind fun t14 =>
 (JH t14).bind fun t16 =>
 if t16 = true then
 (some (.inr (.inr s))) else
 ((addc s 1).bind fun t18 =>
 some (.inl t18))) else
 (some (.inr (.inl ())))
def qY (s0 : (List Int)) : Option Int :=
 (iterM FU (yI s0) 0).bind fun o =>
 oc o (fun j => some (-1)) (fun r_1 => some r_1)
theorem KY (s0 : (List Int)) (qa0 : Option Addr) (na0 ca0 : Nat) (rb : Nat) (w : World) (hw : HV w (keys [] []) [] [] [(aB qa0, aO qa0, RI.enc s0), (rb, 0, [.func (.func 99) #[] #[]])] w) (hna0 : s0.length = na0) (hqa0 : AOK na0 qa0) (hla0 : na0 ≤ ca0)  {res : Int} (hm : qY s0 = some res) :
    Calls Try.prog 146 #[.slice qa0 na0 ca0, .func (.func 128) #[] #[ptr rb 0]] w (fun en w' => ∃ l : Unit, en = .returned (.int .i64 res) ∧ (True) ∧ HV w (keys [] []) [] [] [] w') := by
  unfold qY at hm
  refine kb Try.func146 rfl Try.ntmps146 rfl (e := [(0, _), (1, _)]) rfl hw (jp (jm rfl rfl (jo (jj (jp (jf rfl rfl (jc rfl rfl rfl (fun w _ => jB hna0 (Try.runUnderlying32 w) rfl) ?_)))))))
  refine jf rfl rfl (jo ?_)
  obtain ⟨o, h1, h2⟩ := bindO hm
  refine jC (ι := Unit) (fun j => o = .inl j) (fun j => []) (fun j => []) (fun j => []) ?_ ?_
  ·replace hm := h1
   refine jl ?_
   refine jF (ι := Unit) hm (fun s l => True) (fun s l => [(0, .slice qa0 na0 ca0), (1, .func (.func 128) #[] #[ptr rb 0]), (7, .int .i64 (s0.length : Int)), (8, .int .i64 s)]) (fun s l => []) (fun s l => []) () (trivial) (sE rfl) (fun w hh => hh) (fun s l r hpl hm h3 => ?_)
   unfold yI at hm
   refine jp (qv rfl rfl rfl (jo (jj ?_)))
   refine jq rfl (fun h4 => ?_) (fun h4 => ?_)
   ·replace hm := ifD h4 hm
    refine jr (jb (jj (jl (jp (jf rfl rfl (jm rfl rfl (j1 ?_)))))))
    refine jf rfl rfl (jf rfl rfl (jf rfl rfl ?_))
    obtain ⟨t14, h5, hm⟩ := bindO hm
    refine jc rfl rfl rfl (fun w _ => jW h5 (Try.runUnderlying32 w) (Try.sizeOf3 w) rfl rfl hna0 hqa0) (jc rfl rfl rfl (fun w hh => jV RI 0 h5 (Try.isAgg3 w) rfl (hh.seg 0 rfl) rfl (Nat.add_zero _).symm) ?_)
    obtain ⟨t16, h6, hm⟩ := bindO hm
    refine jd [] [] rfl rfl rfl rfl rfl rfl rfl Try.call128 (fun w hh => Ys t14 rb w (HV.callee (S0 := []) (vs0 := []) hh (roR hh 1 rfl roN))  h6) (fun l_1 h7 => ?_)
    refine jo ?_
    refine jq rfl (fun h8 => ?_) (fun h8 => ?_)
    ·replace hm := ifT (h8) hm
     refine jp (jf rfl rfl (jm rfl rfl (jo (jw (jx (je (je ?_)))))))
     refine jx ?_
     obtain rfl := sj hm
     have hbo := h3 _ rfl
     subst hbo
     refine je ?_
     replace hm := ocR h2
     refine je ?_
     obtain rfl := sj hm
     refine jn rfl (fun w hh => (.tmp rfl .nil)) (fun w hh => ⟨(), rfl, trivial, hh.se [] [] 2 rfl rfl rfl rfl⟩)
    ·replace hm := ifN h8 hm
     refine jr (js (jb (jh ?_)))
     obtain ⟨t18, h9, hm⟩ := bindO hm
     refine kt h9 rfl rfl rfl (jf rfl rfl (jv ?_))
     obtain rfl := sj hm
     refine jb ?_
     exact jy _ () rfl (trivial) (sE rfl) (fun w hh => hh)
   ·replace hm := ifE h4 hm
    refine jM (ji (ji (jz ?_)))
    obtain rfl := sj hm
    have hbo := h3 _ rfl
    subst hbo
    exact jg () (rfl) (.nil) (fun w hh => hh)
  ·intro j hj
   have h10 := hj
   subst h10
   replace hm := ocL h2
   refine jb (jp (jm rfl rfl (jo (jw ?_))))
   obtain rfl := sj hm
   refine jn rfl (fun w hh => (.tmp rfl .nil)) (fun w hh => ⟨(), rfl, trivial, hh.se [] [] 2 rfl rfl rfl rfl⟩)
def qf (s0 : (List Int)) : Option Bool :=
 (qY s0).bind fun t7 =>
 some (decide (0 ≤ t7))
theorem Kb (s0 : (List Int)) (qa0 : Option Addr) (na0 ca0 : Nat) (rb : Nat) (w : World) (hw : HV w (keys [] []) [] [] [(aB qa0, aO qa0, RI.enc s0), (rb, 0, [.func (.func 99) #[] #[]])] w) (hna0 : s0.length = na0) (hqa0 : AOK na0 qa0) (hla0 : na0 ≤ ca0)  {res : Bool} (hm : qf s0 = some res) :
    Calls Try.prog 127 #[.slice qa0 na0 ca0, .func (.func 128) #[] #[ptr rb 0]] w (fun en w' => ∃ l : Unit, en = .returned (.bool res) ∧ (True) ∧ HV w (keys [] []) [] [] [] w') := by
  unfold qf at hm
  refine kb Try.func127 rfl Try.ntmps127 rfl (e := [(0, _), (1, _)]) rfl hw (jp (jm rfl rfl (j1 (jf rfl rfl (jf rfl rfl ?_)))))
  obtain ⟨t7, h1, hm⟩ := bindO hm
  refine jd [] [] rfl rfl rfl rfl rfl rfl rfl Try.call146 (fun w hh => KY s0 qa0 na0 ca0 rb w (HV.callee (S0 := []) (vs0 := []) hh (roR hh 0 rfl (roR hh 1 rfl roN))) hna0 hqa0 hla0 h1) (fun l h2 => ?_)
  refine jc rfl rfl rfl (fun _ _ => QH rfl rfl) (jm rfl rfl (jo (jw ?_)))
  obtain rfl := sj hm
  refine jn rfl (fun w hh => (.tmp rfl .nil)) (fun w hh => ⟨(), rfl, trivial, hh.se [] [] 2 rfl rfl rfl rfl⟩)
def Jm (l0 : (List Int)) : Option Bool :=
 (qf l0).bind fun t7 =>
 some (!t7)
theorem QE (l0 : (List Int)) (qa0 : Option Addr) (na0 ca0 : Nat) (w : World) (hw : HV w (keys [] []) [] [] [(aB qa0, aO qa0, RI.enc l0)] w) (hna0 : l0.length = na0) (hqa0 : AOK na0 qa0) (hla0 : na0 ≤ ca0) {res : Bool} (hm : Jm l0 = some res) :
    Calls Try.prog 91 #[.slice qa0 na0 ca0, .func (.func 99) #[] #[]] w (fun en w' => ∃ l : Unit, en = .returned (.bool res) ∧ (True) ∧ HV w (keys [] []) [] [] [] w') := by
  unfold Jm at hm
  refine kb Try.func91 rfl Try.ntmps91 rfl (e := [(0, _), (1, _)]) rfl hw (jp ?_)
  refine jH rfl rfl (fun b h1 => ?_)
  refine jm rfl rfl (j1 (jf rfl rfl (jc rfl rfl rfl (fun _ _ => jQ (u := #[]) (u' := #[_]) rfl rfl) ?_)))
  obtain ⟨t7, h2, hm⟩ := bindO hm
  refine jd [] [] rfl rfl rfl rfl rfl rfl rfl Try.call127 (fun w hh => Kb l0 qa0 na0 ca0 b w (HV.callee (S0 := []) (vs0 := []) hh (roR hh 0 rfl (roC (bsep (hh.bseg 0 rfl)) roN))) hna0 hqa0 hla0 h2) (fun l h3 => ?_)
  refine jc rfl rfl rfl (fun _ _ => kq rfl) (jm rfl rfl (jo (jw ?_)))
  obtain rfl := sj hm
  refine jn rfl (fun w hh => (.tmp rfl .nil)) (fun w hh => ⟨(), rfl, trivial, hh.se [] [] 1 rfl rfl rfl rfl⟩)
def Ql (mark0 : Int) (x1 : Span) : Option Int :=
 if 0 < mark0 then
 ((mulc mark0 x1.lo).bind fun t10 =>
 some t10) else
 ((mulc mark0 x1.hi).bind fun t14 =>
 some t14)
theorem YP (mark0 : Int) (x1 : Span)  (w : World) (hw : HV w (keys [] []) [] [] [] w)  {res : Int} (hm : Ql mark0 x1 = some res) :
    Calls Try.prog 101 #[.int .i64 mark0, .agg #[.int .i64 x1.lo, .int .i64 x1.hi]] w (fun en w' => ∃ l : Unit, en = .returned (.int .i64 res) ∧ (True) ∧ HV w (keys [] []) [] [] [] w') := by
  unfold Ql at hm
  refine kb Try.func101 rfl Try.ntmps101 rfl (e := [(0, _), (1, _)]) rfl hw (jp ?_)
  refine jH rfl rfl (fun b h1 => ?_)
  refine jm rfl rfl (jo (jj (jp (jf rfl rfl (jc rfl rfl rfl (fun _ _ => Qq rfl rfl) (jo ?_))))))
  refine jq rfl (fun h2 => ?_) (fun h2 => ?_)
  ·replace hm := ifD h2 hm
   refine jp (jf rfl rfl (jL 0 Try.runUnderlying37 rfl Try.sizeOf3 rfl rfl (jU 0 Try.isAgg3 rfl rfl rfl rfl ?_)))
   obtain ⟨t10, h3, hm⟩ := bindO hm
   refine jc rfl rfl rfl (fun _ _ => Yj h3 rfl rfl) (jm rfl rfl (jo (jw (je ?_))))
   obtain rfl := sj hm
   refine jn rfl (fun w hh => (.tmp rfl .nil)) (fun w hh => ⟨(), rfl, trivial, hh.se [] [] 0 rfl rfl rfl rfl⟩)
  ·replace hm := ifE h2 hm
   refine jr (jb (jp (jf rfl rfl (jL 1 Try.runUnderlying37 rfl Try.sizeOf3 rfl rfl (jU 0 Try.isAgg3 rfl rfl rfl rfl ?_)))))
   obtain ⟨t14, h4, hm⟩ := bindO hm
   refine jc rfl rfl rfl (fun _ _ => Yj h4 rfl rfl) (jm rfl rfl (jo (jw ?_)))
   obtain rfl := sj hm
   refine jn rfl (fun w hh => (.tmp rfl .nil)) (fun w hh => ⟨(), rfl, trivial, hh.se [] [] 0 rfl rfl rfl rfl⟩)
structure qi where
  r0 : Int
  r1 : Int
structure zd where
  sum10 : Int
  t60 : Int
def QF (m1 : Marks) (t63 : Int) (s : zd) (s0 : Scalps) (x : Int) (s_1 : Unit) : Option (Unit ⊕ Int) :=
 (ix m1.strips x).bind fun t73 =>
 (addc t63 t73).bind fun t75 =>
 (jP (⟨s.t60, x⟩ : Pair) s0.strips s0.carried).bind fun t81 =>
 if t81 < t75 then
 (some (.inr 8)) else
 (some (.inl ()))
def QC (m1 : Marks) (s0 : Scalps) (t18b : (List (Pair × Bool))) (s : zd) : Option (zd ⊕ (Int ⊕ qi)) :=
 if s.t60 < (m1.tenants.length : Int) then
 ((ix m1.tenants s.t60).bind fun t63 =>
 (Kj s0.strips s0.carried s.t60).bind fun t67 =>
 if (s0.strips.length : Int) ≤ 1000000 then ((iterX (QF m1 t63 s s0) (reachL s0.strips.length t18b t67) ()).bind fun o_3 =>
 oc o_3 (fun s_1 => (ix s0.carried s.t60).bind fun t88 =>
 (Ql t63 t88).bind fun t90 =>
 (addc s.sum10 t90).bind fun t91 =>
 (addc s.t60 1).bind fun t92 =>
 some (.inl (⟨t91, t92⟩ : zd))) (fun b_7 => some (.inr (.inr (⟨0, b_7⟩ : qi))))) else none) else
 (some (.inr (.inl s.sum10)))
structure Jp where
  sum10 : Int
  t96 : Int
def QB (m1 : Marks) (s0 : Scalps) (s_2 : Jp) : Option (Jp ⊕ Int) :=
 if s_2.t96 < (m1.strips.length : Int) then
 ((ix m1.strips s_2.t96).bind fun t99 =>
 (ix s0.strips s_2.t96).bind fun t106 =>
 (j9 (⟨t106.tenant, (⟨t106.lay.lo, t106.lay.hi⟩ : Span), (⟨t106.seeded.lo, t106.seeded.hi⟩ : Span), (⟨t106.left.lo, t106.left.hi⟩ : Span)⟩ : Strip)).bind fun t108 =>
 (Ql t99 t108).bind fun t109 =>
 (addc s_2.sum10 t109).bind fun t110 =>
 (addc s_2.t96 1).bind fun t111 =>
 some (.inl (⟨t110, t111⟩ : Jp))) else
 (some (.inr s_2.sum10))
def QQ (s0 : Scalps) (m1 : Marks) : Option qi :=
 (ks s0).bind fun t18 =>
 oc t18 (fun t18a => some (⟨0, t18a⟩ : qi)) (fun t18b => (if (m1.strips.length : Int) = (s0.strips.length : Int) then
 (some (!decide ((m1.tenants.length : Int) = (s0.carried.length : Int)))) else
 (some true)).bind fun o =>
 if o = true then
 (some (⟨0, 2⟩ : qi)) else
 (((Jm m1.strips).bind fun t46 =>
 if (!t46) = true then
 (some true) else
 ((Jm m1.tenants).bind fun t52 =>
 some (!t52))).bind fun o_1 =>
 if o_1 = true then
 (some (⟨0, 3⟩ : qi)) else
 ((JB s0.strips s0.carried).bind fun t56 =>
 (iterM FU (QC m1 s0 t18b) (⟨0, 0⟩ : zd)).bind fun o_2 =>
 oc o_2 (fun j_1 => (iterM FU (QB m1 s0) (⟨j_1, 0⟩ : Jp)).bind fun o_4 =>
 some (⟨o_4, 0⟩ : qi)) (fun r_3 => some r_3))))
theorem ZQ (s0 : Scalps) (m1 : Marks) (qa0 : Option Addr) (na0 ca0 : Nat) (qa1 : Option Addr) (na1 ca1 : Nat) (qa2 : Option Addr) (na2 ca2 : Nat) (qa3 : Option Addr) (na3 ca3 : Nat) (w : World) (hw : HV w (keys [] []) [] [] [(aB qa0, aO qa0, RSt.enc s0.strips), (aB qa1, aO qa1, RSp.enc s0.carried), (aB qa2, aO qa2, RI.enc m1.strips), (aB qa3, aO qa3, RI.enc m1.tenants)] w) (hna0 : s0.strips.length = na0) (hqa0 : AOK na0 qa0) (hla0 : na0 ≤ ca0) (hna1 : s0.carried.length = na1) (hqa1 : AOK na1 qa1) (hla1 : na1 ≤ ca1) (hna2 : m1.strips.length = na2) (hqa2 : AOK na2 qa2) (hla2 : na2 ≤ ca2) (hna3 : m1.tenants.length = na3) (hqa3 : AOK na3 qa3) (hla3 : na3 ≤ ca3) {res : qi} (hm : QQ s0 m1 = some res) :
    Calls Try.prog 40 #[.agg #[.slice qa0 na0 ca0, .slice qa1 na1 ca1], .agg #[.slice qa2 na2 ca2, .slice qa3 na3 ca3]] w (fun en w' => ∃ l : Unit, en = .returned (.tuple #[.int .i64 res.r0, .int .i64 res.r1]) ∧ (True) ∧ HV w (keys [] []) [] [] [] w') := by
  unfold QQ at hm
  refine ZP (args := [.agg #[.slice qa0 na0 ca0, .slice qa1 na1 ca1], .agg #[.slice qa2 na2 ca2, .slice qa3 na3 ca3]]) Try.func40 rfl Try.ntmps40 rfl (e := [(0, _), (1, _)]) rfl (H := HV w (keys [] []) [] [] [(aB qa0, aO qa0, RSt.enc s0.strips), (aB qa1, aO qa1, RSp.enc s0.carried), (aB qa2, aO qa2, RI.enc m1.strips), (aB qa3, aO qa3, RI.enc m1.tenants)]) hw ?_
  refine Zd (jp ?_)
  refine jH rfl rfl (fun b h1 => ?_)
  refine jH rfl rfl (fun b_1 h2 => ?_)
  refine jt (fun w => Try.zeroValue3 w) rfl (fun b_2 h3 => ?_)
  refine jt (fun w => Try.zeroValue33 w) rfl (fun b_3 h4 => ?_)
  refine j1 (kG [_, _] 3 Try.isAgg28 Try.sizeOf28 rfl rfl rfl rfl ?_)
  obtain ⟨t18, h5, hm⟩ := bindO hm
  rcases t18 with t18a | t18b
  ·replace hm := ocL hm
   refine jd [] [] rfl rfl rfl rfl rfl rfl rfl Try.call65 (fun w hh => kL s0 qa0 na0 ca0 qa1 na1 ca1 w (HV.callee (S0 := []) (vs0 := []) hh (roR hh 0 rfl (roR hh 1 rfl roN))) hna0 hqa0 hla0 hna1 hqa1 hla1 h5) (fun l h6 => ?_)
   have h7 := h6
   refine jf rfl rfl (kj rfl rfl rfl (kj rfl rfl rfl (jm rfl rfl (jm rfl rfl (j1 (jm rfl rfl (jo ?_)))))))
   refine jj (jl (jp (jf rfl rfl (jc rfl rfl rfl (fun _ _ => Ym h7 rfl rfl) (jm rfl rfl (jo (yl rfl rfl ?_)))))))
   refine jp (jf rfl rfl (yV (cs' := #[_]) (S' := [_, _, _, _]) 1 (fun w => Try.sizeOf3 w) rfl rfl rfl rfl rfl rfl rfl (yV (cs' := #[_]) (S' := [_, _, _, _]) 0 (fun w => Try.sizeOf33 w) rfl rfl rfl rfl rfl rfl rfl (jo (jw (jx (je ?_)))))))
   obtain rfl := sj hm
   refine Qk rfl rfl rfl (fun w hh => (.cell rfl (loadVar_one (Try.isAgg3 _) (hh.cell 1 rfl rfl)) (.cell rfl (loadVar_one (Try.isAgg33 _) (hh.cell 0 rfl rfl)) .nil))) (fun w hh => ⟨(), rfl, trivial, hh.se [] [] 4 rfl rfl rfl rfl⟩)
  ·replace hm := ocR hm
   refine jd [] [] rfl rfl rfl rfl rfl rfl rfl Try.call65 (fun w hh => kL s0 qa0 na0 ca0 qa1 na1 ca1 w (HV.callee (S0 := []) (vs0 := []) hh (roR hh 0 rfl (roR hh 1 rfl roN))) hna0 hqa0 hla0 hna1 hqa1 hla1 h5) (fun l_1 h8 => ?_)
   refine jS (S' := [_, _, _, _, _, _]) (vs' := [_]) [0, 1, 2, 3, 4, 5] [0] 0 rfl rfl rfl rfl (jf rfl rfl (kj rfl rfl rfl (kj rfl rfl rfl (jm rfl rfl (jm rfl rfl (j1 (jm rfl rfl ?_)))))))
   refine jo (jj (jl (jp (jf rfl rfl (jc rfl rfl rfl (fun _ _ => kv rfl rfl) (jm rfl rfl (jo ?_)))))))
   refine qO rfl rfl (jj ?_)
   obtain ⟨o, h9, h10⟩ := bindO hm
   refine YN (ι := Unit) (fun l_2 => mks []) (fun l_2 => True) (fun l_2 => [(2, ptr b 0), (3, ptr b_1 0), (4, ptr b_2 0), (5, ptr b_3 0), (6, ptr l_1.1 0), (8, .func (.func 99) #[] #[]), (25, .bool o)]) (fun l_2 => [(l_1.1, .cells #[.slice qa0 na0 ca0, .slice qa1 na1 ca1, .map (some l_1.2)] 163 (0, 0)), (l_1.2, gobj (kR RPr) kB t18b), (b_3, .cells #[.int .i64 0] 33 (0, 0)), (b_2, .cells #[.int .i64 0] 3 (0, 0)), (b_1, .cells #[.slice qa2 na2 ca2, .slice qa3 na3 ca3] 81 (0, 0)), (b, .cells #[.slice qa0 na0 ca0, .slice qa1 na1 ca1] 28 (0, 0))]) (fun l_2 => [mkV []]) ?_ ?_
   ·replace hm := h9
    refine jh (jL 0 Try.runUnderlying81 rfl Try.sizeOf32 rfl rfl (jU 4 Try.isAgg32 rfl rfl rfl rfl (jc rfl rfl rfl (fun w _ => jB hna2 (Try.runUnderlying32 w) rfl) (jL 0 Try.runUnderlying28 rfl Try.sizeOf25 rfl rfl (jU 5 Try.isAgg25 rfl rfl rfl rfl (jc rfl rfl rfl (fun w _ => jB hna0 (Try.runUnderlying25 w) rfl) (jc rfl rfl rfl (fun _ _ => kv rfl rfl) ?_)))))))
    refine jf rfl rfl ?_
    refine jD 33 rfl (fun h11 => ?_) (fun h11 => ?_)
    ·replace hm := ifF (of_ndec_true h11) hm
     refine g_k rfl rfl rfl rfl (g_k rfl rfl rfl rfl (g_k rfl rfl rfl rfl (g_k rfl rfl rfl rfl (g_k rfl rfl rfl rfl (g_k rfl rfl rfl rfl (g_k rfl rfl rfl rfl (j3 rfl rfl rfl ?_)))))))
     refine jm rfl rfl (jv ?_)
     obtain rfl := sj hm
     exact K3 () rfl (trivial) (sE rfl) (fun w hh => hh)
    ·replace hm := ifT (of_ndec_false h11) hm
     refine ja rfl rfl (jL 1 Try.runUnderlying81 rfl Try.sizeOf32 rfl rfl (ja rfl rfl (jU 4 Try.isAgg32 rfl rfl rfl rfl (ja rfl rfl (jc rfl rfl rfl (fun w _ => jB hna3 (Try.runUnderlying32 w) rfl) (ja rfl rfl (jL 1 Try.runUnderlying28 rfl Try.sizeOf26 rfl rfl ?_)))))))
     refine ja rfl rfl (jU 5 Try.isAgg26 rfl rfl rfl rfl (ja rfl rfl (jc rfl rfl rfl (fun w _ => jB hna1 (Try.runUnderlying26 w) rfl) (ja rfl rfl (jc rfl rfl rfl (fun _ _ => kv rfl rfl) (ki rfl rfl rfl (jm rfl rfl ?_)))))))
     refine jv ?_
     obtain rfl := sj hm
     exact K3 () rfl (trivial) (sE rfl) (fun w hh => hh)
   ·intro l_2 hj
    replace hm := h10
    refine jb ?_
    refine jq rfl (fun h12 => ?_) (fun h12 => ?_)
    ·replace hm := ifT (h12) hm
     refine jp (yV (cs' := #[_]) (S' := [_, _, _, _, _, _]) 3 (fun w => Try.sizeOf3 w) rfl rfl rfl rfl rfl rfl rfl (yV (cs' := #[_]) (S' := [_, _, _, _, _, _]) 2 (fun w => Try.sizeOf33 w) rfl rfl rfl rfl rfl rfl rfl (jo (jw (jx (je ?_))))))
     obtain rfl := sj hm
     refine Qk rfl rfl rfl (fun w hh => (.cell rfl (loadVar_one (Try.isAgg3 _) (hh.cell 3 rfl rfl)) (.cell rfl (loadVar_one (Try.isAgg33 _) (hh.cell 2 rfl rfl)) .nil))) (fun w hh => ⟨(), rfl, trivial, hh.se [] [] 4 rfl rfl rfl rfl⟩)
    ·replace hm := ifN h12 hm
     refine jj ?_
     obtain ⟨o_1, h13, h14⟩ := bindO hm
     refine YN (ι := Unit) (fun l_3 => mks []) (fun l_3 => True) (fun l_3 => [(2, ptr b 0), (3, ptr b_1 0), (4, ptr b_2 0), (5, ptr b_3 0), (6, ptr l_1.1 0), (42, .bool o_1)]) (fun l_3 => [(l_1.1, .cells #[.slice qa0 na0 ca0, .slice qa1 na1 ca1, .map (some l_1.2)] 163 (0, 0)), (l_1.2, gobj (kR RPr) kB t18b), (b_3, .cells #[.int .i64 0] 33 (0, 0)), (b_2, .cells #[.int .i64 0] 3 (0, 0)), (b_1, .cells #[.slice qa2 na2 ca2, .slice qa3 na3 ca3] 81 (0, 0)), (b, .cells #[.slice qa0 na0 ca0, .slice qa1 na1 ca1] 28 (0, 0))]) (fun l_3 => [mkV []]) ?_ ?_
     ·replace hm := h13
      refine jh (jL 0 Try.runUnderlying81 rfl Try.sizeOf32 rfl rfl (jU 4 Try.isAgg32 rfl rfl rfl rfl (jf rfl rfl ?_)))
      obtain ⟨t46, h15, hm⟩ := bindO hm
      refine jd [] [] rfl rfl rfl rfl rfl rfl rfl Try.call91 (fun w hh => QE m1.strips qa2 na2 ca2 w (HV.callee (S0 := []) (vs0 := []) hh (roR hh 2 rfl roN)) hna2 hqa2 hla2 h15) (fun l_4 h16 => ?_)
      refine jc rfl rfl rfl (fun _ _ => kq rfl) (jf rfl rfl ?_)
      refine jD 48 rfl (fun h17 => ?_) (fun h17 => ?_)
      ·replace hm := ifT (h17) hm
       refine g_k rfl rfl rfl rfl (g_k rfl rfl rfl rfl (g_k rfl rfl rfl rfl (g_k rfl rfl rfl rfl (g_k rfl rfl rfl rfl (j3 rfl rfl rfl (jm rfl rfl (jv ?_)))))))
       obtain rfl := sj hm
       exact K3 () rfl (trivial) (sE rfl) (fun w hh => hh)
      ·replace hm := ifN h17 hm
       refine ja rfl rfl (jL 1 Try.runUnderlying81 rfl Try.sizeOf32 rfl rfl (ja rfl rfl (jU 4 Try.isAgg32 rfl rfl rfl rfl (ja rfl rfl (jf rfl rfl (ja rfl rfl ?_))))))
       obtain ⟨t52, h18, hm⟩ := bindO hm
       refine jd [] [] rfl rfl rfl rfl rfl rfl rfl Try.call91 (fun w hh => QE m1.tenants qa3 na3 ca3 w (HV.callee (S0 := []) (vs0 := []) hh (roR hh 3 rfl roN)) hna3 hqa3 hla3 h18) (fun l_5 h19 => ?_)
       refine ja rfl rfl (jc rfl rfl rfl (fun _ _ => kq rfl) (ki rfl rfl rfl (jm rfl rfl (jv ?_))))
       obtain rfl := sj hm
       exact K3 () rfl (trivial) (sE rfl) (fun w hh => hh)
     ·intro l_3 hj
      replace hm := h14
      refine jb ?_
      refine jq rfl (fun h20 => ?_) (fun h20 => ?_)
      ·replace hm := ifT (h20) hm
       refine jp (yV (cs' := #[_]) (S' := [_, _, _, _, _, _]) 3 (fun w => Try.sizeOf3 w) rfl rfl rfl rfl rfl rfl rfl (yV (cs' := #[_]) (S' := [_, _, _, _, _, _]) 2 (fun w => Try.sizeOf33 w) rfl rfl rfl rfl rfl rfl rfl (jo (jw (jx (je ?_))))))
       obtain rfl := sj hm
       refine Qk rfl rfl rfl (fun w hh => (.cell rfl (loadVar_one (Try.isAgg3 _) (hh.cell 3 rfl rfl)) (.cell rfl (loadVar_one (Try.isAgg33 _) (hh.cell 2 rfl rfl)) .nil))) (fun w hh => ⟨(), rfl, trivial, hh.se [] [] 4 rfl rfl rfl rfl⟩)
      ·replace hm := ifN h20 hm
       refine jr (js (jb (jp (jf rfl rfl ?_))))
       obtain ⟨t56, h21, hm⟩ := bindO hm
       refine jd [] [] rfl rfl rfl rfl rfl rfl rfl Try.call67 (fun w hh => QP s0.strips s0.carried l_1.1 qa0 na0 ca0 qa1 na1 ca1 (.map (some l_1.2)) w (HV.callee (S0 := []) (vs0 := []) hh (roC (bsep (hh.bseg 0 rfl)) (roR hh 0 rfl (roR hh 1 rfl roN)))) hna0 hqa0 hla0 hna1 hqa1 hla1 h21) (fun l_6 h22 => ?_)
       refine jS (S' := [_, _, _, _, _, _, _]) (vs' := [_]) [0, 1, 2, 3, 4, 5, 6] [0] 0 rfl rfl rfl rfl ?_
       refine jt (fun w => Try.zeroValue123 w) rfl (fun b_4 h23 => ?_)
       refine jE (us := #[_]) (cs' := [_]) (S' := [_, _, _, _, _, _, _, _]) 0 (fun w => Try.sizeOf123 w) rfl rfl rfl rfl rfl rfl rfl (j1 (jm rfl rfl (jo (jj (jp (jL 1 Try.runUnderlying81 rfl Try.sizeOf32 rfl rfl (jU 6 Try.isAgg32 rfl rfl rfl rfl ?_)))))))
       refine jc rfl rfl rfl (fun w _ => jB hna3 (Try.runUnderlying32 w) rfl) (jf rfl rfl (jo ?_))
       obtain ⟨o_2, h24, h25⟩ := bindO hm
       refine YN (ι := Int × List Nat) (fun j => mks j.2) (fun j => o_2 = .inl j.1) (fun j => [(2, ptr b 0), (3, ptr b_1 0), (4, ptr b_2 0), (5, ptr b_3 0), (10, .int .i64 j.1)]) (fun j => [(b_4, .cells #[.func (.func 122) #[] #[ptr l_6 0]] 123 (0, 0)), (l_6, .cells #[.func (.func 97) #[ptr l_1.1 0] #[]] 131 (0, 0)), (l_1.1, .cells #[.slice qa0 na0 ca0, .slice qa1 na1 ca1, .map (some l_1.2)] 163 (0, 0)), (l_1.2, gobj (kR RPr) kB t18b), (b_3, .cells #[.int .i64 0] 33 (0, 0)), (b_2, .cells #[.int .i64 0] 3 (0, 0)), (b_1, .cells #[.slice qa2 na2 ca2, .slice qa3 na3 ca3] 81 (0, 0)), (b, .cells #[.slice qa0 na0 ca0, .slice qa1 na1 ca1] 28 (0, 0))]) (fun j => [mkV j.2]) ?_ ?_
       ·replace hm := h24
        refine jl ?_
        refine Yd (ι := List Nat) hm (fun s l_7 => mks l_7) (fun s l_7 => True) (fun s l_7 => [(2, ptr b 0), (3, ptr b_1 0), (4, ptr b_2 0), (5, ptr b_3 0), (6, ptr l_1.1 0), (9, ptr b_4 0), (10, .int .i64 s.sum10), (58, .slice qa3 na3 ca3), (59, .int .i64 (m1.tenants.length : Int)), (60, .int .i64 s.t60)]) (fun s l_7 => [(b_4, .cells #[.func (.func 122) #[] #[ptr l_6 0]] 123 (0, 0)), (l_6, .cells #[.func (.func 97) #[ptr l_1.1 0] #[]] 131 (0, 0)), (l_1.1, .cells #[.slice qa0 na0 ca0, .slice qa1 na1 ca1, .map (some l_1.2)] 163 (0, 0)), (l_1.2, gobj (kR RPr) kB t18b), (b_3, .cells #[.int .i64 0] 33 (0, 0)), (b_2, .cells #[.int .i64 0] 3 (0, 0)), (b_1, .cells #[.slice qa2 na2 ca2, .slice qa3 na3 ca3] 81 (0, 0)), (b, .cells #[.slice qa0 na0 ca0, .slice qa1 na1 ca1] 28 (0, 0))]) (fun s l_7 => [mkV l_7]) [] rfl (trivial) (sE rfl) (fun w hh => hh) (fun s l_7 r hpl hm h26 => ?_)
        unfold QC at hm
        refine jp (qv rfl rfl rfl (jo (jj ?_)))
        refine jq rfl (fun h27 => ?_) (fun h27 => ?_)
        ·replace hm := ifD h27 hm
         refine jr (jb (jj (jl (jp (jf rfl rfl ?_)))))
         obtain ⟨t63, h28, hm⟩ := bindO hm
         refine jc rfl rfl rfl (fun w _ => jW h28 (Try.runUnderlying32 w) (Try.sizeOf3 w) rfl rfl hna3 hqa3) (jc rfl rfl rfl (fun w hh => jV RI 0 h28 (Try.isAgg3 w) rfl (hh.seg 3 rfl) rfl (Nat.add_zero _).symm) ?_)
         refine jt (fun w => Try.zeroValue3 w) rfl (fun b_5 h29 => ?_)
         refine jt (fun w => Try.zeroValue3 w) rfl (fun b_6 h30 => ?_)
         refine yV (cs' := #[_]) (S' := [_, _, _, _, _, _, _, _, _, _]) 1 (fun w => Try.sizeOf3 w) rfl rfl rfl rfl rfl rfl rfl (yV (cs' := #[_]) (S' := [_, _, _, _, _, _, _, _, _, _]) 0 (fun w => Try.sizeOf3 w) rfl rfl rfl rfl rfl rfl rfl (jo (jj (jp (jf rfl rfl (jU 1 Try.isAgg3 rfl rfl rfl rfl ?_))))))
         obtain ⟨t67, h31, hm⟩ := bindO hm
         refine jd [] [] rfl rfl rfl rfl rfl rfl rfl Try.call100 (fun w hh => YK s0.strips s0.carried s.t60 l_1.1 qa0 na0 ca0 qa1 na1 ca1 (.map (some l_1.2)) w (HV.callee (S0 := []) (vs0 := []) hh (roC (bsep (hh.bseg 4 rfl)) (roR hh 0 rfl (roR hh 1 rfl roN)))) hna0 hqa0 hla0 hna1 hqa1 hla1 h31) (fun l_8 h32 => ?_)
         refine jS (S' := [_, _, _, _, _, _, _, _, _, _, _, _]) (vs' := [_]) [0, 1, 2, 3, 4, 5, 6, 7, 8, 9, 10, 11] [0] 0 rfl rfl rfl rfl (jo (jl ?_))
         obtain ⟨h33, hm⟩ := ifO hm
         refine ZS (e' := [(2, ptr b 0), (3, ptr b_1 0), (4, ptr b_2 0), (5, ptr b_3 0), (6, ptr l_1.1 0), (9, ptr b_4 0), (10, .int .i64 s.sum10), (11, ptr b_5 0), (12, ptr b_6 0), (58, .slice qa3 na3 ca3), (59, .int .i64 (m1.tenants.length : Int)), (60, .int .i64 s.t60), (67, .func (.func 134) #[] #[ptr l_8.1 0, ptr l_8.2 0])]) (sE rfl) ?_
         obtain ⟨o_3, h34, hm⟩ := bindO hm
         refine ZN (ι := Unit) (ι' := Unit) (reachL s0.strips.length t18b t67) (fun x => .int .i64 x) h34 (fun s_1 l_9 => True) (fun s_1 l_9 => [(l_8.1, .cells #[ptr l_1.1 0] 115 (0, 0)), (l_8.2, .cells #[.int .i64 t67] 3 (0, 0)), (b_6, .cells #[.int .i64 t63] 3 (0, 0)), (b_5, .cells #[.int .i64 s.t60] 3 (0, 0)), (b_4, .cells #[.func (.func 122) #[] #[ptr l_6 0]] 123 (0, 0)), (l_6, .cells #[.func (.func 97) #[ptr l_1.1 0] #[]] 131 (0, 0)), (l_1.1, .cells #[.slice qa0 na0 ca0, .slice qa1 na1 ca1, .map (some l_1.2)] 163 (0, 0)), (l_1.2, gobj (kR RPr) kB t18b), (b_3, .cells #[.int .i64 0] 33 (0, 0)), (b_2, .cells #[.int .i64 0] 3 (0, 0)), (b_1, .cells #[.slice qa2 na2 ca2, .slice qa3 na3 ca3] 81 (0, 0)), (b, .cells #[.slice qa0 na0 ca0, .slice qa1 na1 ca1] 28 (0, 0))]) (fun s_1 l_9 => [mkV l_7]) (fun b_7 l_10 => True) (fun b_7 l_10 => [(l_8.1, .cells #[ptr l_1.1 0] 115 (0, 0)), (l_8.2, .cells #[.int .i64 t67] 3 (0, 0)), (b_6, .cells #[.int .i64 t63] 3 (0, 0)), (b_5, .cells #[.int .i64 s.t60] 3 (0, 0)), (b_4, .cells #[.func (.func 122) #[] #[ptr l_6 0]] 123 (0, 0)), (l_6, .cells #[.func (.func 97) #[ptr l_1.1 0] #[]] 131 (0, 0)), (l_1.1, .cells #[.slice qa0 na0 ca0, .slice qa1 na1 ca1, .map (some l_1.2)] 163 (0, 0)), (l_1.2, gobj (kR RPr) kB t18b), (b_3, .cells #[.int .i64 b_7] 33 (0, 0)), (b_2, .cells #[.int .i64 0] 3 (0, 0)), (b_1, .cells #[.slice qa2 na2 ca2, .slice qa3 na3 ca3] 81 (0, 0)), (b, .cells #[.slice qa0 na0 ca0, .slice qa1 na1 ca1] 28 (0, 0))]) (fun b_7 l_10 => [mkV l_7]) () (trivial) (fun w hh => hh) (RdReach l_8.1 l_8.2 l_1.1 l_1.2 t67 qa0 na0 ca0 t18b) (fun s_1 l_9 w h35 hh => ⟨hh.cell 0 rfl rfl, hh.cell 1 rfl rfl, hh.cell 6 rfl rfl, hh.cell 6 rfl rfl, hh.get 7 rfl⟩) (fun b_7 l_10 w h35 hh => ⟨hh.cell 0 rfl rfl, hh.cell 1 rfl rfl, hh.cell 6 rfl rfl, hh.cell 6 rfl rfl, hh.get 7 rfl⟩) (it_reach _ _ _ l_8.1 l_8.2 l_1.1 l_1.2 t67 qa0 na0 ca0 s0.strips t18b hna0 h33) rfl Try.call134 rfl (e1 := fun x => (13, .int .i64 x) :: (68, .int .i64 x) :: [(2, ptr b 0), (3, ptr b_1 0), (4, ptr b_2 0), (5, ptr b_3 0), (6, ptr l_1.1 0), (9, ptr b_4 0), (10, .int .i64 s.sum10), (11, ptr b_5 0), (12, ptr b_6 0), (58, .slice qa3 na3 ca3), (59, .int .i64 (m1.tenants.length : Int)), (60, .int .i64 s.t60), (67, .func (.func 134) #[] #[ptr l_8.1 0, ptr l_8.2 0])]) (fun x lr H X hX => ?_) (fun x s_1 r_1 l_9 lr w1 h35 hm h36 => ?_) (fun s_1 l_9 D h37 h35 => ?_) (fun b_7 l_10 D h37 h35 => ?_)
         ·refine jh ?_
          refine jm rfl rfl (jo ?_)
          exact hX
         ·unfold QF at hm
          refine jl (jj ?_)
          refine jX none (.hoist 0 (.free 1 (.hoist 2 (.free 3 (.free 4 (.hoist 5 (.free 6 (.free 7 (.hoist 8 (.hoist 9 (.free 10 (.free 11 (.one 12 (.free 13 .done)))))))))))))) _ rfl (by decide +kernel) (fun w k hh => hh.draw k) (fun w hh => hh) ?_
          refine qq 2 Try.isAgg3 rfl rfl rfl rfl rfl (kO 0 Try.runUnderlying81 Try.sizeOf32 rfl rfl rfl rfl (qq 10 Try.isAgg32 rfl rfl rfl rfl rfl (kg rfl rfl rfl ?_)))
          obtain ⟨t73, h38, hm⟩ := bindO hm
          refine jk rfl rfl rfl rfl (fun w _ => jW h38 (Try.runUnderlying32 w) (Try.sizeOf3 w) rfl rfl hna2 hqa2) (jA rfl rfl rfl rfl (fun w hh => jV RI 0 h38 (Try.isAgg3 w) rfl (hh.seg 2 rfl) rfl (Nat.add_zero _).symm) ?_)
          obtain ⟨t75, h39, hm⟩ := bindO hm
          refine jk rfl rfl rfl rfl (fun _ _ => Jg h39 rfl rfl) (kO 0 Try.runUnderlying123 Try.sizeOf121 rfl rfl rfl rfl (qq 4 Try.isAgg121 rfl rfl rfl rfl rfl (qq 3 Try.isAgg3 rfl rfl rfl rfl rfl (kg rfl rfl rfl (jk rfl rfl rfl rfl (fun _ _ => jG (vs := [(0, _), (1, _)]) (cells := [_, _]) rfl rfl) (jK rfl ?_))))))
          obtain ⟨t81, h40, hm⟩ := bindO hm
          refine jd [] [] rfl rfl rfl rfl rfl rfl rfl Try.call122 (fun w hh => zt (⟨s.t60, x⟩ : Pair) s0.strips s0.carried l_6 l_1.1 qa0 na0 ca0 qa1 na1 ca1 (.map (some l_1.2)) w (HV.callee (S0 := []) (vs0 := []) hh (roC (bsep (hh.bseg 5 rfl)) (roC (bsep (hh.bseg 6 rfl)) (roR hh 0 rfl (roR hh 1 rfl roN))))) hna0 hqa0 hla0 hna1 hqa1 hla1 h40) (fun l_11 h41 => ?_)
          refine ju (fun w hh => hh) (jk rfl rfl rfl rfl (fun _ _ => Qq rfl rfl) (jI (jb ?_)))
          refine jq rfl (fun h42 => ?_) (fun h42 => ?_)
          ·replace hm := ifD h42 hm
           refine jp (yV (cs' := #[_]) (S' := [_, _, _, _, _, _, _, _, _, _, _, _]) 9 (fun w => Try.sizeOf3 w) rfl rfl rfl rfl rfl rfl rfl (yV (cs' := #[_]) (S' := [_, _, _, _, _, _, _, _, _, _, _, _]) 8 (fun w => Try.sizeOf33 w) rfl rfl rfl rfl rfl rfl rfl (jo (jw (jx ?_)))))
           obtain rfl := sj hm
           exact jaP 8 () rfl (trivial) (hsE [0, 1, 2, 3, 4, 5, 6, 7, 8, 9, 10, 11] [0] 4 rfl rfl rfl rfl)
          ·replace hm := ifE h42 hm
           refine jr (js ?_)
           obtain rfl := sj hm
           exact ja0 () () rfl (trivial) (hsE [0, 1, 2, 3, 4, 5, 6, 7, 8, 9, 10, 11] [0] 4 rfl rfl rfl rfl)
         ·subst h37
          replace hm := ocL hm
          refine Y7 0 rfl rfl (js (jb ?_))
          refine jX none (.free 0 (.hoist 1 (.free 2 (.hoist 3 (.hoist 4 (.free 5 (.hoist 6 (.one 7 (.free 8 (.free 9 .done)))))))))) _ rfl (by decide +kernel) (fun w k hh => hh.draw k) (fun w hh => hh) ?_
          refine kg rfl rfl rfl (qq 2 Try.isAgg3 rfl rfl rfl rfl rfl (kO 1 Try.runUnderlying28 Try.sizeOf26 rfl rfl rfl rfl (qq 11 Try.isAgg26 rfl rfl rfl rfl rfl (qq 3 Try.isAgg3 rfl rfl rfl rfl rfl ?_))))
          obtain ⟨t88, h43, hm⟩ := bindO hm
          refine jk rfl rfl rfl rfl (fun w _ => jW h43 (Try.runUnderlying26 w) (Try.sizeOf37 w) rfl rfl hna1 hqa1) ?_
          refine jA rfl rfl rfl rfl (fun w hh => kk RSp 0 [.int .i64 t88.lo, .int .i64 t88.hi] h43 (Try.isAgg37 w) (Try.sizeOf37 w) rfl (hh.seg 1 rfl) rfl (Nat.add_zero _).symm) ?_
          refine jK rfl ?_
          obtain ⟨t90, h44, hm⟩ := bindO hm
          refine jd [] [] rfl rfl rfl rfl rfl rfl rfl Try.call101 (fun w hh => YP t63 t88 w (HV.callee (S0 := []) (vs0 := []) hh roN)  h44) (fun l_12 h45 => ?_)
          refine ju (fun w hh => hh) ?_
          obtain ⟨t91, h46, hm⟩ := bindO hm
          refine jk rfl rfl rfl rfl (fun _ _ => Jg h46 rfl rfl) (jk rfl rfl rfl rfl (fun _ _ => jN rfl) (jI (js (jb (jh ?_)))))
          obtain ⟨t92, h47, hm⟩ := bindO hm
          refine kt h47 rfl rfl rfl (jf rfl rfl (jv ?_))
          obtain rfl := sj hm
          refine jb ?_
          exact QL _ (D :: l_7) rfl rfl (trivial) (sE rfl) (hsE [4, 5, 6, 7, 8, 9, 10, 11] [0] 0 rfl rfl rfl rfl)
         ·subst h37
          replace hm := ocR hm
          refine Y7 0 rfl rfl (jx (je (jx (je (je (jx ?_))))))
          obtain rfl := sj hm
          have hbo := h26 _ rfl
          subst hbo
          refine je ?_
          replace hm := ocR h25
          refine je ?_
          obtain rfl := sj hm
          refine Qk rfl rfl rfl (fun w hh => (.cell rfl (loadVar_one (Try.isAgg3 _) (hh.cell 9 rfl rfl)) (.cell rfl (loadVar_one (Try.isAgg33 _) (hh.cell 8 rfl rfl)) .nil))) (fun w hh => ⟨(), rfl, trivial, hh.se [] [] 4 rfl rfl rfl rfl⟩)
        ·replace hm := ifE h27 hm
         refine jM (ji (ji (jz ?_)))
         obtain rfl := sj hm
         have hbo := h26 _ rfl
         subst hbo
         exact K3 (s.sum10, l_7) rfl (rfl) (sE rfl) (fun w hh => hh)
       ·rintro ⟨j_1, l_13⟩ hj
        have h48 := hj
        subst h48
        replace hm := ocL h25
        refine jb (jj (jp (jL 0 Try.runUnderlying81 rfl Try.sizeOf32 rfl rfl (jU 6 Try.isAgg32 rfl rfl rfl rfl (jc rfl rfl rfl (fun w _ => jB hna2 (Try.runUnderlying32 w) rfl) (jf rfl rfl (jo ?_)))))))
        obtain ⟨o_4, h49, h50⟩ := bindO hm
        refine YN (ι := Unit) (fun l_14 => mks l_13) (fun l_14 => True) (fun l_14 => [(4, ptr b_2 0), (5, ptr b_3 0), (10, .int .i64 o_4)]) (fun l_14 => [(b_4, .cells #[.func (.func 122) #[] #[ptr l_6 0]] 123 (0, 0)), (l_6, .cells #[.func (.func 97) #[ptr l_1.1 0] #[]] 131 (0, 0)), (l_1.1, .cells #[.slice qa0 na0 ca0, .slice qa1 na1 ca1, .map (some l_1.2)] 163 (0, 0)), (l_1.2, gobj (kR RPr) kB t18b), (b_3, .cells #[.int .i64 0] 33 (0, 0)), (b_2, .cells #[.int .i64 0] 3 (0, 0)), (b_1, .cells #[.slice qa2 na2 ca2, .slice qa3 na3 ca3] 81 (0, 0)), (b, .cells #[.slice qa0 na0 ca0, .slice qa1 na1 ca1] 28 (0, 0))]) (fun l_14 => [mkV l_13]) ?_ ?_
        ·replace hm := h49
         refine jl ?_
         refine Yd (ι := Unit) hm (fun s_2 l_15 => mks l_13) (fun s_2 l_15 => True) (fun s_2 l_15 => [(2, ptr b 0), (4, ptr b_2 0), (5, ptr b_3 0), (10, .int .i64 s_2.sum10), (94, .slice qa2 na2 ca2), (95, .int .i64 (m1.strips.length : Int)), (96, .int .i64 s_2.t96)]) (fun s_2 l_15 => [(b_4, .cells #[.func (.func 122) #[] #[ptr l_6 0]] 123 (0, 0)), (l_6, .cells #[.func (.func 97) #[ptr l_1.1 0] #[]] 131 (0, 0)), (l_1.1, .cells #[.slice qa0 na0 ca0, .slice qa1 na1 ca1, .map (some l_1.2)] 163 (0, 0)), (l_1.2, gobj (kR RPr) kB t18b), (b_3, .cells #[.int .i64 0] 33 (0, 0)), (b_2, .cells #[.int .i64 0] 3 (0, 0)), (b_1, .cells #[.slice qa2 na2 ca2, .slice qa3 na3 ca3] 81 (0, 0)), (b, .cells #[.slice qa0 na0 ca0, .slice qa1 na1 ca1] 28 (0, 0))]) (fun s_2 l_15 => [mkV l_13]) () rfl (trivial) (sE rfl) (fun w hh => hh) (fun s_2 l_15 r_2 hpl hm h51 => ?_)
         unfold QB at hm
         refine jp (qv rfl rfl rfl (jo (jj ?_)))
         refine jq rfl (fun h52 => ?_) (fun h52 => ?_)
         ·replace hm := ifD h52 hm
          refine jr (jb (jj (jl (jp (jf rfl rfl ?_)))))
          obtain ⟨t99, h53, hm⟩ := bindO hm
          refine jc rfl rfl rfl (fun w _ => jW h53 (Try.runUnderlying32 w) (Try.sizeOf3 w) rfl rfl hna2 hqa2) (jc rfl rfl rfl (fun w hh => jV RI 0 h53 (Try.isAgg3 w) rfl (hh.seg 2 rfl) rfl (Nat.add_zero _).symm) (jm rfl rfl (jm rfl rfl (jo (jh (jf rfl rfl (jf rfl rfl ?_)))))))
          refine jL 0 Try.runUnderlying28 rfl Try.sizeOf25 rfl rfl (jU 7 Try.isAgg25 rfl rfl rfl rfl (jf rfl rfl ?_))
          obtain ⟨t106, h54, hm⟩ := bindO hm
          refine jc rfl rfl rfl (fun w _ => jW h54 (Try.runUnderlying25 w) (Try.sizeOf77 w) rfl rfl hna0 hqa0) ?_
          refine jc rfl rfl rfl (fun w hh => kk RSt 0 [.int .i64 t106.tenant, .int .i64 t106.lay.lo, .int .i64 t106.lay.hi, .int .i64 t106.seeded.lo, .int .i64 t106.seeded.hi, .int .i64 t106.left.lo, .int .i64 t106.left.hi] h54 (Try.isAgg77 w) (Try.sizeOf77 w) rfl (hh.seg 0 rfl) rfl (Nat.add_zero _).symm) ?_
          obtain ⟨t108, h55, hm⟩ := bindO hm
          refine jd [] [] rfl rfl rfl rfl rfl rfl rfl Try.call64 (fun w hh => qK (⟨t106.tenant, (⟨t106.lay.lo, t106.lay.hi⟩ : Span), (⟨t106.seeded.lo, t106.seeded.hi⟩ : Span), (⟨t106.left.lo, t106.left.hi⟩ : Span)⟩ : Strip) w (HV.callee (S0 := []) (vs0 := []) hh roN)  h55) (fun l_16 h56 => ?_)
          obtain ⟨t109, h57, hm⟩ := bindO hm
          refine jd [] [] rfl rfl rfl rfl rfl rfl rfl Try.call101 (fun w hh => YP t99 t108 w (HV.callee (S0 := []) (vs0 := []) hh roN)  h57) (fun l_17 h58 => ?_)
          obtain ⟨t110, h59, hm⟩ := bindO hm
          refine kt h59 rfl rfl rfl (jm rfl rfl (jv (js (jb (jh ?_)))))
          obtain ⟨t111, h60, hm⟩ := bindO hm
          refine kt h60 rfl rfl rfl (jf rfl rfl (jv ?_))
          obtain rfl := sj hm
          refine jb ?_
          exact QL _ () rfl rfl (trivial) (sE rfl) (fun w hh => hh)
         ·replace hm := ifE h52 hm
          refine jM (ji (ji (jz ?_)))
          obtain rfl := sj hm
          have hbo := h51 _ rfl
          subst hbo
          exact K3 () rfl (trivial) (sE rfl) (fun w hh => hh)
        ·intro l_14 hj
         replace hm := h50
         refine jb (jp (jf rfl rfl (yV (cs' := #[_]) (S' := [_, _, _, _, _, _, _, _]) 5 (fun w => Try.sizeOf3 w) rfl rfl rfl rfl rfl rfl rfl (yV (cs' := #[_]) (S' := [_, _, _, _, _, _, _, _]) 4 (fun w => Try.sizeOf33 w) rfl rfl rfl rfl rfl rfl rfl (jo (jw ?_))))))
         obtain rfl := sj hm
         refine Qk rfl rfl rfl (fun w hh => (.cell rfl (loadVar_one (Try.isAgg3 _) (hh.cell 5 rfl rfl)) (.cell rfl (loadVar_one (Try.isAgg33 _) (hh.cell 4 rfl rfl)) .nil))) (fun w hh => ⟨(), rfl, trivial, hh.se [] [] 4 rfl rfl rfl rfl⟩)
def kn (s10 : (List Int)) (s21 : (List Int)) (s : Int) : Option (Int ⊕ (Unit ⊕ Bool)) :=
 if s < (s10.length : Int) then
 ((ix s10 s).bind fun t18 =>
 (ix s21 s).bind fun t22 =>
 if t18 = t22 then
 ((addc s 1).bind fun t25 =>
 some (.inl t25)) else
 (some (.inr (.inr false)))) else
 (some (.inr (.inl ())))
def j6 (s10 : (List Int)) (s21 : (List Int)) : Option Bool :=
 if (s10.length : Int) = (s21.length : Int) then
 ((iterM FU (kn s10 s21) 0).bind fun o =>
 oc o (fun j => some true) (fun r_1 => some r_1)) else
 (some false)
theorem yD (s10 : (List Int)) (s21 : (List Int)) (qa0 : Option Addr) (na0 ca0 : Nat) (qa1 : Option Addr) (na1 ca1 : Nat) (w : World) (hw : HV w (keys [] []) [] [] [(aB qa0, aO qa0, RI.enc s10), (aB qa1, aO qa1, RI.enc s21)] w) (hna0 : s10.length = na0) (hqa0 : AOK na0 qa0) (hla0 : na0 ≤ ca0) (hna1 : s21.length = na1) (hqa1 : AOK na1 qa1) (hla1 : na1 ≤ ca1) {res : Bool} (hm : j6 s10 s21 = some res) :
    Calls Try.prog 123 #[.slice qa0 na0 ca0, .slice qa1 na1 ca1] w (fun en w' => ∃ l : Unit, en = .returned (.bool res) ∧ (True) ∧ HV w (keys [] []) [] [] [] w') := by
  unfold j6 at hm
  refine kb Try.func123 rfl Try.ntmps123 rfl (e := [(0, _), (1, _)]) rfl hw (jp (jm rfl rfl (jo (jj (jp (jf rfl rfl (jc rfl rfl rfl (fun w _ => jB hna0 (Try.runUnderlying88 w) rfl) ?_)))))))
  refine jf rfl rfl (jc rfl rfl rfl (fun w _ => jB hna1 (Try.runUnderlying88 w) rfl) (jc rfl rfl rfl (fun _ _ => kv rfl rfl) (jo ?_)))
  refine jq rfl (fun h1 => ?_) (fun h1 => ?_)
  ·replace hm := ifF (of_ndec_true h1) hm
   refine jp (jm rfl rfl (jo (jw (je ?_))))
   obtain rfl := sj hm
   refine jn rfl (fun w hh => (.tmp rfl .nil)) (fun w hh => ⟨(), rfl, trivial, hh.se [] [] 2 rfl rfl rfl rfl⟩)
  ·replace hm := ifT (of_ndec_false h1) hm
   refine jr (jb (jj (jp (jf rfl rfl (jc rfl rfl rfl (fun w _ => jB hna0 (Try.runUnderlying88 w) rfl) (jf rfl rfl (jo ?_)))))))
   obtain ⟨o, h2, h3⟩ := bindO hm
   refine jC (ι := Unit) (fun j => o = .inl j) (fun j => []) (fun j => []) (fun j => []) ?_ ?_
   ·replace hm := h2
    refine jl ?_
    refine jF (ι := Unit) hm (fun s l => True) (fun s l => [(0, .slice qa0 na0 ca0), (1, .slice qa1 na1 ca1), (12, .int .i64 (s10.length : Int)), (13, .int .i64 s)]) (fun s l => []) (fun s l => []) () (trivial) (sE rfl) (fun w hh => hh) (fun s l r hpl hm h4 => ?_)
    unfold kn at hm
    refine jp (qv rfl rfl rfl (jo (jj ?_)))
    refine jq rfl (fun h5 => ?_) (fun h5 => ?_)
    ·replace hm := ifD h5 hm
     refine jr (jb (jj (jl (jp (jf rfl rfl (jm rfl rfl (jo ?_)))))))
     refine jj ?_
     refine jX none (.free 0 (.free 1 (.free 2 (.hoist 3 (.free 4 (.free 5 (.free 6 (.hoist 7 (.free 8 .done))))))))) _ rfl (by decide +kernel) (fun w k hh => hh.draw k) (fun w hh => hh) ?_
     refine kg rfl rfl rfl (kg rfl rfl rfl ?_)
     obtain ⟨t18, h6, hm⟩ := bindO hm
     refine jk rfl rfl rfl rfl (fun w _ => jW h6 (Try.runUnderlying88 w) (Try.sizeOf91 w) rfl rfl hna0 hqa0) (jA rfl rfl rfl rfl (fun w hh => jV RI 0 h6 (Try.isAgg91 w) rfl (hh.seg 0 rfl) rfl (Nat.add_zero _).symm) (kg rfl rfl rfl (kg rfl rfl rfl ?_)))
     obtain ⟨t22, h7, hm⟩ := bindO hm
     refine jk rfl rfl rfl rfl (fun w _ => jW h7 (Try.runUnderlying88 w) (Try.sizeOf91 w) rfl rfl hna1 hqa1) (jA rfl rfl rfl rfl (fun w hh => jV RI 0 h7 (Try.isAgg91 w) rfl (hh.seg 1 rfl) rfl (Nat.add_zero _).symm) (jk rfl rfl rfl rfl (fun _ _ => kv rfl rfl) (jI (jb ?_))))
     refine jq rfl (fun h8 => ?_) (fun h8 => ?_)
     ·replace hm := ifF (of_ndec_true h8) hm
      refine jp (jm rfl rfl (jo (jw (jx (je (je (jx ?_)))))))
      obtain rfl := sj hm
      have hbo := h4 _ rfl
      subst hbo
      refine je ?_
      replace hm := ocR h3
      refine je ?_
      obtain rfl := sj hm
      refine jn rfl (fun w hh => (.tmp rfl .nil)) (fun w hh => ⟨(), rfl, trivial, hh.se [] [] 2 rfl rfl rfl rfl⟩)
     ·replace hm := ifT (of_ndec_false h8) hm
      refine jr (js (jb (jh ?_)))
      obtain ⟨t25, h9, hm⟩ := bindO hm
      refine kt h9 rfl rfl rfl (jf rfl rfl (jv ?_))
      obtain rfl := sj hm
      refine jb ?_
      exact jy _ () rfl (trivial) (sE rfl) (fun w hh => hh)
    ·replace hm := ifE h5 hm
     refine jM (ji (ji (jz ?_)))
     obtain rfl := sj hm
     have hbo := h4 _ rfl
     subst hbo
     exact jg () (rfl) (.nil) (fun w hh => hh)
   ·intro j hj
    have h10 := hj
    subst h10
    replace hm := ocL h3
    refine jb (jp (jm rfl rfl (jo (jw ?_))))
    obtain rfl := sj hm
    refine jn rfl (fun w hh => (.tmp rfl .nil)) (fun w hh => ⟨(), rfl, trivial, hh.se [] [] 2 rfl rfl rfl rfl⟩)
def yF (a0 : (List Int)) (b1 : (List Int)) : Option Bool :=
 (j6 a0 b1).bind fun t7 =>
 some t7
theorem Qu (a0 : (List Int)) (b1 : (List Int)) (qa0 : Option Addr) (na0 ca0 : Nat) (qa1 : Option Addr) (na1 ca1 : Nat) (w : World) (hw : HV w (keys [] []) [] [] [(aB qa0, aO qa0, RI.enc a0), (aB qa1, aO qa1, RI.enc b1)] w) (hna0 : a0.length = na0) (hqa0 : AOK na0 qa0) (hla0 : na0 ≤ ca0) (hna1 : b1.length = na1) (hqa1 : AOK na1 qa1) (hla1 : na1 ≤ ca1) {res : Bool} (hm : yF a0 b1 = some res) :
    Calls Try.prog 76 #[.slice qa0 na0 ca0, .slice qa1 na1 ca1] w (fun en w' => ∃ l : Unit, en = .returned (.bool res) ∧ (True) ∧ HV w (keys [] []) [] [] [] w') := by
  unfold yF at hm
  refine kb Try.func76 rfl Try.ntmps76 rfl (e := [(0, _), (1, _)]) rfl hw (jp (jm rfl rfl (j1 (jf rfl rfl (jf rfl rfl ?_)))))
  obtain ⟨t7, h1, hm⟩ := bindO hm
  refine jd [] [] rfl rfl rfl rfl rfl rfl rfl Try.call123 (fun w hh => yD a0 b1 qa0 na0 ca0 qa1 na1 ca1 w (HV.callee (S0 := []) (vs0 := []) hh (roR hh 0 rfl (roR hh 1 rfl roN))) hna0 hqa0 hla0 hna1 hqa1 hla1 h1) (fun l h2 => ?_)
  refine jm rfl rfl (jo (jw ?_))
  obtain rfl := sj hm
  refine jn rfl (fun w hh => (.tmp rfl .nil)) (fun w hh => ⟨(), rfl, trivial, hh.se [] [] 2 rfl rfl rfl rfl⟩)
def zC (x0 : Int) (a11_f0 : Scalps) : Option Bool :=
 (kf a11_f0 x0).bind fun t6 =>
 some (!t6)
theorem QR (x0 : Int) (a11_f0 : Scalps) (rb : Nat) (qa1 : Option Addr) (na1 ca1 : Nat) (qa2 : Option Addr) (na2 ca2 : Nat) (w : World) (hw : HV w (keys [] []) [] [] [(rb, 0, [.func (.func 53) #[.agg #[.slice qa1 na1 ca1, .slice qa2 na2 ca2]] #[]]), (aB qa1, aO qa1, RSt.enc a11_f0.strips), (aB qa2, aO qa2, RSp.enc a11_f0.carried)] w)  (hna1 : a11_f0.strips.length = na1) (hqa1 : AOK na1 qa1) (hla1 : na1 ≤ ca1) (hna2 : a11_f0.carried.length = na2) (hqa2 : AOK na2 qa2) (hla2 : na2 ≤ ca2) {res : Bool} (hm : zC x0 a11_f0 = some res) :
    Calls Try.prog 128 #[.int .i64 x0, ptr rb 0] w (fun en w' => ∃ l : Unit, en = .returned (.bool res) ∧ (True) ∧ HV w (keys [] []) [] [] [] w') := by
  unfold zC at hm
  refine kb Try.func128 rfl Try.ntmps128 rfl (e := [(0, _), (1, _)]) rfl hw (jp (jm rfl rfl (j1 (jc rfl rfl rfl (fun w hh => jY (Try.isAgg71 w) rfl (segCell (hh.seg 0 rfl) 0 rfl)) (jf rfl rfl ?_)))))
  obtain ⟨t6, h1, hm⟩ := bindO hm
  refine jd [] [] rfl rfl rfl rfl rfl rfl rfl Try.call53 (fun w hh => zB a11_f0 x0 qa1 na1 ca1 qa2 na2 ca2 w (HV.callee (S0 := []) (vs0 := []) hh (roR hh 1 rfl (roR hh 2 rfl roN))) hna1 hqa1 hla1 hna2 hqa2 hla2 h1) (fun l h2 => ?_)
  refine jc rfl rfl rfl (fun _ _ => kq rfl) (jm rfl rfl (jo (jw ?_)))
  obtain rfl := sj hm
  refine jn rfl (fun w hh => (.tmp rfl .nil)) (fun w hh => ⟨(), rfl, trivial, hh.se [] [] 3 rfl rfl rfl rfl⟩)
end Go.Proofs.Ws

namespace Go.Proofs.Ws
set_option maxHeartbeats 4000000
set_option maxRecDepth 100000
open Go Go.Fw Go.Gx Go.Sp
set_option linter.unusedVariables false
def yi (s0 : (List Int)) (f1_c0_f0 : Scalps) (s : Int) : Option (Int ⊕ (Unit ⊕ Int)) :=
 if s < (s0.length : Int) then
 ((ix s0 s).bind fun t14 =>
 (zC t14 f1_c0_f0).bind fun t16 =>
 if t16 = true then
 (some (.inr (.inr s))) else
 ((addc s 1).bind fun t18 =>
 some (.inl t18))) else
 (some (.inr (.inl ())))
def qo (s0 : (List Int)) (f1_c0_f0 : Scalps) : Option Int :=
 (iterM FU (yi s0 f1_c0_f0) 0).bind fun o =>
 oc o (fun j => some (-1)) (fun r_1 => some r_1)
theorem KC (s0 : (List Int)) (f1_c0_f0 : Scalps) (qa0 : Option Addr) (na0 ca0 : Nat) (rb : Nat) (qa2 : Option Addr) (na2 ca2 : Nat) (qa3 : Option Addr) (na3 ca3 : Nat) (w : World) (hw : HV w (keys [] []) [] [] [(aB qa0, aO qa0, RI.enc s0), (rb, 0, [.func (.func 53) #[.agg #[.slice qa2 na2 ca2, .slice qa3 na3 ca3]] #[]]), (aB qa2, aO qa2, RSt.enc f1_c0_f0.strips), (aB qa3, aO qa3, RSp.enc f1_c0_f0.carried)] w) (hna0 : s0.length = na0) (hqa0 : AOK na0 qa0) (hla0 : na0 ≤ ca0)  (hna2 : f1_c0_f0.strips.length = na2) (hqa2 : AOK na2 qa2) (hla2 : na2 ≤ ca2) (hna3 : f1_c0_f0.carried.length = na3) (hqa3 : AOK na3 qa3) (hla3 : na3 ≤ ca3) {res : Int} (hm : qo s0 f1_c0_f0 = some res) :
    Calls Try.prog 146 #[.slice qa0 na0 ca0, .func (.func 128) #[] #[ptr rb 0]] w (fun en w' => ∃ l : Unit, en = .returned (.int .i64 res) ∧ (True) ∧ HV w (keys [] []) [] [] [] w') := by
  unfold qo at hm
  refine kb Try.func146 rfl Try.ntmps146 rfl (e := [(0, _), (1, _)]) rfl hw (jp (jm rfl rfl (jo (jj (jp (jf rfl rfl (jc rfl rfl rfl (fun w _ => jB hna0 (Try.runUnderlying32 w) rfl) ?_)))))))
  refine jf rfl rfl (jo ?_)
  obtain ⟨o, h1, h2⟩ := bindO hm
  refine jC (ι := Unit) (fun j => o = .inl j) (fun j => []) (fun j => []) (fun j => []) ?_ ?_
  ·replace hm := h1
   refine jl ?_
   refine jF (ι := Unit) hm (fun s l => True) (fun s l => [(0, .slice qa0 na0 ca0), (1, .func (.func 128) #[] #[ptr rb 0]), (7, .int .i64 (s0.length : Int)), (8, .int .i64 s)]) (fun s l => []) (fun s l => []) () (trivial) (sE rfl) (fun w hh => hh) (fun s l r hpl hm h3 => ?_)
   unfold yi at hm
   refine jp (qv rfl rfl rfl (jo (jj ?_)))
   refine jq rfl (fun h4 => ?_) (fun h4 => ?_)
   ·replace hm := ifD h4 hm
    refine jr (jb (jj (jl (jp (jf rfl rfl (jm rfl rfl (j1 ?_)))))))
    refine jf rfl rfl (jf rfl rfl (jf rfl rfl ?_))
    obtain ⟨t14, h5, hm⟩ := bindO hm
    refine jc rfl rfl rfl (fun w _ => jW h5 (Try.runUnderlying32 w) (Try.sizeOf3 w) rfl rfl hna0 hqa0) (jc rfl rfl rfl (fun w hh => jV RI 0 h5 (Try.isAgg3 w) rfl (hh.seg 0 rfl) rfl (Nat.add_zero _).symm) ?_)
    obtain ⟨t16, h6, hm⟩ := bindO hm
    refine jd [] [] rfl rfl rfl rfl rfl rfl rfl Try.call128 (fun w hh => QR t14 f1_c0_f0 rb qa2 na2 ca2 qa3 na3 ca3 w (HV.callee (S0 := []) (vs0 := []) hh (roR hh 1 rfl (roR hh 2 rfl (roR hh 3 rfl roN)))) hna2 hqa2 hla2 hna3 hqa3 hla3 h6) (fun l_1 h7 => ?_)
    refine jo ?_
    refine jq rfl (fun h8 => ?_) (fun h8 => ?_)
    ·replace hm := ifT (h8) hm
     refine jp (jf rfl rfl (jm rfl rfl (jo (jw (jx (je (je ?_)))))))
     refine jx ?_
     obtain rfl := sj hm
     have hbo := h3 _ rfl
     subst hbo
     refine je ?_
     replace hm := ocR h2
     refine je ?_
     obtain rfl := sj hm
     refine jn rfl (fun w hh => (.tmp rfl .nil)) (fun w hh => ⟨(), rfl, trivial, hh.se [] [] 4 rfl rfl rfl rfl⟩)
    ·replace hm := ifN h8 hm
     refine jr (js (jb (jh ?_)))
     obtain ⟨t18, h9, hm⟩ := bindO hm
     refine kt h9 rfl rfl rfl (jf rfl rfl (jv ?_))
     obtain rfl := sj hm
     refine jb ?_
     exact jy _ () rfl (trivial) (sE rfl) (fun w hh => hh)
   ·replace hm := ifE h4 hm
    refine jM (ji (ji (jz ?_)))
    obtain rfl := sj hm
    have hbo := h3 _ rfl
    subst hbo
    exact jg () (rfl) (.nil) (fun w hh => hh)
  ·intro j hj
   have h10 := hj
   subst h10
   replace hm := ocL h2
   refine jb (jp (jm rfl rfl (jo (jw ?_))))
   obtain rfl := sj hm
   refine jn rfl (fun w hh => (.tmp rfl .nil)) (fun w hh => ⟨(), rfl, trivial, hh.se [] [] 4 rfl rfl rfl rfl⟩)
def kE (s0 : (List Int)) (f1_c0_f0 : Scalps) : Option Bool :=
 (qo s0 f1_c0_f0).bind fun t7 =>
 some (decide (0 ≤ t7))
theorem JO (s0 : (List Int)) (f1_c0_f0 : Scalps) (qa0 : Option Addr) (na0 ca0 : Nat) (rb : Nat) (qa2 : Option Addr) (na2 ca2 : Nat) (qa3 : Option Addr) (na3 ca3 : Nat) (w : World) (hw : HV w (keys [] []) [] [] [(aB qa0, aO qa0, RI.enc s0), (rb, 0, [.func (.func 53) #[.agg #[.slice qa2 na2 ca2, .slice qa3 na3 ca3]] #[]]), (aB qa2, aO qa2, RSt.enc f1_c0_f0.strips), (aB qa3, aO qa3, RSp.enc f1_c0_f0.carried)] w) (hna0 : s0.length = na0) (hqa0 : AOK na0 qa0) (hla0 : na0 ≤ ca0)  (hna2 : f1_c0_f0.strips.length = na2) (hqa2 : AOK na2 qa2) (hla2 : na2 ≤ ca2) (hna3 : f1_c0_f0.carried.length = na3) (hqa3 : AOK na3 qa3) (hla3 : na3 ≤ ca3) {res : Bool} (hm : kE s0 f1_c0_f0 = some res) :
    Calls Try.prog 127 #[.slice qa0 na0 ca0, .func (.func 128) #[] #[ptr rb 0]] w (fun en w' => ∃ l : Unit, en = .returned (.bool res) ∧ (True) ∧ HV w (keys [] []) [] [] [] w') := by
  unfold kE at hm
  refine kb Try.func127 rfl Try.ntmps127 rfl (e := [(0, _), (1, _)]) rfl hw (jp (jm rfl rfl (j1 (jf rfl rfl (jf rfl rfl ?_)))))
  obtain ⟨t7, h1, hm⟩ := bindO hm
  refine jd [] [] rfl rfl rfl rfl rfl rfl rfl Try.call146 (fun w hh => KC s0 f1_c0_f0 qa0 na0 ca0 rb qa2 na2 ca2 qa3 na3 ca3 w (HV.callee (S0 := []) (vs0 := []) hh (roR hh 0 rfl (roR hh 1 rfl (roR hh 2 rfl (roR hh 3 rfl roN))))) hna0 hqa0 hla0 hna2 hqa2 hla2 hna3 hqa3 hla3 h1) (fun l h2 => ?_)
  refine jc rfl rfl rfl (fun _ _ => QH rfl rfl) (jm rfl rfl (jo (jw ?_)))
  obtain rfl := sj hm
  refine jn rfl (fun w hh => (.tmp rfl .nil)) (fun w hh => ⟨(), rfl, trivial, hh.se [] [] 4 rfl rfl rfl rfl⟩)
def JE (l0 : (List Int)) (holds1_f0 : Scalps) : Option Bool :=
 (kE l0 holds1_f0).bind fun t7 =>
 some (!t7)
theorem Yv (l0 : (List Int)) (holds1_f0 : Scalps) (qa0 : Option Addr) (na0 ca0 : Nat) (qa1 : Option Addr) (na1 ca1 : Nat) (qa2 : Option Addr) (na2 ca2 : Nat) (w : World) (hw : HV w (keys [] []) [] [] [(aB qa0, aO qa0, RI.enc l0), (aB qa1, aO qa1, RSt.enc holds1_f0.strips), (aB qa2, aO qa2, RSp.enc holds1_f0.carried)] w) (hna0 : l0.length = na0) (hqa0 : AOK na0 qa0) (hla0 : na0 ≤ ca0) (hna1 : holds1_f0.strips.length = na1) (hqa1 : AOK na1 qa1) (hla1 : na1 ≤ ca1) (hna2 : holds1_f0.carried.length = na2) (hqa2 : AOK na2 qa2) (hla2 : na2 ≤ ca2) {res : Bool} (hm : JE l0 holds1_f0 = some res) :
    Calls Try.prog 91 #[.slice qa0 na0 ca0, .func (.func 53) #[.agg #[.slice qa1 na1 ca1, .slice qa2 na2 ca2]] #[]] w (fun en w' => ∃ l : Unit, en = .returned (.bool res) ∧ (True) ∧ HV w (keys [] []) [] [] [] w') := by
  unfold JE at hm
  refine kb Try.func91 rfl Try.ntmps91 rfl (e := [(0, _), (1, _)]) rfl hw (jp ?_)
  refine jH rfl rfl (fun b h1 => ?_)
  refine jm rfl rfl (j1 (jf rfl rfl (jc rfl rfl rfl (fun _ _ => jQ (u := #[]) (u' := #[_]) rfl rfl) ?_)))
  obtain ⟨t7, h2, hm⟩ := bindO hm
  refine jd [] [] rfl rfl rfl rfl rfl rfl rfl Try.call127 (fun w hh => JO l0 holds1_f0 qa0 na0 ca0 b qa1 na1 ca1 qa2 na2 ca2 w (HV.callee (S0 := []) (vs0 := []) hh (roR hh 0 rfl (roC (bsep (hh.bseg 0 rfl)) (roR hh 1 rfl (roR hh 2 rfl roN))))) hna0 hqa0 hla0 hna1 hqa1 hla1 hna2 hqa2 hla2 h2) (fun l h3 => ?_)
  refine jc rfl rfl rfl (fun _ _ => kq rfl) (jm rfl rfl (jo (jw ?_)))
  obtain rfl := sj hm
  refine jn rfl (fun w hh => (.tmp rfl .nil)) (fun w hh => ⟨(), rfl, trivial, hh.se [] [] 3 rfl rfl rfl rfl⟩)
def yX (x0 : Int) : Option Bool :=
 some (!decide (x0 = x0))
theorem Qd (x0 : Int)  (w : World) (hw : HV w (keys [] []) [] [] [] w)  {res : Bool} (hm : yX x0 = some res) :
    Calls Try.prog 147 #[.int .i64 x0] w (fun en w' => ∃ l : Unit, en = .returned (.bool res) ∧ (True) ∧ HV w (keys [] []) [] [] [] w') := by
  unfold yX at hm
  refine kb Try.func147 rfl Try.ntmps147 rfl (e := [(0, _)]) rfl hw (jp (jm rfl rfl (j1 (jf rfl rfl (jf rfl rfl (jc rfl rfl rfl (fun _ _ => kv rfl rfl) (jm rfl rfl ?_)))))))
  refine jo (jw ?_)
  obtain rfl := sj hm
  refine jn rfl (fun w hh => (.tmp rfl .nil)) (fun w hh => ⟨(), rfl, trivial, hh⟩)
def J4 (x0 : Int) (y1 : Int) : Option Bool :=
 ((yX x0).bind fun t6 =>
 if t6 = true then
 ((yX y1).bind fun t9 =>
 if (!t9) = true then
 (some true) else
 (some (decide (x0 < y1)))) else
 (some (decide (x0 < y1)))).bind fun o =>
 some o
theorem YD (x0 : Int) (y1 : Int)  (w : World) (hw : HV w (keys [] []) [] [] [] w)  {res : Bool} (hm : J4 x0 y1 = some res) :
    Calls Try.prog 129 #[.int .i64 x0, .int .i64 y1] w (fun en w' => ∃ l : Unit, en = .returned (.bool res) ∧ (True) ∧ HV w (keys [] []) [] [] [] w') := by
  unfold J4 at hm
  refine kb Try.func129 rfl Try.ntmps129 rfl (e := [(0, _), (1, _)]) rfl hw (jp (jm rfl rfl (jo (jj ?_))))
  obtain ⟨o, h1, h2⟩ := bindO hm
  refine jC (ι := Unit) (fun l => True) (fun l => [(4, .bool o)]) (fun l => []) (fun l => []) ?_ ?_
  ·replace hm := h1
   refine jh (jf rfl rfl ?_)
   obtain ⟨t6, h3, hm⟩ := bindO hm
   refine jd [] [] rfl rfl rfl rfl rfl rfl rfl Try.call147 (fun w hh => Qd x0 w (HV.callee (S0 := []) (vs0 := []) hh roN)  h3) (fun l_1 h4 => ?_)
   refine jf rfl rfl ?_
   refine jD 7 rfl (fun h5 => ?_) (fun h5 => ?_)
   ·replace hm := ifT (h5) hm
    refine ja rfl rfl (jf rfl rfl (ja rfl rfl ?_))
    obtain ⟨t9, h6, hm⟩ := bindO hm
    refine jd [] [] rfl rfl rfl rfl rfl rfl rfl Try.call147 (fun w hh => Qd y1 w (HV.callee (S0 := []) (vs0 := []) hh roN)  h6) (fun l_2 h7 => ?_)
    refine ja rfl rfl (jc rfl rfl rfl (fun _ _ => kq rfl) (j3 rfl rfl rfl (jf rfl rfl ?_)))
    refine jD 12 rfl (fun h8 => ?_) (fun h8 => ?_)
    ·replace hm := ifT (h8) hm
     refine g_k rfl rfl rfl rfl (g_k rfl rfl rfl rfl (g_k rfl rfl rfl rfl (j3 rfl rfl rfl (jm rfl rfl (jv ?_)))))
     obtain rfl := sj hm
     exact jg () (trivial) (sE rfl) (fun w hh => hh)
    ·replace hm := ifN h8 hm
     refine ja rfl rfl (jf rfl rfl (ja rfl rfl (jf rfl rfl (ja rfl rfl (qv rfl rfl rfl (ki rfl rfl rfl (jm rfl rfl ?_)))))))
     refine jv ?_
     obtain rfl := sj hm
     exact jg () (trivial) (sE rfl) (fun w hh => hh)
   ·replace hm := ifN h5 hm
    refine g_k rfl rfl rfl rfl (g_k rfl rfl rfl rfl (g_k rfl rfl rfl rfl (ki rfl rfl rfl (jf rfl rfl (ja rfl rfl (jf rfl rfl (ja rfl rfl ?_)))))))
    refine jf rfl rfl (ja rfl rfl (qv rfl rfl rfl (ki rfl rfl rfl (jm rfl rfl (jv ?_)))))
    obtain rfl := sj hm
    exact jg () (trivial) (sE rfl) (fun w hh => hh)
  ·intro l hj
   replace hm := h2
   refine jb (jw ?_)
   obtain rfl := sj hm
   refine jn rfl (fun w hh => (.tmp rfl .nil)) (fun w hh => ⟨(), rfl, trivial, hh⟩)
def zm (x0 : (List Int)) (s : Int) : Option (Int ⊕ (Unit ⊕ Bool)) :=
 if 0 < s then
 ((ix x0 s).bind fun t13 =>
 (subc s 1).bind fun t17 =>
 (ix x0 t17).bind fun t18 =>
 (J4 t13 t18).bind fun t20 =>
 if t20 = true then
 (some (.inr (.inr false))) else
 ((subc s 1).bind fun t10 =>
 some (.inl t10))) else
 (some (.inr (.inl ())))
def kV (x0 : (List Int)) : Option Bool :=
 (subc (x0.length : Int) 1).bind fun t6 =>
 (iterM FU (zm x0) t6).bind fun o =>
 oc o (fun j => some true) (fun r_1 => some r_1)
theorem Jf (x0 : (List Int)) (qa0 : Option Addr) (na0 ca0 : Nat) (w : World) (hw : HV w (keys [] []) [] [] [(aB qa0, aO qa0, RI.enc x0)] w) (hna0 : x0.length = na0) (hqa0 : AOK na0 qa0) (hla0 : na0 ≤ ca0) {res : Bool} (hm : kV x0 = some res) :
    Calls Try.prog 92 #[.slice qa0 na0 ca0] w (fun en w' => ∃ l : Unit, en = .returned (.bool res) ∧ (True) ∧ HV w (keys [] []) [] [] [] w') := by
  unfold kV at hm
  refine kb Try.func92 rfl Try.ntmps92 rfl (e := [(0, _)]) rfl hw (jp (jm rfl rfl (jo (jj (jp (jf rfl rfl (jc rfl rfl rfl (fun w _ => jB hna0 (Try.runUnderlying32 w) rfl) ?_)))))))
  obtain ⟨t6, h1, hm⟩ := bindO hm
  refine jc rfl rfl rfl (fun _ _ => k9 h1 rfl rfl) (jm rfl rfl (jo ?_))
  obtain ⟨o, h2, h3⟩ := bindO hm
  refine jC (ι := Unit) (fun j => o = .inl j) (fun j => []) (fun j => []) (fun j => []) ?_ ?_
  ·replace hm := h2
   refine jl ?_
   refine jF (ι := Unit) hm (fun s l => True) (fun s l => [(0, .slice qa0 na0 ca0), (3, .int .i64 s)]) (fun s l => []) (fun s l => []) () (trivial) (sE rfl) (fun w hh => hh) (fun s l r hpl hm h4 => ?_)
   unfold zm at hm
   refine jj (jp (jf rfl rfl (jc rfl rfl rfl (fun _ _ => Qq rfl rfl) (jo ?_))))
   refine jq rfl (fun h5 => ?_) (fun h5 => ?_)
   ·replace hm := ifD h5 hm
    refine jr (jb (jj (jl (jj ?_))))
    refine jX none (.free 0 (.free 1 (.free 2 (.hoist 3 (.free 4 (.free 5 (.free 6 (.free 7 (.hoist 8 (.one 9 .done)))))))))) _ rfl (by decide +kernel) (fun w k hh => hh.draw k) (fun w hh => hh) ?_
    refine kg rfl rfl rfl (kg rfl rfl rfl ?_)
    obtain ⟨t13, h6, hm⟩ := bindO hm
    refine jk rfl rfl rfl rfl (fun w _ => jW h6 (Try.runUnderlying32 w) (Try.sizeOf3 w) rfl rfl hna0 hqa0) (jA rfl rfl rfl rfl (fun w hh => jV RI 0 h6 (Try.isAgg3 w) rfl (hh.seg 0 rfl) rfl (Nat.add_zero _).symm) (kg rfl rfl rfl (kg rfl rfl rfl ?_)))
    obtain ⟨t17, h7, hm⟩ := bindO hm
    refine jk rfl rfl rfl rfl (fun _ _ => k9 h7 rfl rfl) ?_
    obtain ⟨t18, h8, hm⟩ := bindO hm
    refine jk rfl rfl rfl rfl (fun w _ => jW h8 (Try.runUnderlying32 w) (Try.sizeOf3 w) rfl rfl hna0 hqa0) (jA rfl rfl rfl rfl (fun w hh => jV RI 0 h8 (Try.isAgg3 w) rfl (hh.seg 0 rfl) rfl (Nat.add_zero _).symm) (jK rfl ?_))
    obtain ⟨t20, h9, hm⟩ := bindO hm
    refine jd [] [] rfl rfl rfl rfl rfl rfl rfl Try.call129 (fun w hh => YD t13 t18 w (HV.callee (S0 := []) (vs0 := []) hh roN)  h9) (fun l_1 h10 => ?_)
    refine ju (fun w hh => hh) (jI (jb ?_))
    refine jq rfl (fun h11 => ?_) (fun h11 => ?_)
    ·replace hm := ifT (h11) hm
     refine jp (jm rfl rfl (jo (jw (jx (je (je (jx ?_)))))))
     obtain rfl := sj hm
     have hbo := h4 _ rfl
     subst hbo
     refine je ?_
     replace hm := ocR h3
     refine je ?_
     obtain rfl := sj hm
     refine jn rfl (fun w hh => (.tmp rfl .nil)) (fun w hh => ⟨(), rfl, trivial, hh.se [] [] 1 rfl rfl rfl rfl⟩)
    ·replace hm := ifN h11 hm
     refine jr (js (jb (jh (jf rfl rfl ?_))))
     obtain ⟨t10, h12, hm⟩ := bindO hm
     refine jc rfl rfl rfl (fun _ _ => k9 h12 rfl rfl) (jm rfl rfl (jv ?_))
     obtain rfl := sj hm
     refine jb ?_
     exact jy _ () rfl (trivial) (sE rfl) (fun w hh => hh)
   ·replace hm := ifE h5 hm
    refine jM (ji (ji (jz ?_)))
    obtain rfl := sj hm
    have hbo := h4 _ rfl
    subst hbo
    exact jg () (rfl) (.nil) (fun w hh => hh)
  ·intro j hj
   have h13 := hj
   subst h13
   replace hm := ocL h3
   refine jb (jp (jm rfl rfl (jo (jw ?_))))
   obtain rfl := sj hm
   refine jn rfl (fun w hh => (.tmp rfl .nil)) (fun w hh => ⟨(), rfl, trivial, hh.se [] [] 1 rfl rfl rfl rfl⟩)
def q6 (s0 : (List Int)) : Option (List Int) :=
 if 0 < (s0.length : Int) then ((appc 8 [] s0).bind fun t7 =>
 some t7) else none
theorem Kq (s0 : (List Int)) (qa0 : Option Addr) (na0 ca0 : Nat) (w : World) (hw : HV w (keys [] []) [] [] [(aB qa0, aO qa0, RI.enc s0)] w) (hna0 : s0.length = na0) (hqa0 : AOK na0 qa0) (hla0 : na0 ≤ ca0) {res : (List Int)} (hm : q6 s0 = some res) :
    Calls Try.prog 94 #[.slice qa0 na0 ca0] w (fun en w' => ∃ l : VL, en = .returned (slv l.q l.n l.cap) ∧ (VOK 1 l.n l.cap (RI.enc res) l.sp l.q) ∧ HV w (keys [] []) [] [⟨3, RI.enc res, l.sp, l.q, []⟩] [] w') := by
  unfold q6 at hm
  refine kb Try.func94 rfl Try.ntmps94 rfl (e := [(0, _)]) rfl hw (jp (jc rfl rfl rfl (fun _ _ => qj rfl) (jo (jj (jp (jf rfl rfl ?_))))))
  obtain ⟨h2, hm⟩ := ifO hm
  refine jc rfl rfl rfl (fun w _ => Zv hqa0 (len_posN hna0 h2) (Try.runUnderlying32 w) rfl rfl) (jo (qO rfl rfl (jr (jb (jp ?_)))))
  refine ZB RI (fun w => Try.runUnderlying32 w) (fun w => Try.sizeOf3 w) rfl rfl (fun L h3 => ?_)
  refine jf rfl rfl ?_
  obtain ⟨t7, h4, hm⟩ := bindO hm
  refine y4 RI 0 h4 Try.underlying32 JJ rfl rfl rfl rfl rfl h3 rfl rfl hna0 hqa0 (fun w hh => (hh.seg 0 rfl)) rfl (fun L_1 h5 h5n => ?_)
  refine jS (S' := []) (vs' := [_]) [] [0] 0 rfl rfl rfl rfl (jm rfl rfl (jo (jw ?_)))
  obtain rfl := sj hm
  refine jn rfl (fun w hh => (.tmp rfl .nil)) (fun w hh => ⟨L_1, rfl, h5, hh.se [] [0] 1 rfl rfl rfl rfl⟩)
def Jj (s0 : (List Int)) (v1 : Int) (s : Int) : Option (Int ⊕ (Unit ⊕ Int)) :=
 if s < (s0.length : Int) then
 ((ix s0 s).bind fun t14 =>
 if v1 = t14 then
 (some (.inr (.inr s))) else
 ((addc s 1).bind fun t18 =>
 some (.inl t18))) else
 (some (.inr (.inl ())))
def zx (s0 : (List Int)) (v1 : Int) : Option Int :=
 (iterM FU (Jj s0 v1) 0).bind fun o =>
 oc o (fun j => some (-1)) (fun r_1 => some r_1)
theorem QV (s0 : (List Int)) (v1 : Int) (qa0 : Option Addr) (na0 ca0 : Nat) (w : World) (hw : HV w (keys [] []) [] [] [(aB qa0, aO qa0, RI.enc s0)] w) (hna0 : s0.length = na0) (hqa0 : AOK na0 qa0) (hla0 : na0 ≤ ca0) {res : Int} (hm : zx s0 v1 = some res) :
    Calls Try.prog 104 #[.slice qa0 na0 ca0, .int .i64 v1] w (fun en w' => ∃ l : Unit, en = .returned (.int .i64 res) ∧ (True) ∧ HV w (keys [] []) [] [] [] w') := by
  unfold zx at hm
  refine kb Try.func104 rfl Try.ntmps104 rfl (e := [(0, _), (1, _)]) rfl hw (jp (jm rfl rfl (jo (jj (jp (jf rfl rfl (jc rfl rfl rfl (fun w _ => jB hna0 (Try.runUnderlying32 w) rfl) ?_)))))))
  refine jf rfl rfl (jo ?_)
  obtain ⟨o, h1, h2⟩ := bindO hm
  refine jC (ι := Unit) (fun j => o = .inl j) (fun j => []) (fun j => []) (fun j => []) ?_ ?_
  ·replace hm := h1
   refine jl ?_
   refine jF (ι := Unit) hm (fun s l => True) (fun s l => [(0, .slice qa0 na0 ca0), (1, .int .i64 v1), (7, .int .i64 (s0.length : Int)), (8, .int .i64 s)]) (fun s l => []) (fun s l => []) () (trivial) (sE rfl) (fun w hh => hh) (fun s l r hpl hm h3 => ?_)
   unfold Jj at hm
   refine jp (qv rfl rfl rfl (jo (jj ?_)))
   refine jq rfl (fun h4 => ?_) (fun h4 => ?_)
   ·replace hm := ifD h4 hm
    refine jr (jb (jj (jl (jp (jf rfl rfl (jm rfl rfl (j1 ?_)))))))
    refine jf rfl rfl (jf rfl rfl (jf rfl rfl ?_))
    obtain ⟨t14, h5, hm⟩ := bindO hm
    refine jc rfl rfl rfl (fun w _ => jW h5 (Try.runUnderlying32 w) (Try.sizeOf3 w) rfl rfl hna0 hqa0) (jc rfl rfl rfl (fun w hh => jV RI 0 h5 (Try.isAgg3 w) rfl (hh.seg 0 rfl) rfl (Nat.add_zero _).symm) (jc rfl rfl rfl (fun _ _ => zr rfl rfl) (jo ?_)))
    refine jq rfl (fun h6 => ?_) (fun h6 => ?_)
    ·replace hm := ifD h6 hm
     refine jp (jf rfl rfl (jm rfl rfl (jo (jw (jx (je (je ?_)))))))
     refine jx ?_
     obtain rfl := sj hm
     have hbo := h3 _ rfl
     subst hbo
     refine je ?_
     replace hm := ocR h2
     refine je ?_
     obtain rfl := sj hm
     refine jn rfl (fun w hh => (.tmp rfl .nil)) (fun w hh => ⟨(), rfl, trivial, hh.se [] [] 1 rfl rfl rfl rfl⟩)
    ·replace hm := ifE h6 hm
     refine jr (js (jb (jh ?_)))
     obtain ⟨t18, h7, hm⟩ := bindO hm
     refine kt h7 rfl rfl rfl (jf rfl rfl (jv ?_))
     obtain rfl := sj hm
     refine jb ?_
     exact jy _ () rfl (trivial) (sE rfl) (fun w hh => hh)
   ·replace hm := ifE h4 hm
    refine jM (ji (ji (jz ?_)))
    obtain rfl := sj hm
    have hbo := h3 _ rfl
    subst hbo
    exact jg () (rfl) (.nil) (fun w hh => hh)
  ·intro j hj
   have h8 := hj
   subst h8
   replace hm := ocL h2
   refine jb (jp (jm rfl rfl (jo (jw ?_))))
   obtain rfl := sj hm
   refine jn rfl (fun w hh => (.tmp rfl .nil)) (fun w hh => ⟨(), rfl, trivial, hh.se [] [] 1 rfl rfl rfl rfl⟩)
def kT (s0 : (List Int)) (v1 : Int) : Option Bool :=
 (zx s0 v1).bind fun t7 =>
 some (decide (0 ≤ t7))
theorem Ji (s0 : (List Int)) (v1 : Int) (qa0 : Option Addr) (na0 ca0 : Nat) (w : World) (hw : HV w (keys [] []) [] [] [(aB qa0, aO qa0, RI.enc s0)] w) (hna0 : s0.length = na0) (hqa0 : AOK na0 qa0) (hla0 : na0 ≤ ca0) {res : Bool} (hm : kT s0 v1 = some res) :
    Calls Try.prog 46 #[.slice qa0 na0 ca0, .int .i64 v1] w (fun en w' => ∃ l : Unit, en = .returned (.bool res) ∧ (True) ∧ HV w (keys [] []) [] [] [] w') := by
  unfold kT at hm
  refine kb Try.func46 rfl Try.ntmps46 rfl (e := [(0, _), (1, _)]) rfl hw (jp (jm rfl rfl (j1 (jf rfl rfl (jf rfl rfl ?_)))))
  obtain ⟨t7, h1, hm⟩ := bindO hm
  refine jd [] [] rfl rfl rfl rfl rfl rfl rfl Try.call104 (fun w hh => QV s0 v1 qa0 na0 ca0 w (HV.callee (S0 := []) (vs0 := []) hh (roR hh 0 rfl roN)) hna0 hqa0 hla0 h1) (fun l h2 => ?_)
  refine jc rfl rfl rfl (fun _ _ => QH rfl rfl) (jm rfl rfl (jo (jw ?_)))
  obtain rfl := sj hm
  refine jn rfl (fun w hh => (.tmp rfl .nil)) (fun w hh => ⟨(), rfl, trivial, hh.se [] [] 1 rfl rfl rfl rfl⟩)
def Jb (k0 : Int) (a110 : (List Strip)) (a111 : (List Span)) (a112 : (List (Pair × Bool))) (a22 : Int) : Option Bool :=
 some ((aget a112 (⟨a22, k0⟩ : Pair)).getD false)
theorem Yb (k0 : Int) (a110 : (List Strip)) (a111 : (List Span)) (a112 : (List (Pair × Bool))) (a22 : Int) (rb : Nat) (rb_1 : Nat) (qa2 : Option Addr) (na2 ca2 : Nat) (qa3 : Option Addr) (na3 ca3 : Nat) (pb : Nat) (rb_2 : Nat) (w : World) (hw : HV w (keys [(pb, gobj (kR RPr) kB a112)] []) [(pb, gobj (kR RPr) kB a112)] [] [(rb, 0, [ptr rb_1 0]), (rb_1, 0, [.slice qa2 na2 ca2, .slice qa3 na3 ca3, .map (some pb)]), (aB qa2, aO qa2, RSt.enc a110), (aB qa3, aO qa3, RSp.enc a111), (rb_2, 0, [.int .i64 a22])] w)   (hna2 : a110.length = na2) (hqa2 : AOK na2 qa2) (hla2 : na2 ≤ ca2) (hna3 : a111.length = na3) (hqa3 : AOK na3 qa3) (hla3 : na3 ≤ ca3)  {res : Bool} (hm : Jb k0 a110 a111 a112 a22 = some res) :
    Calls Try.prog 130 #[.int .i64 k0, ptr rb 0, ptr rb_2 0] w (fun en w' => ∃ l : Unit, en = .returned (.bool res) ∧ (True) ∧ HV w (keys [(pb, gobj (kR RPr) kB a112)] []) [(pb, gobj (kR RPr) kB a112)] [] [] w') := by
  unfold Jb at hm
  refine kb Try.func130 rfl Try.ntmps130 rfl (e := [(0, _), (1, _), (2, _)]) rfl hw (jp (jm rfl rfl (jo (jj ?_))))
  refine jX none (.hoist 0 (.free 1 (.free 2 (.hoist 3 (.hoist 4 (.free 5 (.free 6 (.hoist 7 (.free 8 .done))))))))) _ rfl (by decide +kernel) (fun w k hh => hh.draw k) (fun w hh => hh) ?_
  refine jA rfl rfl rfl rfl (fun w hh => jY (Try.isAgg115 w) rfl (segCell (hh.seg 0 rfl) 0 rfl)) (jk rfl rfl rfl rfl (fun _ _ => jJ rfl) (kO 2 Try.runUnderlying163 Try.sizeOf161 rfl rfl rfl rfl (jA rfl rfl rfl rfl (fun w hh => jY (Try.isAgg161 w) rfl (segCell (hh.seg 1 rfl) 2 rfl)) (jA rfl rfl rfl rfl (fun w hh => jY (Try.isAgg3 w) rfl (segCell (hh.seg 4 rfl) 0 rfl)) (kg rfl rfl rfl (jk rfl rfl rfl rfl (fun _ _ => jG (vs := [(0, _), (1, _)]) (cells := [_, _]) rfl rfl) ?_))))))
  refine jA rfl rfl rfl rfl (fun w hh => ZE (k := (⟨a22, k0⟩ : Pair)) (z := false) (Try.runUnderlying161 w) Y1 (Try.zeroValue4 w) rfl rfl (hh.mget 0 rfl)) ?_
  refine jk rfl rfl rfl rfl (fun _ _ => jN rfl) (jI (jb (jw ?_)))
  obtain rfl := sj hm
  refine jn rfl (fun w hh => (.tmp rfl .nil)) (fun w hh => ⟨(), rfl, trivial, hh.se [0] [] 5 rfl rfl rfl rfl⟩)
def yk (s0 : (List Int)) (f1_c00 : (List Strip)) (f1_c01 : (List Span)) (f1_c02 : (List (Pair × Bool))) (f1_c1 : Int) (s : Int) : Option (Int ⊕ (Unit ⊕ Int)) :=
 if s < (s0.length : Int) then
 ((ix s0 s).bind fun t14 =>
 (Jb t14 f1_c00 f1_c01 f1_c02 f1_c1).bind fun t16 =>
 if t16 = true then
 (some (.inr (.inr s))) else
 ((addc s 1).bind fun t18 =>
 some (.inl t18))) else
 (some (.inr (.inl ())))
def qu (s0 : (List Int)) (f1_c00 : (List Strip)) (f1_c01 : (List Span)) (f1_c02 : (List (Pair × Bool))) (f1_c1 : Int) : Option Int :=
 (iterM FU (yk s0 f1_c00 f1_c01 f1_c02 f1_c1) 0).bind fun o =>
 oc o (fun j => some (-1)) (fun r_1 => some r_1)
theorem KJ (s0 : (List Int)) (f1_c00 : (List Strip)) (f1_c01 : (List Span)) (f1_c02 : (List (Pair × Bool))) (f1_c1 : Int) (qa0 : Option Addr) (na0 ca0 : Nat) (rb : Nat) (rb_1 : Nat) (qa3 : Option Addr) (na3 ca3 : Nat) (qa4 : Option Addr) (na4 ca4 : Nat) (pb : Nat) (rb_2 : Nat) (w : World) (hw : HV w (keys [(pb, gobj (kR RPr) kB f1_c02)] []) [(pb, gobj (kR RPr) kB f1_c02)] [] [(aB qa0, aO qa0, RI.enc s0), (rb, 0, [ptr rb_1 0]), (rb_1, 0, [.slice qa3 na3 ca3, .slice qa4 na4 ca4, .map (some pb)]), (aB qa3, aO qa3, RSt.enc f1_c00), (aB qa4, aO qa4, RSp.enc f1_c01), (rb_2, 0, [.int .i64 f1_c1])] w) (hna0 : s0.length = na0) (hqa0 : AOK na0 qa0) (hla0 : na0 ≤ ca0)   (hna3 : f1_c00.length = na3) (hqa3 : AOK na3 qa3) (hla3 : na3 ≤ ca3) (hna4 : f1_c01.length = na4) (hqa4 : AOK na4 qa4) (hla4 : na4 ≤ ca4)  {res : Int} (hm : qu s0 f1_c00 f1_c01 f1_c02 f1_c1 = some res) :
    Calls Try.prog 146 #[.slice qa0 na0 ca0, .func (.func 130) #[] #[ptr rb 0, ptr rb_2 0]] w (fun en w' => ∃ l : Unit, en = .returned (.int .i64 res) ∧ (True) ∧ HV w (keys [(pb, gobj (kR RPr) kB f1_c02)] []) [(pb, gobj (kR RPr) kB f1_c02)] [] [] w') := by
  unfold qu at hm
  refine kb Try.func146 rfl Try.ntmps146 rfl (e := [(0, _), (1, _)]) rfl hw (jp (jm rfl rfl (jo (jj (jp (jf rfl rfl (jc rfl rfl rfl (fun w _ => jB hna0 (Try.runUnderlying32 w) rfl) ?_)))))))
  refine jf rfl rfl (jo ?_)
  obtain ⟨o, h1, h2⟩ := bindO hm
  refine jC (ι := Unit) (fun j => o = .inl j) (fun j => []) (fun j => [(pb, gobj (kR RPr) kB f1_c02)]) (fun j => []) ?_ ?_
  ·replace hm := h1
   refine jl ?_
   refine jF (ι := Unit) hm (fun s l => True) (fun s l => [(0, .slice qa0 na0 ca0), (1, .func (.func 130) #[] #[ptr rb 0, ptr rb_2 0]), (7, .int .i64 (s0.length : Int)), (8, .int .i64 s)]) (fun s l => [(pb, gobj (kR RPr) kB f1_c02)]) (fun s l => []) () (trivial) (sE rfl) (fun w hh => hh) (fun s l r hpl hm h3 => ?_)
   unfold yk at hm
   refine jp (qv rfl rfl rfl (jo (jj ?_)))
   refine jq rfl (fun h4 => ?_) (fun h4 => ?_)
   ·replace hm := ifD h4 hm
    refine jr (jb (jj (jl (jp (jf rfl rfl (jm rfl rfl (j1 ?_)))))))
    refine jf rfl rfl (jf rfl rfl (jf rfl rfl ?_))
    obtain ⟨t14, h5, hm⟩ := bindO hm
    refine jc rfl rfl rfl (fun w _ => jW h5 (Try.runUnderlying32 w) (Try.sizeOf3 w) rfl rfl hna0 hqa0) (jc rfl rfl rfl (fun w hh => jV RI 0 h5 (Try.isAgg3 w) rfl (hh.seg 0 rfl) rfl (Nat.add_zero _).symm) ?_)
    obtain ⟨t16, h6, hm⟩ := bindO hm
    refine jd [_] [] rfl rfl rfl rfl rfl rfl rfl Try.call130 (fun w hh => Yb t14 f1_c00 f1_c01 f1_c02 f1_c1 rb rb_1 qa3 na3 ca3 qa4 na4 ca4 pb rb_2 w (HV.callee (S0 := [_]) (vs0 := []) hh (roR hh 1 rfl (roR hh 2 rfl (roR hh 3 rfl (roR hh 4 rfl (roR hh 5 rfl roN)))))) hna3 hqa3 hla3 hna4 hqa4 hla4 h6) (fun l_1 h7 => ?_)
    refine jS (S' := [_]) (vs' := []) [0] [] 0 rfl rfl rfl rfl (jo ?_)
    refine jq rfl (fun h8 => ?_) (fun h8 => ?_)
    ·replace hm := ifT (h8) hm
     refine jp (jf rfl rfl (jm rfl rfl (jo (jw (jx (je (je ?_)))))))
     refine jx ?_
     obtain rfl := sj hm
     have hbo := h3 _ rfl
     subst hbo
     refine je ?_
     replace hm := ocR h2
     refine je ?_
     obtain rfl := sj hm
     refine jn rfl (fun w hh => (.tmp rfl .nil)) (fun w hh => ⟨(), rfl, trivial, hh.se [0] [] 6 rfl rfl rfl rfl⟩)
    ·replace hm := ifN h8 hm
     refine jr (js (jb (jh ?_)))
     obtain ⟨t18, h9, hm⟩ := bindO hm
     refine kt h9 rfl rfl rfl (jf rfl rfl (jv ?_))
     obtain rfl := sj hm
     refine jb ?_
     exact jy _ () rfl (trivial) (sE rfl) (fun w hh => hh)
   ·replace hm := ifE h4 hm
    refine jM (ji (ji (jz ?_)))
    obtain rfl := sj hm
    have hbo := h3 _ rfl
    subst hbo
    exact jg () (rfl) (.nil) (fun w hh => hh)
  ·intro j hj
   have h10 := hj
   subst h10
   replace hm := ocL h2
   refine jb (jp (jm rfl rfl (jo (jw ?_))))
   obtain rfl := sj hm
   refine jn rfl (fun w hh => (.tmp rfl .nil)) (fun w hh => ⟨(), rfl, trivial, hh.se [0] [] 6 rfl rfl rfl rfl⟩)
def kA (s0 : (List Int)) (f1_c00 : (List Strip)) (f1_c01 : (List Span)) (f1_c02 : (List (Pair × Bool))) (f1_c1 : Int) : Option Bool :=
 (qu s0 f1_c00 f1_c01 f1_c02 f1_c1).bind fun t7 =>
 some (decide (0 ≤ t7))
theorem JM (s0 : (List Int)) (f1_c00 : (List Strip)) (f1_c01 : (List Span)) (f1_c02 : (List (Pair × Bool))) (f1_c1 : Int) (qa0 : Option Addr) (na0 ca0 : Nat) (rb : Nat) (rb_1 : Nat) (qa3 : Option Addr) (na3 ca3 : Nat) (qa4 : Option Addr) (na4 ca4 : Nat) (pb : Nat) (rb_2 : Nat) (w : World) (hw : HV w (keys [(pb, gobj (kR RPr) kB f1_c02)] []) [(pb, gobj (kR RPr) kB f1_c02)] [] [(aB qa0, aO qa0, RI.enc s0), (rb, 0, [ptr rb_1 0]), (rb_1, 0, [.slice qa3 na3 ca3, .slice qa4 na4 ca4, .map (some pb)]), (aB qa3, aO qa3, RSt.enc f1_c00), (aB qa4, aO qa4, RSp.enc f1_c01), (rb_2, 0, [.int .i64 f1_c1])] w) (hna0 : s0.length = na0) (hqa0 : AOK na0 qa0) (hla0 : na0 ≤ ca0)   (hna3 : f1_c00.length = na3) (hqa3 : AOK na3 qa3) (hla3 : na3 ≤ ca3) (hna4 : f1_c01.length = na4) (hqa4 : AOK na4 qa4) (hla4 : na4 ≤ ca4)  {res : Bool} (hm : kA s0 f1_c00 f1_c01 f1_c02 f1_c1 = some res) :
    Calls Try.prog 127 #[.slice qa0 na0 ca0, .func (.func 130) #[] #[ptr rb 0, ptr rb_2 0]] w (fun en w' => ∃ l : Unit, en = .returned (.bool res) ∧ (True) ∧ HV w (keys [(pb, gobj (kR RPr) kB f1_c02)] []) [(pb, gobj (kR RPr) kB f1_c02)] [] [] w') := by
  unfold kA at hm
  refine kb Try.func127 rfl Try.ntmps127 rfl (e := [(0, _), (1, _)]) rfl hw (jp (jm rfl rfl (j1 (jf rfl rfl (jf rfl rfl ?_)))))
  obtain ⟨t7, h1, hm⟩ := bindO hm
  refine jd [_] [] rfl rfl rfl rfl rfl rfl rfl Try.call146 (fun w hh => KJ s0 f1_c00 f1_c01 f1_c02 f1_c1 qa0 na0 ca0 rb rb_1 qa3 na3 ca3 qa4 na4 ca4 pb rb_2 w (HV.callee (S0 := [_]) (vs0 := []) hh (roR hh 0 rfl (roR hh 1 rfl (roR hh 2 rfl (roR hh 3 rfl (roR hh 4 rfl (roR hh 5 rfl roN))))))) hna0 hqa0 hla0 hna3 hqa3 hla3 hna4 hqa4 hla4 h1) (fun l h2 => ?_)
  refine jS (S' := [_]) (vs' := []) [0] [] 0 rfl rfl rfl rfl (jc rfl rfl rfl (fun _ _ => QH rfl rfl) (jm rfl rfl (jo (jw ?_))))
  obtain rfl := sj hm
  refine jn rfl (fun w hh => (.tmp rfl .nil)) (fun w hh => ⟨(), rfl, trivial, hh.se [0] [] 6 rfl rfl rfl rfl⟩)
def Je (t0 : Int) (a110 : (List Strip)) (a111 : (List Span)) (a112 : (List (Pair × Bool))) (a22 : Int) : Option Bool :=
 some ((aget a112 (⟨t0, a22⟩ : Pair)).getD false)
theorem Ya (t0 : Int) (a110 : (List Strip)) (a111 : (List Span)) (a112 : (List (Pair × Bool))) (a22 : Int) (rb : Nat) (rb_1 : Nat) (qa2 : Option Addr) (na2 ca2 : Nat) (qa3 : Option Addr) (na3 ca3 : Nat) (pb : Nat) (rb_2 : Nat) (w : World) (hw : HV w (keys [(pb, gobj (kR RPr) kB a112)] []) [(pb, gobj (kR RPr) kB a112)] [] [(rb, 0, [ptr rb_1 0]), (rb_1, 0, [.slice qa2 na2 ca2, .slice qa3 na3 ca3, .map (some pb)]), (aB qa2, aO qa2, RSt.enc a110), (aB qa3, aO qa3, RSp.enc a111), (rb_2, 0, [.int .i64 a22])] w)   (hna2 : a110.length = na2) (hqa2 : AOK na2 qa2) (hla2 : na2 ≤ ca2) (hna3 : a111.length = na3) (hqa3 : AOK na3 qa3) (hla3 : na3 ≤ ca3)  {res : Bool} (hm : Je t0 a110 a111 a112 a22 = some res) :
    Calls Try.prog 131 #[.int .i64 t0, ptr rb 0, ptr rb_2 0] w (fun en w' => ∃ l : Unit, en = .returned (.bool res) ∧ (True) ∧ HV w (keys [(pb, gobj (kR RPr) kB a112)] []) [(pb, gobj (kR RPr) kB a112)] [] [] w') := by
  unfold Je at hm
  refine kb Try.func131 rfl Try.ntmps131 rfl (e := [(0, _), (1, _), (2, _)]) rfl hw (jp (jm rfl rfl (jo (jj ?_))))
  refine jX none (.hoist 0 (.free 1 (.free 2 (.hoist 3 (.free 4 (.hoist 5 (.free 6 (.hoist 7 (.free 8 .done))))))))) _ rfl (by decide +kernel) (fun w k hh => hh.draw k) (fun w hh => hh) ?_
  refine jA rfl rfl rfl rfl (fun w hh => jY (Try.isAgg115 w) rfl (segCell (hh.seg 0 rfl) 0 rfl)) (jk rfl rfl rfl rfl (fun _ _ => jJ rfl) (kO 2 Try.runUnderlying163 Try.sizeOf161 rfl rfl rfl rfl (jA rfl rfl rfl rfl (fun w hh => jY (Try.isAgg161 w) rfl (segCell (hh.seg 1 rfl) 2 rfl)) (kg rfl rfl rfl (jA rfl rfl rfl rfl (fun w hh => jY (Try.isAgg3 w) rfl (segCell (hh.seg 4 rfl) 0 rfl)) (jk rfl rfl rfl rfl (fun _ _ => jG (vs := [(0, _), (1, _)]) (cells := [_, _]) rfl rfl) ?_))))))
  refine jA rfl rfl rfl rfl (fun w hh => ZE (k := (⟨t0, a22⟩ : Pair)) (z := false) (Try.runUnderlying161 w) Y1 (Try.zeroValue4 w) rfl rfl (hh.mget 0 rfl)) ?_
  refine jk rfl rfl rfl rfl (fun _ _ => jN rfl) (jI (jb (jw ?_)))
  obtain rfl := sj hm
  refine jn rfl (fun w hh => (.tmp rfl .nil)) (fun w hh => ⟨(), rfl, trivial, hh.se [0] [] 5 rfl rfl rfl rfl⟩)
def yj (s0 : (List Int)) (f1_c00 : (List Strip)) (f1_c01 : (List Span)) (f1_c02 : (List (Pair × Bool))) (f1_c1 : Int) (s : Int) : Option (Int ⊕ (Unit ⊕ Int)) :=
 if s < (s0.length : Int) then
 ((ix s0 s).bind fun t14 =>
 (Je t14 f1_c00 f1_c01 f1_c02 f1_c1).bind fun t16 =>
 if t16 = true then
 (some (.inr (.inr s))) else
 ((addc s 1).bind fun t18 =>
 some (.inl t18))) else
 (some (.inr (.inl ())))
def ql (s0 : (List Int)) (f1_c00 : (List Strip)) (f1_c01 : (List Span)) (f1_c02 : (List (Pair × Bool))) (f1_c1 : Int) : Option Int :=
 (iterM FU (yj s0 f1_c00 f1_c01 f1_c02 f1_c1) 0).bind fun o =>
 oc o (fun j => some (-1)) (fun r_1 => some r_1)
theorem KE (s0 : (List Int)) (f1_c00 : (List Strip)) (f1_c01 : (List Span)) (f1_c02 : (List (Pair × Bool))) (f1_c1 : Int) (qa0 : Option Addr) (na0 ca0 : Nat) (rb : Nat) (rb_1 : Nat) (qa3 : Option Addr) (na3 ca3 : Nat) (qa4 : Option Addr) (na4 ca4 : Nat) (pb : Nat) (rb_2 : Nat) (w : World) (hw : HV w (keys [(pb, gobj (kR RPr) kB f1_c02)] []) [(pb, gobj (kR RPr) kB f1_c02)] [] [(aB qa0, aO qa0, RI.enc s0), (rb, 0, [ptr rb_1 0]), (rb_1, 0, [.slice qa3 na3 ca3, .slice qa4 na4 ca4, .map (some pb)]), (aB qa3, aO qa3, RSt.enc f1_c00), (aB qa4, aO qa4, RSp.enc f1_c01), (rb_2, 0, [.int .i64 f1_c1])] w) (hna0 : s0.length = na0) (hqa0 : AOK na0 qa0) (hla0 : na0 ≤ ca0)   (hna3 : f1_c00.length = na3) (hqa3 : AOK na3 qa3) (hla3 : na3 ≤ ca3) (hna4 : f1_c01.length = na4) (hqa4 : AOK na4 qa4) (hla4 : na4 ≤ ca4)  {res : Int} (hm : ql s0 f1_c00 f1_c01 f1_c02 f1_c1 = some res) :
    Calls Try.prog 146 #[.slice qa0 na0 ca0, .func (.func 131) #[] #[ptr rb 0, ptr rb_2 0]] w (fun en w' => ∃ l : Unit, en = .returned (.int .i64 res) ∧ (True) ∧ HV w (keys [(pb, gobj (kR RPr) kB f1_c02)] []) [(pb, gobj (kR RPr) kB f1_c02)] [] [] w') := by
  unfold ql at hm
  refine kb Try.func146 rfl Try.ntmps146 rfl (e := [(0, _), (1, _)]) rfl hw (jp (jm rfl rfl (jo (jj (jp (jf rfl rfl (jc rfl rfl rfl (fun w _ => jB hna0 (Try.runUnderlying32 w) rfl) ?_)))))))
  refine jf rfl rfl (jo ?_)
  obtain ⟨o, h1, h2⟩ := bindO hm
  refine jC (ι := Unit) (fun j => o = .inl j) (fun j => []) (fun j => [(pb, gobj (kR RPr) kB f1_c02)]) (fun j => []) ?_ ?_
  ·replace hm := h1
   refine jl ?_
   refine jF (ι := Unit) hm (fun s l => True) (fun s l => [(0, .slice qa0 na0 ca0), (1, .func (.func 131) #[] #[ptr rb 0, ptr rb_2 0]), (7, .int .i64 (s0.length : Int)), (8, .int .i64 s)]) (fun s l => [(pb, gobj (kR RPr) kB f1_c02)]) (fun s l => []) () (trivial) (sE rfl) (fun w hh => hh) (fun s l r hpl hm h3 => ?_)
   unfold yj at hm
   refine jp (qv rfl rfl rfl (jo (jj ?_)))
   refine jq rfl (fun h4 => ?_) (fun h4 => ?_)
   ·replace hm := ifD h4 hm
    refine jr (jb (jj (jl (jp (jf rfl rfl (jm rfl rfl (j1 ?_)))))))
    refine jf rfl rfl (jf rfl rfl (jf rfl rfl ?_))
    obtain ⟨t14, h5, hm⟩ := bindO hm
    refine jc rfl rfl rfl (fun w _ => jW h5 (Try.runUnderlying32 w) (Try.sizeOf3 w) rfl rfl hna0 hqa0) (jc rfl rfl rfl (fun w hh => jV RI 0 h5 (Try.isAgg3 w) rfl (hh.seg 0 rfl) rfl (Nat.add_zero _).symm) ?_)
    obtain ⟨t16, h6, hm⟩ := bindO hm
    refine jd [_] [] rfl rfl rfl rfl rfl rfl rfl Try.call131 (fun w hh => Ya t14 f1_c00 f1_c01 f1_c02 f1_c1 rb rb_1 qa3 na3 ca3 qa4 na4 ca4 pb rb_2 w (HV.callee (S0 := [_]) (vs0 := []) hh (roR hh 1 rfl (roR hh 2 rfl (roR hh 3 rfl (roR hh 4 rfl (roR hh 5 rfl roN)))))) hna3 hqa3 hla3 hna4 hqa4 hla4 h6) (fun l_1 h7 => ?_)
    refine jS (S' := [_]) (vs' := []) [0] [] 0 rfl rfl rfl rfl (jo ?_)
    refine jq rfl (fun h8 => ?_) (fun h8 => ?_)
    ·replace hm := ifT (h8) hm
     refine jp (jf rfl rfl (jm rfl rfl (jo (jw (jx (je (je ?_)))))))
     refine jx ?_
     obtain rfl := sj hm
     have hbo := h3 _ rfl
     subst hbo
     refine je ?_
     replace hm := ocR h2
     refine je ?_
     obtain rfl := sj hm
     refine jn rfl (fun w hh => (.tmp rfl .nil)) (fun w hh => ⟨(), rfl, trivial, hh.se [0] [] 6 rfl rfl rfl rfl⟩)
    ·replace hm := ifN h8 hm
     refine jr (js (jb (jh ?_)))
     obtain ⟨t18, h9, hm⟩ := bindO hm
     refine kt h9 rfl rfl rfl (jf rfl rfl (jv ?_))
     obtain rfl := sj hm
     refine jb ?_
     exact jy _ () rfl (trivial) (sE rfl) (fun w hh => hh)
   ·replace hm := ifE h4 hm
    refine jM (ji (ji (jz ?_)))
    obtain rfl := sj hm
    have hbo := h3 _ rfl
    subst hbo
    exact jg () (rfl) (.nil) (fun w hh => hh)
  ·intro j hj
   have h10 := hj
   subst h10
   replace hm := ocL h2
   refine jb (jp (jm rfl rfl (jo (jw ?_))))
   obtain rfl := sj hm
   refine jn rfl (fun w hh => (.tmp rfl .nil)) (fun w hh => ⟨(), rfl, trivial, hh.se [0] [] 6 rfl rfl rfl rfl⟩)
def kC (s0 : (List Int)) (f1_c00 : (List Strip)) (f1_c01 : (List Span)) (f1_c02 : (List (Pair × Bool))) (f1_c1 : Int) : Option Bool :=
 (ql s0 f1_c00 f1_c01 f1_c02 f1_c1).bind fun t7 =>
 some (decide (0 ≤ t7))
theorem JP (s0 : (List Int)) (f1_c00 : (List Strip)) (f1_c01 : (List Span)) (f1_c02 : (List (Pair × Bool))) (f1_c1 : Int) (qa0 : Option Addr) (na0 ca0 : Nat) (rb : Nat) (rb_1 : Nat) (qa3 : Option Addr) (na3 ca3 : Nat) (qa4 : Option Addr) (na4 ca4 : Nat) (pb : Nat) (rb_2 : Nat) (w : World) (hw : HV w (keys [(pb, gobj (kR RPr) kB f1_c02)] []) [(pb, gobj (kR RPr) kB f1_c02)] [] [(aB qa0, aO qa0, RI.enc s0), (rb, 0, [ptr rb_1 0]), (rb_1, 0, [.slice qa3 na3 ca3, .slice qa4 na4 ca4, .map (some pb)]), (aB qa3, aO qa3, RSt.enc f1_c00), (aB qa4, aO qa4, RSp.enc f1_c01), (rb_2, 0, [.int .i64 f1_c1])] w) (hna0 : s0.length = na0) (hqa0 : AOK na0 qa0) (hla0 : na0 ≤ ca0)   (hna3 : f1_c00.length = na3) (hqa3 : AOK na3 qa3) (hla3 : na3 ≤ ca3) (hna4 : f1_c01.length = na4) (hqa4 : AOK na4 qa4) (hla4 : na4 ≤ ca4)  {res : Bool} (hm : kC s0 f1_c00 f1_c01 f1_c02 f1_c1 = some res) :
    Calls Try.prog 127 #[.slice qa0 na0 ca0, .func (.func 131) #[] #[ptr rb 0, ptr rb_2 0]] w (fun en w' => ∃ l : Unit, en = .returned (.bool res) ∧ (True) ∧ HV w (keys [(pb, gobj (kR RPr) kB f1_c02)] []) [(pb, gobj (kR RPr) kB f1_c02)] [] [] w') := by
  unfold kC at hm
  refine kb Try.func127 rfl Try.ntmps127 rfl (e := [(0, _), (1, _)]) rfl hw (jp (jm rfl rfl (j1 (jf rfl rfl (jf rfl rfl ?_)))))
  obtain ⟨t7, h1, hm⟩ := bindO hm
  refine jd [_] [] rfl rfl rfl rfl rfl rfl rfl Try.call146 (fun w hh => KE s0 f1_c00 f1_c01 f1_c02 f1_c1 qa0 na0 ca0 rb rb_1 qa3 na3 ca3 qa4 na4 ca4 pb rb_2 w (HV.callee (S0 := [_]) (vs0 := []) hh (roR hh 0 rfl (roR hh 1 rfl (roR hh 2 rfl (roR hh 3 rfl (roR hh 4 rfl (roR hh 5 rfl roN))))))) hna0 hqa0 hla0 hna3 hqa3 hla3 hna4 hqa4 hla4 h1) (fun l h2 => ?_)
  refine jS (S' := [_]) (vs' := []) [0] [] 0 rfl rfl rfl rfl (jc rfl rfl rfl (fun _ _ => QH rfl rfl) (jm rfl rfl (jo (jw ?_))))
  obtain rfl := sj hm
  refine jn rfl (fun w hh => (.tmp rfl .nil)) (fun w hh => ⟨(), rfl, trivial, hh.se [0] [] 6 rfl rfl rfl rfl⟩)
structure Kh where
  need5 : Int
  can6 : Int
structure yg where
  need5 : Int
  can6 : Int
  t17 : Int
structure zy where
  need5 : Int
  can6 : Int
def Kl (d01 : (List Span)) (l1 : Lack) (d00 : (List Strip)) (d02 : (List (Pair × Bool))) (s : yg) : Option (yg ⊕ Kh) :=
 if s.t17 < (d01.length : Int) then
 (((ix d01 s.t17).bind fun t20 =>
 (if l1.tenants = true then
 ((kT l1.of_ s.t17).bind fun t29 =>
 some t29) else
 (some false)).bind fun o_2 =>
 if o_2 = true then
 ((addc s.need5 t20.lo).bind fun t34 =>
 some (⟨t34, s.can6⟩ : zy)) else
 ((if (!l1.tenants) = true then
 ((kA l1.of_ d00 d01 d02 s.t17).bind fun t43 =>
 some t43) else
 (some false)).bind fun o_3 =>
 if o_3 = true then
 ((addc s.can6 t20.hi).bind fun t48 =>
 some (⟨s.need5, t48⟩ : zy)) else
 (some (⟨s.need5, s.can6⟩ : zy)))).bind fun o_1 =>
 (addc s.t17 1).bind fun t49 =>
 some (.inl (⟨o_1.need5, o_1.can6, t49⟩ : yg))) else
 (some (.inr (⟨s.need5, s.can6⟩ : Kh)))
structure J8 where
  need5 : Int
  can6 : Int
structure yf where
  need5 : Int
  can6 : Int
  t56 : Int
structure zE where
  need5 : Int
  can6 : Int
def Kr (d00 : (List Strip)) (l1 : Lack) (d01 : (List Span)) (d02 : (List (Pair × Bool))) (s_1 : yf) : Option (yf ⊕ J8) :=
 if s_1.t56 < (d00.length : Int) then
 (((ix d00 s_1.t56).bind fun t59 =>
 (if (!l1.tenants) = true then
 ((kT l1.of_ s_1.t56).bind fun t69 =>
 some t69) else
 (some false)).bind fun o_6 =>
 if o_6 = true then
 ((j9 (⟨t59.tenant, (⟨t59.lay.lo, t59.lay.hi⟩ : Span), (⟨t59.seeded.lo, t59.seeded.hi⟩ : Span), (⟨t59.left.lo, t59.left.hi⟩ : Span)⟩ : Strip)).bind fun t73 =>
 (addc s_1.need5 t73.lo).bind fun t75 =>
 some (⟨t75, s_1.can6⟩ : zE)) else
 ((if l1.tenants = true then
 ((kC l1.of_ d00 d01 d02 s_1.t56).bind fun t83 =>
 some t83) else
 (some false)).bind fun o_7 =>
 if o_7 = true then
 ((j9 (⟨t59.tenant, (⟨t59.lay.lo, t59.lay.hi⟩ : Span), (⟨t59.seeded.lo, t59.seeded.hi⟩ : Span), (⟨t59.left.lo, t59.left.hi⟩ : Span)⟩ : Strip)).bind fun t87 =>
 (addc s_1.can6 t87.hi).bind fun t89 =>
 some (⟨s_1.need5, t89⟩ : zE)) else
 (some (⟨s_1.need5, s_1.can6⟩ : zE)))).bind fun o_5 =>
 (addc s_1.t56 1).bind fun t90 =>
 some (.inl (⟨o_5.need5, o_5.can6, t90⟩ : yf))) else
 (some (.inr (⟨s_1.need5, s_1.can6⟩ : J8)))
def qM (d00 : (List Strip)) (d01 : (List Span)) (d02 : (List (Pair × Bool))) (l1 : Lack) : Option Int :=
 (iterM FU (Kl d01 l1 d00 d02) (⟨0, 0, 0⟩ : yg)).bind fun o =>
 (iterM FU (Kr d00 l1 d01 d02) (⟨o.need5, o.can6, 0⟩ : yf)).bind fun o_4 =>
 (subc o_4.need5 o_4.can6).bind fun t93 =>
 some t93
theorem zL (d00 : (List Strip)) (d01 : (List Span)) (d02 : (List (Pair × Bool))) (l1 : Lack) (rb : Nat) (qa1 : Option Addr) (na1 ca1 : Nat) (qa2 : Option Addr) (na2 ca2 : Nat) (pb : Nat) (qa3 : Option Addr) (na3 ca3 : Nat) (w : World) (hw : HV w (keys [(pb, gobj (kR RPr) kB d02)] []) [(pb, gobj (kR RPr) kB d02)] [] [(rb, 0, [.slice qa1 na1 ca1, .slice qa2 na2 ca2, .map (some pb)]), (aB qa1, aO qa1, RSt.enc d00), (aB qa2, aO qa2, RSp.enc d01), (aB qa3, aO qa3, RI.enc l1.of_)] w)  (hna1 : d00.length = na1) (hqa1 : AOK na1 qa1) (hla1 : na1 ≤ ca1) (hna2 : d01.length = na2) (hqa2 : AOK na2 qa2) (hla2 : na2 ≤ ca2) (hna3 : l1.of_.length = na3) (hqa3 : AOK na3 qa3) (hla3 : na3 ≤ ca3) {res : Int} (hm : qM d00 d01 d02 l1 = some res) :
    Calls Try.prog 95 #[ptr rb 0, .agg #[.bool l1.tenants, .slice qa3 na3 ca3]] w (fun en w' => ∃ l : Unit, en = .returned (.int .i64 res) ∧ (True) ∧ HV w (keys [(pb, gobj (kR RPr) kB d02)] []) [(pb, gobj (kR RPr) kB d02)] [] [] w') := by
  unfold qM at hm
  refine kb Try.func95 rfl Try.ntmps95 rfl (e := [(0, _), (1, _)]) rfl hw (jp ?_)
  refine jH rfl rfl (fun b h1 => ?_)
  refine jH rfl rfl (fun b_1 h2 => ?_)
  refine jm rfl rfl (j1 (jm rfl rfl (jm rfl rfl (jo (jj (jp (jU 1 Try.isAgg115 rfl rfl rfl rfl ?_)))))))
  refine jc rfl rfl rfl (fun _ _ => jJ rfl) (jL 0 Try.runUnderlying163 rfl Try.sizeOf28 rfl rfl (jL 1 Try.runUnderlying28 rfl Try.sizeOf26 rfl rfl (jc rfl rfl rfl (fun w hh => jY (Try.isAgg26 w) rfl (segCell (hh.seg 0 rfl) 1 rfl)) (jc rfl rfl rfl (fun w _ => jB hna2 (Try.runUnderlying26 w) rfl) (jf rfl rfl (jo ?_))))))
  obtain ⟨o, h3, h4⟩ := bindO hm
  refine jC (ι := Unit) (fun l => True) (fun l => [(2, ptr b 0), (3, ptr b_1 0), (5, .int .i64 o.need5), (6, .int .i64 o.can6)]) (fun l => [(b_1, .cells #[.bool l1.tenants, .slice qa3 na3 ca3] 61 (0, 0)), (b, .cells #[ptr rb 0] 115 (0, 0)), (pb, gobj (kR RPr) kB d02)]) (fun l => []) ?_ ?_
  ·replace hm := h3
   refine jl ?_
   refine jF (ι := Unit) hm (fun s l_1 => True) (fun s l_1 => [(2, ptr b 0), (3, ptr b_1 0), (5, .int .i64 s.need5), (6, .int .i64 s.can6), (15, .slice qa2 na2 ca2), (16, .int .i64 (d01.length : Int)), (17, .int .i64 s.t17)]) (fun s l_1 => [(b_1, .cells #[.bool l1.tenants, .slice qa3 na3 ca3] 61 (0, 0)), (b, .cells #[ptr rb 0] 115 (0, 0)), (pb, gobj (kR RPr) kB d02)]) (fun s l_1 => []) () (trivial) (sE rfl) (fun w hh => hh) (fun s l_1 r hpl hm h5 => ?_)
   unfold Kl at hm
   refine jp (qv rfl rfl rfl (jo (jj ?_)))
   refine jq rfl (fun h6 => ?_) (fun h6 => ?_)
   ·replace hm := ifD h6 hm
    refine jr (jb (jj ?_))
    obtain ⟨o_1, h7, h8⟩ := bindO hm
    refine jC (ι := Unit) (fun l_2 => True) (fun l_2 => [(2, ptr b 0), (3, ptr b_1 0), (5, .int .i64 o_1.need5), (6, .int .i64 o_1.can6), (15, .slice qa2 na2 ca2), (16, .int .i64 (d01.length : Int)), (17, .int .i64 s.t17)]) (fun l_2 => [(b_1, .cells #[.bool l1.tenants, .slice qa3 na3 ca3] 61 (0, 0)), (b, .cells #[ptr rb 0] 115 (0, 0)), (pb, gobj (kR RPr) kB d02)]) (fun l_2 => []) ?_ ?_
    ·replace hm := h7
     refine jl (jp (jf rfl rfl ?_))
     obtain ⟨t20, h9, hm⟩ := bindO hm
     refine jc rfl rfl rfl (fun w _ => jW h9 (Try.runUnderlying26 w) (Try.sizeOf37 w) rfl rfl hna2 hqa2) ?_
     refine jc rfl rfl rfl (fun w hh => kk RSp 0 [.int .i64 t20.lo, .int .i64 t20.hi] h9 (Try.isAgg37 w) (Try.sizeOf37 w) rfl (hh.seg 2 rfl) rfl (Nat.add_zero _).symm) ?_
     refine jt (fun w => Try.zeroValue3 w) rfl (fun b_2 h10 => ?_)
     refine jt (fun w => Try.zeroValue37 w) rfl (fun b_3 h11 => ?_)
     refine yV (cs' := #[_]) (S' := [_, _, _, _, _]) 1 (fun w => Try.sizeOf3 w) rfl rfl rfl rfl rfl rfl rfl (jE (us := #[_, _]) (cs' := [_, _]) (S' := [_, _, _, _, _]) 0 (fun w => Try.sizeOf37 w) rfl rfl rfl rfl rfl rfl rfl (jo (jl (jj ?_))))
     obtain ⟨o_2, h12, h13⟩ := bindO hm
     refine jC (ι := Unit) (fun l_3 => True) (fun l_3 => [(2, ptr b 0), (3, ptr b_1 0), (5, .int .i64 s.need5), (6, .int .i64 s.can6), (7, ptr b_2 0), (8, ptr b_3 0), (15, .slice qa2 na2 ca2), (16, .int .i64 (d01.length : Int)), (17, .int .i64 s.t17), (22, .bool o_2)]) (fun l_3 => [(b_3, .cells #[.int .i64 t20.lo, .int .i64 t20.hi] 37 (0, 0)), (b_2, .cells #[.int .i64 s.t17] 3 (0, 0)), (b_1, .cells #[.bool l1.tenants, .slice qa3 na3 ca3] 61 (0, 0)), (b, .cells #[ptr rb 0] 115 (0, 0)), (pb, gobj (kR RPr) kB d02)]) (fun l_3 => []) ?_ ?_
     ·replace hm := h12
      refine jh (jL 0 Try.runUnderlying61 rfl Try.sizeOf4 rfl rfl (jU 2 Try.isAgg4 rfl rfl rfl rfl (jf rfl rfl ?_)))
      refine jD 25 rfl (fun h14 => ?_) (fun h14 => ?_)
      ·replace hm := ifT (h14) hm
       refine ja rfl rfl (jL 1 Try.runUnderlying61 rfl Try.sizeOf32 rfl rfl (ja rfl rfl (jU 2 Try.isAgg32 rfl rfl rfl rfl (ja rfl rfl (jU 1 Try.isAgg3 rfl rfl rfl rfl (ja rfl rfl ?_))))))
       obtain ⟨t29, h15, hm⟩ := bindO hm
       refine jd [] [] rfl rfl rfl rfl rfl rfl rfl Try.call46 (fun w hh => Ji l1.of_ s.t17 qa3 na3 ca3 w (HV.callee (S0 := []) (vs0 := []) hh (roR hh 3 rfl roN)) hna3 hqa3 hla3 h15) (fun l_4 h16 => ?_)
       refine j3 rfl rfl rfl (jm rfl rfl (jv ?_))
       obtain rfl := sj hm
       exact jg () (trivial) (sE rfl) (fun w hh => hh)
      ·replace hm := ifN h14 hm
       refine g_k rfl rfl rfl rfl (g_k rfl rfl rfl rfl (g_k rfl rfl rfl rfl (g_k rfl rfl rfl rfl (ki rfl rfl rfl (jm rfl rfl (jv ?_))))))
       obtain rfl := sj hm
       exact jg () (trivial) (sE rfl) (fun w hh => hh)
     ·intro l_3 hj
      replace hm := h13
      refine jb ?_
      refine jq rfl (fun h17 => ?_) (fun h17 => ?_)
      ·replace hm := ifT (h17) hm
       refine jh (jf rfl rfl (jL 0 Try.runUnderlying37 rfl Try.sizeOf3 rfl rfl (jU 0 Try.isAgg3 rfl rfl rfl rfl ?_)))
       obtain ⟨t34, h18, hm⟩ := bindO hm
       refine kt h18 rfl rfl rfl (jm rfl rfl (jv (js (js ?_))))
       obtain rfl := sj hm
       exact jg () (trivial) (sE rfl) (hsE [2, 3, 4] [] 0 rfl rfl rfl rfl)
      ·replace hm := ifN h17 hm
       refine jj ?_
       obtain ⟨o_3, h19, h20⟩ := bindO hm
       refine jC (ι := Unit) (fun l_5 => True) (fun l_5 => [(2, ptr b 0), (3, ptr b_1 0), (5, .int .i64 s.need5), (6, .int .i64 s.can6), (8, ptr b_3 0), (15, .slice qa2 na2 ca2), (16, .int .i64 (d01.length : Int)), (17, .int .i64 s.t17), (35, .bool o_3)]) (fun l_5 => [(b_3, .cells #[.int .i64 t20.lo, .int .i64 t20.hi] 37 (0, 0)), (b_2, .cells #[.int .i64 s.t17] 3 (0, 0)), (b_1, .cells #[.bool l1.tenants, .slice qa3 na3 ca3] 61 (0, 0)), (b, .cells #[ptr rb 0] 115 (0, 0)), (pb, gobj (kR RPr) kB d02)]) (fun l_5 => []) ?_ ?_
       ·replace hm := h19
        refine jh (jL 0 Try.runUnderlying61 rfl Try.sizeOf4 rfl rfl (jU 2 Try.isAgg4 rfl rfl rfl rfl (jc rfl rfl rfl (fun _ _ => kq rfl) (jf rfl rfl ?_))))
        refine jD 39 rfl (fun h21 => ?_) (fun h21 => ?_)
        ·replace hm := ifT (h21) hm
         refine ja rfl rfl (jL 1 Try.runUnderlying61 rfl Try.sizeOf32 rfl rfl (ja rfl rfl (jU 2 Try.isAgg32 rfl rfl rfl rfl (ja rfl rfl (jc rfl rfl rfl (fun _ _ => jQ (u := #[]) (u' := #[_, _]) rfl rfl) (ja rfl rfl ?_))))))
         obtain ⟨t43, h22, hm⟩ := bindO hm
         refine jS (S' := [_, _, _, _, _]) (vs' := []) [4, 0, 1, 2, 3] [] 0 rfl rfl rfl rfl ?_
         refine jd [_] [] rfl rfl rfl rfl rfl rfl rfl Try.call127 (fun w hh => JM l1.of_ d00 d01 d02 s.t17 qa3 na3 ca3 b rb qa1 na1 ca1 qa2 na2 ca2 pb b_2 w (HV.callee (S0 := [_]) (vs0 := []) hh (roR hh 3 rfl (roC (hh.bsepH 3 rfl) (roR hh 0 rfl (roR hh 1 rfl (roR hh 2 rfl (roC (hh.bsepH 1 rfl) roN))))))) hna3 hqa3 hla3 hna1 hqa1 hla1 hna2 hqa2 hla2 h22) (fun l_6 h23 => ?_)
         refine jS (S' := [_, _, _, _, _]) (vs' := []) [0, 1, 2, 3, 4] [] 0 rfl rfl rfl rfl (j3 rfl rfl rfl (jm rfl rfl (jv ?_)))
         obtain rfl := sj hm
         exact jg () (trivial) (sE rfl) (hsE [1, 2, 3, 4, 0] [] 0 rfl rfl rfl rfl)
        ·replace hm := ifN h21 hm
         refine g_k rfl rfl rfl rfl (g_k rfl rfl rfl rfl (g_k rfl rfl rfl rfl (g_k rfl rfl rfl rfl (ki rfl rfl rfl (jm rfl rfl (jv ?_))))))
         obtain rfl := sj hm
         exact jg () (trivial) (sE rfl) (fun w hh => hh)
       ·intro l_5 hj
        replace hm := h20
        refine jb ?_
        refine jq rfl (fun h24 => ?_) (fun h24 => ?_)
        ·replace hm := ifT (h24) hm
         refine jh (jf rfl rfl (jL 1 Try.runUnderlying37 rfl Try.sizeOf3 rfl rfl (jU 0 Try.isAgg3 rfl rfl rfl rfl ?_)))
         obtain ⟨t48, h25, hm⟩ := bindO hm
         refine kt h25 rfl rfl rfl (jm rfl rfl (jv (js (js ?_))))
         obtain rfl := sj hm
         exact jg () (trivial) (sE rfl) (hsE [2, 3, 4] [] 0 rfl rfl rfl rfl)
        ·replace hm := ifN h24 hm
         refine jr (js (js ?_))
         obtain rfl := sj hm
         exact jg () (trivial) (sE rfl) (hsE [2, 3, 4] [] 0 rfl rfl rfl rfl)
    ·intro l_2 hj
     replace hm := h8
     refine jb (jh ?_)
     obtain ⟨t49, h26, hm⟩ := bindO hm
     refine kt h26 rfl rfl rfl (jf rfl rfl (jv ?_))
     obtain rfl := sj hm
     refine jb ?_
     exact jy _ () rfl (trivial) (sE rfl) (fun w hh => hh)
   ·replace hm := ifE h6 hm
    refine jM (ji (ji (jz ?_)))
    obtain rfl := sj hm
    have hbo := h5 _ rfl
    subst hbo
    exact jg () (trivial) (sE rfl) (fun w hh => hh)
  ·intro l hj
   replace hm := h4
   refine jb (jj (jp (jU 1 Try.isAgg115 rfl rfl rfl rfl (jc rfl rfl rfl (fun _ _ => jJ rfl) (jL 0 Try.runUnderlying163 rfl Try.sizeOf28 rfl rfl (jL 0 Try.runUnderlying28 rfl Try.sizeOf25 rfl rfl (jc rfl rfl rfl (fun w hh => jY (Try.isAgg25 w) rfl (segCell (hh.seg 0 rfl) 0 rfl)) ?_)))))))
   refine jc rfl rfl rfl (fun w _ => jB hna1 (Try.runUnderlying25 w) rfl) (jf rfl rfl (jo ?_))
   obtain ⟨o_4, h27, h28⟩ := bindO hm
   refine jC (ι := Unit) (fun l_7 => True) (fun l_7 => [(5, .int .i64 o_4.need5), (6, .int .i64 o_4.can6)]) (fun l_7 => [(b_1, .cells #[.bool l1.tenants, .slice qa3 na3 ca3] 61 (0, 0)), (b, .cells #[ptr rb 0] 115 (0, 0)), (pb, gobj (kR RPr) kB d02)]) (fun l_7 => []) ?_ ?_
   ·replace hm := h27
    refine jl ?_
    refine jF (ι := Unit) hm (fun s_1 l_8 => True) (fun s_1 l_8 => [(2, ptr b 0), (3, ptr b_1 0), (5, .int .i64 s_1.need5), (6, .int .i64 s_1.can6), (54, .slice qa1 na1 ca1), (55, .int .i64 (d00.length : Int)), (56, .int .i64 s_1.t56)]) (fun s_1 l_8 => [(b_1, .cells #[.bool l1.tenants, .slice qa3 na3 ca3] 61 (0, 0)), (b, .cells #[ptr rb 0] 115 (0, 0)), (pb, gobj (kR RPr) kB d02)]) (fun s_1 l_8 => []) () (trivial) (sE rfl) (fun w hh => hh) (fun s_1 l_8 r_1 hpl hm h29 => ?_)
    unfold Kr at hm
    refine jp (qv rfl rfl rfl (jo (jj ?_)))
    refine jq rfl (fun h30 => ?_) (fun h30 => ?_)
    ·replace hm := ifD h30 hm
     refine jr (jb (jj ?_))
     obtain ⟨o_5, h31, h32⟩ := bindO hm
     refine jC (ι := Unit) (fun l_9 => True) (fun l_9 => [(2, ptr b 0), (3, ptr b_1 0), (5, .int .i64 o_5.need5), (6, .int .i64 o_5.can6), (54, .slice qa1 na1 ca1), (55, .int .i64 (d00.length : Int)), (56, .int .i64 s_1.t56)]) (fun l_9 => [(b_1, .cells #[.bool l1.tenants, .slice qa3 na3 ca3] 61 (0, 0)), (b, .cells #[ptr rb 0] 115 (0, 0)), (pb, gobj (kR RPr) kB d02)]) (fun l_9 => []) ?_ ?_
     ·replace hm := h31
      refine jl (jp (jf rfl rfl ?_))
      obtain ⟨t59, h33, hm⟩ := bindO hm
      refine jc rfl rfl rfl (fun w _ => jW h33 (Try.runUnderlying25 w) (Try.sizeOf77 w) rfl rfl hna1 hqa1) ?_
      refine jc rfl rfl rfl (fun w hh => kk RSt 0 [.int .i64 t59.tenant, .int .i64 t59.lay.lo, .int .i64 t59.lay.hi, .int .i64 t59.seeded.lo, .int .i64 t59.seeded.hi, .int .i64 t59.left.lo, .int .i64 t59.left.hi] h33 (Try.isAgg77 w) (Try.sizeOf77 w) rfl (hh.seg 1 rfl) rfl (Nat.add_zero _).symm) ?_
      refine jt (fun w => Try.zeroValue3 w) rfl (fun b_4 h34 => ?_)
      refine jt (fun w => Try.zeroValue77 w) rfl (fun b_5 h35 => ?_)
      refine yV (cs' := #[_]) (S' := [_, _, _, _, _]) 1 (fun w => Try.sizeOf3 w) rfl rfl rfl rfl rfl rfl rfl (jE (us := #[_, _, _, _, _, _, _]) (cs' := [_, _, _, _, _, _, _]) (S' := [_, _, _, _, _]) 0 (fun w => Try.sizeOf77 w) rfl rfl rfl rfl rfl rfl rfl (jo (jl (jj ?_))))
      obtain ⟨o_6, h36, h37⟩ := bindO hm
      refine jC (ι := Unit) (fun l_10 => True) (fun l_10 => [(2, ptr b 0), (3, ptr b_1 0), (5, .int .i64 s_1.need5), (6, .int .i64 s_1.can6), (9, ptr b_4 0), (10, ptr b_5 0), (54, .slice qa1 na1 ca1), (55, .int .i64 (d00.length : Int)), (56, .int .i64 s_1.t56), (61, .bool o_6)]) (fun l_10 => [(b_5, .cells #[.int .i64 t59.tenant, .int .i64 t59.lay.lo, .int .i64 t59.lay.hi, .int .i64 t59.seeded.lo, .int .i64 t59.seeded.hi, .int .i64 t59.left.lo, .int .i64 t59.left.hi] 77 (0, 0)), (b_4, .cells #[.int .i64 s_1.t56] 3 (0, 0)), (b_1, .cells #[.bool l1.tenants, .slice qa3 na3 ca3] 61 (0, 0)), (b, .cells #[ptr rb 0] 115 (0, 0)), (pb, gobj (kR RPr) kB d02)]) (fun l_10 => []) ?_ ?_
      ·replace hm := h36
       refine jh (jL 0 Try.runUnderlying61 rfl Try.sizeOf4 rfl rfl (jU 2 Try.isAgg4 rfl rfl rfl rfl (jc rfl rfl rfl (fun _ _ => kq rfl) (jf rfl rfl ?_))))
       refine jD 65 rfl (fun h38 => ?_) (fun h38 => ?_)
       ·replace hm := ifT (h38) hm
        refine ja rfl rfl (jL 1 Try.runUnderlying61 rfl Try.sizeOf32 rfl rfl (ja rfl rfl (jU 2 Try.isAgg32 rfl rfl rfl rfl (ja rfl rfl (jU 1 Try.isAgg3 rfl rfl rfl rfl (ja rfl rfl ?_))))))
        obtain ⟨t69, h39, hm⟩ := bindO hm
        refine jd [] [] rfl rfl rfl rfl rfl rfl rfl Try.call46 (fun w hh => Ji l1.of_ s_1.t56 qa3 na3 ca3 w (HV.callee (S0 := []) (vs0 := []) hh (roR hh 3 rfl roN)) hna3 hqa3 hla3 h39) (fun l_11 h40 => ?_)
        refine j3 rfl rfl rfl (jm rfl rfl (jv ?_))
        obtain rfl := sj hm
        exact jg () (trivial) (sE rfl) (fun w hh => hh)
       ·replace hm := ifN h38 hm
        refine g_k rfl rfl rfl rfl (g_k rfl rfl rfl rfl (g_k rfl rfl rfl rfl (g_k rfl rfl rfl rfl (ki rfl rfl rfl (jm rfl rfl (jv ?_))))))
        obtain rfl := sj hm
        exact jg () (trivial) (sE rfl) (fun w hh => hh)
      ·intro l_10 hj
       replace hm := h37
       refine jb ?_
       refine jq rfl (fun h41 => ?_) (fun h41 => ?_)
       ·replace hm := ifT (h41) hm
        refine jh (jf rfl rfl (kG [_, _, _, _, _, _, _] 0 Try.isAgg77 Try.sizeOf77 rfl rfl rfl rfl ?_))
        obtain ⟨t73, h42, hm⟩ := bindO hm
        refine jd [] [] rfl rfl rfl rfl rfl rfl rfl Try.call64 (fun w hh => qK (⟨t59.tenant, (⟨t59.lay.lo, t59.lay.hi⟩ : Span), (⟨t59.seeded.lo, t59.seeded.hi⟩ : Span), (⟨t59.left.lo, t59.left.hi⟩ : Span)⟩ : Strip) w (HV.callee (S0 := []) (vs0 := []) hh roN)  h42) (fun l_12 h43 => ?_)
        refine jc rfl rfl rfl (fun w _ => Yk 3 0 (Try.runUnderlying37 w) rfl (Try.isAgg3 w) rfl rfl) ?_
        obtain ⟨t75, h44, hm⟩ := bindO hm
        refine kt h44 rfl rfl rfl (jm rfl rfl (jv (js (js ?_))))
        obtain rfl := sj hm
        exact jg () (trivial) (sE rfl) (hsE [2, 3, 4] [] 0 rfl rfl rfl rfl)
       ·replace hm := ifN h41 hm
        refine jj ?_
        obtain ⟨o_7, h45, h46⟩ := bindO hm
        refine jC (ι := Unit) (fun l_13 => True) (fun l_13 => [(2, ptr b 0), (3, ptr b_1 0), (5, .int .i64 s_1.need5), (6, .int .i64 s_1.can6), (10, ptr b_5 0), (54, .slice qa1 na1 ca1), (55, .int .i64 (d00.length : Int)), (56, .int .i64 s_1.t56), (76, .bool o_7)]) (fun l_13 => [(b_5, .cells #[.int .i64 t59.tenant, .int .i64 t59.lay.lo, .int .i64 t59.lay.hi, .int .i64 t59.seeded.lo, .int .i64 t59.seeded.hi, .int .i64 t59.left.lo, .int .i64 t59.left.hi] 77 (0, 0)), (b_4, .cells #[.int .i64 s_1.t56] 3 (0, 0)), (b_1, .cells #[.bool l1.tenants, .slice qa3 na3 ca3] 61 (0, 0)), (b, .cells #[ptr rb 0] 115 (0, 0)), (pb, gobj (kR RPr) kB d02)]) (fun l_13 => []) ?_ ?_
        ·replace hm := h45
         refine jh (jL 0 Try.runUnderlying61 rfl Try.sizeOf4 rfl rfl (jU 2 Try.isAgg4 rfl rfl rfl rfl (jf rfl rfl ?_)))
         refine jD 79 rfl (fun h47 => ?_) (fun h47 => ?_)
         ·replace hm := ifT (h47) hm
          refine ja rfl rfl (jL 1 Try.runUnderlying61 rfl Try.sizeOf32 rfl rfl (ja rfl rfl (jU 2 Try.isAgg32 rfl rfl rfl rfl (ja rfl rfl (jc rfl rfl rfl (fun _ _ => jQ (u := #[]) (u' := #[_, _]) rfl rfl) (ja rfl rfl ?_))))))
          obtain ⟨t83, h48, hm⟩ := bindO hm
          refine jS (S' := [_, _, _, _, _]) (vs' := []) [4, 0, 1, 2, 3] [] 0 rfl rfl rfl rfl ?_
          refine jd [_] [] rfl rfl rfl rfl rfl rfl rfl Try.call127 (fun w hh => JP l1.of_ d00 d01 d02 s_1.t56 qa3 na3 ca3 b rb qa1 na1 ca1 qa2 na2 ca2 pb b_4 w (HV.callee (S0 := [_]) (vs0 := []) hh (roR hh 3 rfl (roC (hh.bsepH 3 rfl) (roR hh 0 rfl (roR hh 1 rfl (roR hh 2 rfl (roC (hh.bsepH 1 rfl) roN))))))) hna3 hqa3 hla3 hna1 hqa1 hla1 hna2 hqa2 hla2 h48) (fun l_14 h49 => ?_)
          refine jS (S' := [_, _, _, _, _]) (vs' := []) [0, 1, 2, 3, 4] [] 0 rfl rfl rfl rfl (j3 rfl rfl rfl (jm rfl rfl (jv ?_)))
          obtain rfl := sj hm
          exact jg () (trivial) (sE rfl) (hsE [1, 2, 3, 4, 0] [] 0 rfl rfl rfl rfl)
         ·replace hm := ifN h47 hm
          refine g_k rfl rfl rfl rfl (g_k rfl rfl rfl rfl (g_k rfl rfl rfl rfl (g_k rfl rfl rfl rfl (ki rfl rfl rfl (jm rfl rfl (jv ?_))))))
          obtain rfl := sj hm
          exact jg () (trivial) (sE rfl) (fun w hh => hh)
        ·intro l_13 hj
         replace hm := h46
         refine jb ?_
         refine jq rfl (fun h50 => ?_) (fun h50 => ?_)
         ·replace hm := ifT (h50) hm
          refine jh (jf rfl rfl (kG [_, _, _, _, _, _, _] 0 Try.isAgg77 Try.sizeOf77 rfl rfl rfl rfl ?_))
          obtain ⟨t87, h51, hm⟩ := bindO hm
          refine jd [] [] rfl rfl rfl rfl rfl rfl rfl Try.call64 (fun w hh => qK (⟨t59.tenant, (⟨t59.lay.lo, t59.lay.hi⟩ : Span), (⟨t59.seeded.lo, t59.seeded.hi⟩ : Span), (⟨t59.left.lo, t59.left.hi⟩ : Span)⟩ : Strip) w (HV.callee (S0 := []) (vs0 := []) hh roN)  h51) (fun l_15 h52 => ?_)
          refine jc rfl rfl rfl (fun w _ => Yk 3 1 (Try.runUnderlying37 w) rfl (Try.isAgg3 w) rfl rfl) ?_
          obtain ⟨t89, h53, hm⟩ := bindO hm
          refine kt h53 rfl rfl rfl (jm rfl rfl (jv (js (js ?_))))
          obtain rfl := sj hm
          exact jg () (trivial) (sE rfl) (hsE [2, 3, 4] [] 0 rfl rfl rfl rfl)
         ·replace hm := ifN h50 hm
          refine jr (js (js ?_))
          obtain rfl := sj hm
          exact jg () (trivial) (sE rfl) (hsE [2, 3, 4] [] 0 rfl rfl rfl rfl)
     ·intro l_9 hj
      replace hm := h32
      refine jb (jh ?_)
      obtain ⟨t90, h54, hm⟩ := bindO hm
      refine kt h54 rfl rfl rfl (jf rfl rfl (jv ?_))
      obtain rfl := sj hm
      refine jb ?_
      exact jy _ () rfl (trivial) (sE rfl) (fun w hh => hh)
    ·replace hm := ifE h30 hm
     refine jM (ji (ji (jz ?_)))
     obtain rfl := sj hm
     have hbo := h29 _ rfl
     subst hbo
     exact jg () (trivial) (sE rfl) (fun w hh => hh)
   ·intro l_7 hj
    replace hm := h28
    refine jb (jp (jf rfl rfl (jf rfl rfl ?_)))
    obtain ⟨t93, h55, hm⟩ := bindO hm
    refine jc rfl rfl rfl (fun _ _ => k9 h55 rfl rfl) (jm rfl rfl (jo (jw ?_)))
    obtain rfl := sj hm
    refine jn rfl (fun w hh => (.tmp rfl .nil)) (fun w hh => ⟨(), rfl, trivial, hh.se [2] [] 4 rfl rfl rfl rfl⟩)
def zz (x0 : Int) (a11_f0 : Scalps) : Option Bool :=
 (kK a11_f0 x0).bind fun t6 =>
 some (!t6)
theorem QZ (x0 : Int) (a11_f0 : Scalps) (rb : Nat) (qa1 : Option Addr) (na1 ca1 : Nat) (qa2 : Option Addr) (na2 ca2 : Nat) (w : World) (hw : HV w (keys [] []) [] [] [(rb, 0, [.func (.func 71) #[.agg #[.slice qa1 na1 ca1, .slice qa2 na2 ca2]] #[]]), (aB qa1, aO qa1, RSt.enc a11_f0.strips), (aB qa2, aO qa2, RSp.enc a11_f0.carried)] w)  (hna1 : a11_f0.strips.length = na1) (hqa1 : AOK na1 qa1) (hla1 : na1 ≤ ca1) (hna2 : a11_f0.carried.length = na2) (hqa2 : AOK na2 qa2) (hla2 : na2 ≤ ca2) {res : Bool} (hm : zz x0 a11_f0 = some res) :
    Calls Try.prog 128 #[.int .i64 x0, ptr rb 0] w (fun en w' => ∃ l : Unit, en = .returned (.bool res) ∧ (True) ∧ HV w (keys [] []) [] [] [] w') := by
  unfold zz at hm
  refine kb Try.func128 rfl Try.ntmps128 rfl (e := [(0, _), (1, _)]) rfl hw (jp (jm rfl rfl (j1 (jc rfl rfl rfl (fun w hh => jY (Try.isAgg71 w) rfl (segCell (hh.seg 0 rfl) 0 rfl)) (jf rfl rfl ?_)))))
  obtain ⟨t6, h1, hm⟩ := bindO hm
  refine jd [] [] rfl rfl rfl rfl rfl rfl rfl Try.call71 (fun w hh => KN a11_f0 x0 qa1 na1 ca1 qa2 na2 ca2 w (HV.callee (S0 := []) (vs0 := []) hh (roR hh 1 rfl (roR hh 2 rfl roN))) hna1 hqa1 hla1 hna2 hqa2 hla2 h1) (fun l h2 => ?_)
  refine jc rfl rfl rfl (fun _ _ => kq rfl) (jm rfl rfl (jo (jw ?_)))
  obtain rfl := sj hm
  refine jn rfl (fun w hh => (.tmp rfl .nil)) (fun w hh => ⟨(), rfl, trivial, hh.se [] [] 3 rfl rfl rfl rfl⟩)
def yh (s0 : (List Int)) (f1_c0_f0 : Scalps) (s : Int) : Option (Int ⊕ (Unit ⊕ Int)) :=
 if s < (s0.length : Int) then
 ((ix s0 s).bind fun t14 =>
 (zz t14 f1_c0_f0).bind fun t16 =>
 if t16 = true then
 (some (.inr (.inr s))) else
 ((addc s 1).bind fun t18 =>
 some (.inl t18))) else
 (some (.inr (.inl ())))
def qs (s0 : (List Int)) (f1_c0_f0 : Scalps) : Option Int :=
 (iterM FU (yh s0 f1_c0_f0) 0).bind fun o =>
 oc o (fun j => some (-1)) (fun r_1 => some r_1)
theorem Kv (s0 : (List Int)) (f1_c0_f0 : Scalps) (qa0 : Option Addr) (na0 ca0 : Nat) (rb : Nat) (qa2 : Option Addr) (na2 ca2 : Nat) (qa3 : Option Addr) (na3 ca3 : Nat) (w : World) (hw : HV w (keys [] []) [] [] [(aB qa0, aO qa0, RI.enc s0), (rb, 0, [.func (.func 71) #[.agg #[.slice qa2 na2 ca2, .slice qa3 na3 ca3]] #[]]), (aB qa2, aO qa2, RSt.enc f1_c0_f0.strips), (aB qa3, aO qa3, RSp.enc f1_c0_f0.carried)] w) (hna0 : s0.length = na0) (hqa0 : AOK na0 qa0) (hla0 : na0 ≤ ca0)  (hna2 : f1_c0_f0.strips.length = na2) (hqa2 : AOK na2 qa2) (hla2 : na2 ≤ ca2) (hna3 : f1_c0_f0.carried.length = na3) (hqa3 : AOK na3 qa3) (hla3 : na3 ≤ ca3) {res : Int} (hm : qs s0 f1_c0_f0 = some res) :
    Calls Try.prog 146 #[.slice qa0 na0 ca0, .func (.func 128) #[] #[ptr rb 0]] w (fun en w' => ∃ l : Unit, en = .returned (.int .i64 res) ∧ (True) ∧ HV w (keys [] []) [] [] [] w') := by
  unfold qs at hm
  refine kb Try.func146 rfl Try.ntmps146 rfl (e := [(0, _), (1, _)]) rfl hw (jp (jm rfl rfl (jo (jj (jp (jf rfl rfl (jc rfl rfl rfl (fun w _ => jB hna0 (Try.runUnderlying32 w) rfl) ?_)))))))
  refine jf rfl rfl (jo ?_)
  obtain ⟨o, h1, h2⟩ := bindO hm
  refine jC (ι := Unit) (fun j => o = .inl j) (fun j => []) (fun j => []) (fun j => []) ?_ ?_
  ·replace hm := h1
   refine jl ?_
   refine jF (ι := Unit) hm (fun s l => True) (fun s l => [(0, .slice qa0 na0 ca0), (1, .func (.func 128) #[] #[ptr rb 0]), (7, .int .i64 (s0.length : Int)), (8, .int .i64 s)]) (fun s l => []) (fun s l => []) () (trivial) (sE rfl) (fun w hh => hh) (fun s l r hpl hm h3 => ?_)
   unfold yh at hm
   refine jp (qv rfl rfl rfl (jo (jj ?_)))
   refine jq rfl (fun h4 => ?_) (fun h4 => ?_)
   ·replace hm := ifD h4 hm
    refine jr (jb (jj (jl (jp (jf rfl rfl (jm rfl rfl (j1 ?_)))))))
    refine jf rfl rfl (jf rfl rfl (jf rfl rfl ?_))
    obtain ⟨t14, h5, hm⟩ := bindO hm
    refine jc rfl rfl rfl (fun w _ => jW h5 (Try.runUnderlying32 w) (Try.sizeOf3 w) rfl rfl hna0 hqa0) (jc rfl rfl rfl (fun w hh => jV RI 0 h5 (Try.isAgg3 w) rfl (hh.seg 0 rfl) rfl (Nat.add_zero _).symm) ?_)
    obtain ⟨t16, h6, hm⟩ := bindO hm
    refine jd [] [] rfl rfl rfl rfl rfl rfl rfl Try.call128 (fun w hh => QZ t14 f1_c0_f0 rb qa2 na2 ca2 qa3 na3 ca3 w (HV.callee (S0 := []) (vs0 := []) hh (roR hh 1 rfl (roR hh 2 rfl (roR hh 3 rfl roN)))) hna2 hqa2 hla2 hna3 hqa3 hla3 h6) (fun l_1 h7 => ?_)
    refine jo ?_
    refine jq rfl (fun h8 => ?_) (fun h8 => ?_)
    ·replace hm := ifT (h8) hm
     refine jp (jf rfl rfl (jm rfl rfl (jo (jw (jx (je (je ?_)))))))
     refine jx ?_
     obtain rfl := sj hm
     have hbo := h3 _ rfl
     subst hbo
     refine je ?_
     replace hm := ocR h2
     refine je ?_
     obtain rfl := sj hm
     refine jn rfl (fun w hh => (.tmp rfl .nil)) (fun w hh => ⟨(), rfl, trivial, hh.se [] [] 4 rfl rfl rfl rfl⟩)
    ·replace hm := ifN h8 hm
     refine jr (js (jb (jh ?_)))
     obtain ⟨t18, h9, hm⟩ := bindO hm
     refine kt h9 rfl rfl rfl (jf rfl rfl (jv ?_))
     obtain rfl := sj hm
     refine jb ?_
     exact jy _ () rfl (trivial) (sE rfl) (fun w hh => hh)
   ·replace hm := ifE h4 hm
    refine jM (ji (ji (jz ?_)))
    obtain rfl := sj hm
    have hbo := h3 _ rfl
    subst hbo
    exact jg () (rfl) (.nil) (fun w hh => hh)
  ·intro j hj
   have h10 := hj
   subst h10
   replace hm := ocL h2
   refine jb (jp (jm rfl rfl (jo (jw ?_))))
   obtain rfl := sj hm
   refine jn rfl (fun w hh => (.tmp rfl .nil)) (fun w hh => ⟨(), rfl, trivial, hh.se [] [] 4 rfl rfl rfl rfl⟩)
def kD (s0 : (List Int)) (f1_c0_f0 : Scalps) : Option Bool :=
 (qs s0 f1_c0_f0).bind fun t7 =>
 some (decide (0 ≤ t7))
theorem JN (s0 : (List Int)) (f1_c0_f0 : Scalps) (qa0 : Option Addr) (na0 ca0 : Nat) (rb : Nat) (qa2 : Option Addr) (na2 ca2 : Nat) (qa3 : Option Addr) (na3 ca3 : Nat) (w : World) (hw : HV w (keys [] []) [] [] [(aB qa0, aO qa0, RI.enc s0), (rb, 0, [.func (.func 71) #[.agg #[.slice qa2 na2 ca2, .slice qa3 na3 ca3]] #[]]), (aB qa2, aO qa2, RSt.enc f1_c0_f0.strips), (aB qa3, aO qa3, RSp.enc f1_c0_f0.carried)] w) (hna0 : s0.length = na0) (hqa0 : AOK na0 qa0) (hla0 : na0 ≤ ca0)  (hna2 : f1_c0_f0.strips.length = na2) (hqa2 : AOK na2 qa2) (hla2 : na2 ≤ ca2) (hna3 : f1_c0_f0.carried.length = na3) (hqa3 : AOK na3 qa3) (hla3 : na3 ≤ ca3) {res : Bool} (hm : kD s0 f1_c0_f0 = some res) :
    Calls Try.prog 127 #[.slice qa0 na0 ca0, .func (.func 128) #[] #[ptr rb 0]] w (fun en w' => ∃ l : Unit, en = .returned (.bool res) ∧ (True) ∧ HV w (keys [] []) [] [] [] w') := by
  unfold kD at hm
  refine kb Try.func127 rfl Try.ntmps127 rfl (e := [(0, _), (1, _)]) rfl hw (jp (jm rfl rfl (j1 (jf rfl rfl (jf rfl rfl ?_)))))
  obtain ⟨t7, h1, hm⟩ := bindO hm
  refine jd [] [] rfl rfl rfl rfl rfl rfl rfl Try.call146 (fun w hh => Kv s0 f1_c0_f0 qa0 na0 ca0 rb qa2 na2 ca2 qa3 na3 ca3 w (HV.callee (S0 := []) (vs0 := []) hh (roR hh 0 rfl (roR hh 1 rfl (roR hh 2 rfl (roR hh 3 rfl roN))))) hna0 hqa0 hla0 hna2 hqa2 hla2 hna3 hqa3 hla3 h1) (fun l h2 => ?_)
  refine jc rfl rfl rfl (fun _ _ => QH rfl rfl) (jm rfl rfl (jo (jw ?_)))
  obtain rfl := sj hm
  refine jn rfl (fun w hh => (.tmp rfl .nil)) (fun w hh => ⟨(), rfl, trivial, hh.se [] [] 4 rfl rfl rfl rfl⟩)
def Jy (l0 : (List Int)) (holds1_f0 : Scalps) : Option Bool :=
 (kD l0 holds1_f0).bind fun t7 =>
 some (!t7)
theorem Yf (l0 : (List Int)) (holds1_f0 : Scalps) (qa0 : Option Addr) (na0 ca0 : Nat) (qa1 : Option Addr) (na1 ca1 : Nat) (qa2 : Option Addr) (na2 ca2 : Nat) (w : World) (hw : HV w (keys [] []) [] [] [(aB qa0, aO qa0, RI.enc l0), (aB qa1, aO qa1, RSt.enc holds1_f0.strips), (aB qa2, aO qa2, RSp.enc holds1_f0.carried)] w) (hna0 : l0.length = na0) (hqa0 : AOK na0 qa0) (hla0 : na0 ≤ ca0) (hna1 : holds1_f0.strips.length = na1) (hqa1 : AOK na1 qa1) (hla1 : na1 ≤ ca1) (hna2 : holds1_f0.carried.length = na2) (hqa2 : AOK na2 qa2) (hla2 : na2 ≤ ca2) {res : Bool} (hm : Jy l0 holds1_f0 = some res) :
    Calls Try.prog 91 #[.slice qa0 na0 ca0, .func (.func 71) #[.agg #[.slice qa1 na1 ca1, .slice qa2 na2 ca2]] #[]] w (fun en w' => ∃ l : Unit, en = .returned (.bool res) ∧ (True) ∧ HV w (keys [] []) [] [] [] w') := by
  unfold Jy at hm
  refine kb Try.func91 rfl Try.ntmps91 rfl (e := [(0, _), (1, _)]) rfl hw (jp ?_)
  refine jH rfl rfl (fun b h1 => ?_)
  refine jm rfl rfl (j1 (jf rfl rfl (jc rfl rfl rfl (fun _ _ => jQ (u := #[]) (u' := #[_]) rfl rfl) ?_)))
  obtain ⟨t7, h2, hm⟩ := bindO hm
  refine jd [] [] rfl rfl rfl rfl rfl rfl rfl Try.call127 (fun w hh => JN l0 holds1_f0 qa0 na0 ca0 b qa1 na1 ca1 qa2 na2 ca2 w (HV.callee (S0 := []) (vs0 := []) hh (roR hh 0 rfl (roC (bsep (hh.bseg 0 rfl)) (roR hh 1 rfl (roR hh 2 rfl roN))))) hna0 hqa0 hla0 hna1 hqa1 hla1 hna2 hqa2 hla2 h2) (fun l h3 => ?_)
  refine jc rfl rfl rfl (fun _ _ => kq rfl) (jm rfl rfl (jo (jw ?_)))
  obtain rfl := sj hm
  refine jn rfl (fun w hh => (.tmp rfl .nil)) (fun w hh => ⟨(), rfl, trivial, hh.se [] [] 3 rfl rfl rfl rfl⟩)
structure kh where
  r0 : Int
  r1 : Int
def QK (s0 : Scalps) (l1 : Lack) : Option kh :=
 (ks s0).bind fun t11 =>
 oc t11 (fun t11a => if l1.tenants = true then
 (some (⟨0, t11a⟩ : kh)) else
 (some (⟨0, t11a⟩ : kh))) (fun t11b => if l1.tenants = true then
 ((JE l1.of_ s0).bind fun t28 =>
 if (!t28) = true then
 (some (⟨0, 1⟩ : kh)) else
 ((if (l1.of_.length : Int) = 0 then
 (some true) else
 ((kV l1.of_).bind fun t38 =>
 if (!t38) = true then
 (some true) else
 ((q6 l1.of_).bind fun t44 =>
 (yA t44).bind fun t45 =>
 some (decide ((t45.length : Int) < (l1.of_.length : Int)))))).bind fun o =>
 if o = true then
 (some (⟨0, 4⟩ : kh)) else
 ((qM s0.strips s0.carried t11b l1).bind fun t55 =>
 if t55 < 1 then
 (some (⟨0, 8⟩ : kh)) else
 ((qM s0.strips s0.carried t11b l1).bind fun t59 =>
 some (⟨t59, 0⟩ : kh))))) else
 ((Jy l1.of_ s0).bind fun t28_1 =>
 if (!t28_1) = true then
 (some (⟨0, 1⟩ : kh)) else
 ((if (l1.of_.length : Int) = 0 then
 (some true) else
 ((kV l1.of_).bind fun t38_1 =>
 if (!t38_1) = true then
 (some true) else
 ((q6 l1.of_).bind fun t44_1 =>
 (yA t44_1).bind fun t45_1 =>
 some (decide ((t45_1.length : Int) < (l1.of_.length : Int)))))).bind fun o_1 =>
 if o_1 = true then
 (some (⟨0, 4⟩ : kh)) else
 ((qM s0.strips s0.carried t11b l1).bind fun t55_1 =>
 if t55_1 < 1 then
 (some (⟨0, 8⟩ : kh)) else
 ((qM s0.strips s0.carried t11b l1).bind fun t59_1 =>
 some (⟨t59_1, 0⟩ : kh))))))
theorem Zg (s0 : Scalps) (l1 : Lack) (qa0 : Option Addr) (na0 ca0 : Nat) (qa1 : Option Addr) (na1 ca1 : Nat) (qa2 : Option Addr) (na2 ca2 : Nat) (w : World) (hw : HV w (keys [] []) [] [] [(aB qa0, aO qa0, RSt.enc s0.strips), (aB qa1, aO qa1, RSp.enc s0.carried), (aB qa2, aO qa2, RI.enc l1.of_)] w) (hna0 : s0.strips.length = na0) (hqa0 : AOK na0 qa0) (hla0 : na0 ≤ ca0) (hna1 : s0.carried.length = na1) (hqa1 : AOK na1 qa1) (hla1 : na1 ≤ ca1) (hna2 : l1.of_.length = na2) (hqa2 : AOK na2 qa2) (hla2 : na2 ≤ ca2) {res : kh} (hm : QK s0 l1 = some res) :
    Calls Try.prog 36 #[.agg #[.slice qa0 na0 ca0, .slice qa1 na1 ca1], .agg #[.bool l1.tenants, .slice qa2 na2 ca2]] w (fun en w' => ∃ l : Unit, en = .returned (.tuple #[.int .i64 res.r0, .int .i64 res.r1]) ∧ (True) ∧ HV w (keys [] []) [] [] [] w') := by
  unfold QK at hm
  refine kb Try.func36 rfl Try.ntmps36 rfl (e := [(0, _), (1, _)]) rfl hw (jp ?_)
  refine jH rfl rfl (fun b h1 => ?_)
  refine jH rfl rfl (fun b_1 h2 => ?_)
  refine jm rfl rfl (jm rfl rfl (j1 (kG [_, _] 1 Try.isAgg28 Try.sizeOf28 rfl rfl rfl rfl ?_)))
  obtain ⟨t11, h3, hm⟩ := bindO hm
  rcases t11 with t11a | t11b
  ·replace hm := ocL hm
   refine jd [] [] rfl rfl rfl rfl rfl rfl rfl Try.call65 (fun w hh => kL s0 qa0 na0 ca0 qa1 na1 ca1 w (HV.callee (S0 := []) (vs0 := []) hh (roR hh 0 rfl (roR hh 1 rfl roN))) hna0 hqa0 hla0 hna1 hqa1 hla1 h3) (fun l h4 => ?_)
   have h5 := h4
   refine jf rfl rfl (kj rfl rfl rfl (kj rfl rfl rfl (jm rfl rfl (jm rfl rfl (j1 (kG [_, _] 1 Try.isAgg28 Try.sizeOf28 rfl rfl rfl rfl (jc rfl rfl rfl (fun _ _ => jQ (u := #[_]) (u' := #[]) rfl rfl) ?_)))))))
   refine jm rfl rfl (jo (jj (jp (jL 0 Try.runUnderlying61 rfl Try.sizeOf4 rfl rfl (jU 0 Try.isAgg4 rfl rfl rfl rfl (jo ?_))))))
   refine jq rfl (fun h6 => ?_) (fun h6 => ?_)
   ·replace hm := ifT (h6) hm
    refine jh (kG [_, _] 1 Try.isAgg28 Try.sizeOf28 rfl rfl rfl rfl (jc rfl rfl rfl (fun _ _ => jQ (u := #[_]) (u' := #[]) rfl rfl) (jm rfl rfl (jo (jj (jl (jp ?_)))))))
    refine jf rfl rfl (jc rfl rfl rfl (fun _ _ => Ym h5 rfl rfl) (jm rfl rfl (jo (yl rfl rfl (jp (jf rfl rfl (jm rfl rfl ?_)))))))
    refine jm rfl rfl (jo (jw (jx (je ?_))))
    obtain rfl := sj hm
    refine jn rfl (fun w hh => (.tmp rfl (.tmp rfl .nil))) (fun w hh => ⟨(), rfl, trivial, hh.se [] [] 3 rfl rfl rfl rfl⟩)
   ·replace hm := ifN h6 hm
    refine jr (jb (jj (jl (jp (jf rfl rfl (jc rfl rfl rfl (fun _ _ => Ym h5 rfl rfl) (jm rfl rfl ?_)))))))
    refine jo (yl rfl rfl (jp (jf rfl rfl (jm rfl rfl (jm rfl rfl (jo (jw ?_)))))))
    refine jx (je ?_)
    obtain rfl := sj hm
    refine jn rfl (fun w hh => (.tmp rfl (.tmp rfl .nil))) (fun w hh => ⟨(), rfl, trivial, hh.se [] [] 3 rfl rfl rfl rfl⟩)
  ·replace hm := ocR hm
   refine jd [] [] rfl rfl rfl rfl rfl rfl rfl Try.call65 (fun w hh => kL s0 qa0 na0 ca0 qa1 na1 ca1 w (HV.callee (S0 := []) (vs0 := []) hh (roR hh 0 rfl (roR hh 1 rfl roN))) hna0 hqa0 hla0 hna1 hqa1 hla1 h3) (fun l_1 h7 => ?_)
   refine jS (S' := [_, _, _, _]) (vs' := []) [0, 1, 2, 3] [] 0 rfl rfl rfl rfl (jf rfl rfl (kj rfl rfl rfl (kj rfl rfl rfl (jm rfl rfl (jm rfl rfl (j1 (kG [_, _] 3 Try.isAgg28 Try.sizeOf28 rfl rfl rfl rfl ?_)))))))
   refine jc rfl rfl rfl (fun _ _ => jQ (u := #[_]) (u' := #[]) rfl rfl) (jm rfl rfl (jo (jj (jp (jL 0 Try.runUnderlying61 rfl Try.sizeOf4 rfl rfl (jU 2 Try.isAgg4 rfl rfl rfl rfl (jo ?_)))))))
   refine jq rfl (fun h8 => ?_) (fun h8 => ?_)
   ·replace hm := ifT (h8) hm
    refine jh (kG [_, _] 3 Try.isAgg28 Try.sizeOf28 rfl rfl rfl rfl (jc rfl rfl rfl (fun _ _ => jQ (u := #[_]) (u' := #[]) rfl rfl) (jm rfl rfl (jo (jj (jl (jp ?_)))))))
    refine jf rfl rfl (jc rfl rfl rfl (fun _ _ => kv rfl rfl) (jm rfl rfl (jo (qO rfl rfl (jp (jL 1 Try.runUnderlying61 rfl Try.sizeOf32 rfl rfl (jU 2 Try.isAgg32 rfl rfl rfl rfl ?_)))))))
    refine jf rfl rfl ?_
    obtain ⟨t28, h9, hm⟩ := bindO hm
    refine jd [] [] rfl rfl rfl rfl rfl rfl rfl Try.call91 (fun w hh => Yv l1.of_ s0 qa2 na2 ca2 qa0 na0 ca0 qa1 na1 ca1 w (HV.callee (S0 := []) (vs0 := []) hh (roR hh 2 rfl (roR hh 0 rfl (roR hh 1 rfl roN)))) hna2 hqa2 hla2 hna0 hqa0 hla0 hna1 hqa1 hla1 h9) (fun l_2 h10 => ?_)
    refine jc rfl rfl rfl (fun _ _ => kq rfl) (jm rfl rfl (jo ?_))
    refine jq rfl (fun h11 => ?_) (fun h11 => ?_)
    ·replace hm := ifT (h11) hm
     refine jp (jm rfl rfl (jm rfl rfl (jo (jw (jx (je ?_))))))
     obtain rfl := sj hm
     refine jn rfl (fun w hh => (.tmp rfl (.tmp rfl .nil))) (fun w hh => ⟨(), rfl, trivial, hh.se [] [] 3 rfl rfl rfl rfl⟩)
    ·replace hm := ifN h11 hm
     refine jj ?_
     obtain ⟨o, h12, h13⟩ := bindO hm
     refine jC (ι := Unit) (fun l_3 => True) (fun l_3 => [(3, ptr b_1 0), (6, ptr l_1.1 0), (30, .bool o)]) (fun l_3 => [(l_1.1, .cells #[.slice qa0 na0 ca0, .slice qa1 na1 ca1, .map (some l_1.2)] 163 (0, 0)), (l_1.2, gobj (kR RPr) kB t11b), (b_1, .cells #[.bool l1.tenants, .slice qa2 na2 ca2] 61 (0, 0)), (b, .cells #[.slice qa0 na0 ca0, .slice qa1 na1 ca1] 28 (0, 0))]) (fun l_3 => []) ?_ ?_
     ·replace hm := h12
      refine jX none (.free 0 (.hoist 1 (.free 2 (.free 3 (.free 4 (.free 5 (.hoist 6 (.one 7 (.free 8 (.free 9 (.free 10 (.free 11 (.hoist 12 (.free 16 (.hoist 17 (.free 18 (.one 13 (.one 14 (.free 15 (.free 19 (.free 20 (.free 21 .done)))))))))))))))))))))) _ rfl (by decide +kernel) (fun w k hh => hh.draw k) (fun w hh => hh) ?_
      refine kO 1 Try.runUnderlying61 Try.sizeOf32 rfl rfl rfl rfl (qq 2 Try.isAgg32 rfl rfl rfl rfl rfl (jk rfl rfl rfl rfl (fun w _ => jB hna2 (Try.runUnderlying32 w) rfl) (jk rfl rfl rfl rfl (fun _ _ => zr rfl rfl) (kg rfl rfl rfl ?_))))
      refine jD 35 rfl (fun h14 => ?_) (fun h14 => ?_)
      ·replace hm := ifD h14 hm
       refine jO rfl rfl rfl rfl rfl rfl rfl (Jh rfl rfl rfl rfl rfl rfl rfl (jK rfl (g_k rfl rfl rfl rfl (ju (fun w hh => hh) (jO rfl rfl rfl rfl rfl rfl rfl (jk rfl rfl rfl rfl (fun _ _ => yG rfl rfl) (kg rfl rfl rfl ?_)))))))
       refine jO rfl rfl rfl rfl rfl rfl rfl (Jh rfl rfl rfl rfl rfl rfl rfl (jO rfl rfl rfl rfl rfl rfl rfl (Jh rfl rfl rfl rfl rfl rfl rfl (jO rfl rfl rfl rfl rfl rfl rfl (jK rfl (g_k rfl rfl rfl rfl (ju (fun w hh => hh) ?_)))))))
       refine jK rfl (g_k rfl rfl rfl rfl (ju (fun w hh => hh) (jO rfl rfl rfl rfl rfl rfl rfl (jO rfl rfl rfl rfl rfl rfl rfl (jk rfl rfl rfl rfl (fun _ _ => yG rfl rfl) (jk rfl rfl rfl rfl (fun _ _ => jN rfl) (jI ?_)))))))
       obtain rfl := sj hm
       exact jg () (trivial) (sE rfl) (fun w hh => hh)
      ·replace hm := ifE h14 hm
       refine jR rfl rfl rfl rfl rfl rfl (fun w _ => ku 1 (Try.runUnderlying61 w) rfl (Try.sizeOf32 w) rfl) (yB rfl rfl rfl rfl rfl rfl (fun w hh => jY (Try.isAgg32 w) rfl (hh.cell 2 rfl rfl)) (jK rfl (ja rfl rfl ?_)))
       obtain ⟨t38, h15, hm⟩ := bindO hm
       refine jd [] [] rfl rfl rfl rfl rfl rfl rfl Try.call92 (fun w hh => Jf l1.of_ qa2 na2 ca2 w (HV.callee (S0 := []) (vs0 := []) hh (roR hh 2 rfl roN)) hna2 hqa2 hla2 h15) (fun l_4 h16 => ?_)
       refine ju (fun w hh => hh) (jR rfl rfl rfl rfl rfl rfl (fun _ _ => kq rfl) (jk rfl rfl rfl rfl (fun _ _ => yC rfl rfl) (kg rfl rfl rfl ?_)))
       refine jD 41 rfl (fun h17 => ?_) (fun h17 => ?_)
       ·replace hm := ifT (h17) hm
        refine jO rfl rfl rfl rfl rfl rfl rfl (Jh rfl rfl rfl rfl rfl rfl rfl (jO rfl rfl rfl rfl rfl rfl rfl (Jh rfl rfl rfl rfl rfl rfl rfl (jO rfl rfl rfl rfl rfl rfl rfl (jK rfl (g_k rfl rfl rfl rfl (ju (fun w hh => hh) ?_)))))))
        refine jK rfl (g_k rfl rfl rfl rfl (ju (fun w hh => hh) (jO rfl rfl rfl rfl rfl rfl rfl (jO rfl rfl rfl rfl rfl rfl rfl (jk rfl rfl rfl rfl (fun _ _ => yG rfl rfl) (jk rfl rfl rfl rfl (fun _ _ => jN rfl) (jI ?_)))))))
        obtain rfl := sj hm
        exact jg () (trivial) (sE rfl) (fun w hh => hh)
       ·replace hm := ifN h17 hm
        refine jR rfl rfl rfl rfl rfl rfl (fun w _ => ku 1 (Try.runUnderlying61 w) rfl (Try.sizeOf32 w) rfl) (yB rfl rfl rfl rfl rfl rfl (fun w hh => jY (Try.isAgg32 w) rfl (hh.cell 2 rfl rfl)) (jR rfl rfl rfl rfl rfl rfl (fun w _ => ku 1 (Try.runUnderlying61 w) rfl (Try.sizeOf32 w) rfl) (yB rfl rfl rfl rfl rfl rfl (fun w hh => jY (Try.isAgg32 w) rfl (hh.cell 2 rfl rfl)) (jR rfl rfl rfl rfl rfl rfl (fun w _ => jB hna2 (Try.runUnderlying32 w) rfl) (jK rfl (ja rfl rfl ?_))))))
        obtain ⟨t44, h18, hm⟩ := bindO hm
        refine jd [] [] rfl rfl rfl rfl rfl rfl rfl Try.call94 (fun w hh => Kq l1.of_ qa2 na2 ca2 w (HV.callee (S0 := []) (vs0 := []) hh (roR hh 2 rfl roN)) hna2 hqa2 hla2 h18) (fun l_5 h19 => ?_)
        have h20 := h19
        refine jS (S' := [_, _, _, _]) (vs' := [_]) [0, 1, 2, 3] [0] 0 rfl rfl rfl rfl (ju (hsE [0, 1, 2, 3] [] 0 rfl rfl rfl rfl) (jK rfl (ja rfl rfl ?_)))
        obtain ⟨t45, h21, hm⟩ := bindO hm
        refine jd [] [_] rfl rfl rfl rfl rfl rfl rfl Try.call93 (fun w hh => Kk t44 ⟨l_5.q, l_5.n, l_5.cap, l_5.sp⟩ w (HV.callee (S0 := []) (vs0 := [_]) hh roN) h20 h21) (fun l_6 h22 => ?_)
        have h23 := h22
        refine jS (S' := [_, _, _, _]) (vs' := [_]) [0, 1, 2, 3] [0] 0 rfl rfl rfl rfl (ju (hsE [0, 1, 2, 3] [] 0 rfl rfl rfl rfl) (jR rfl rfl rfl rfl rfl rfl (fun w _ => JI (vlen RI h23 rfl) (Try.runUnderlying32 w) rfl) (jR rfl rfl rfl rfl rfl rfl (fun _ _ => Zz rfl rfl) (jk rfl rfl rfl rfl (fun _ _ => yC rfl rfl) (jk rfl rfl rfl rfl (fun _ _ => jN rfl) (jI ?_))))))
        obtain rfl := sj hm
        exact jg () (trivial) (sE rfl) (hsE [0, 1, 2, 3] [] 0 rfl rfl rfl rfl)
     ·intro l_3 hj
      replace hm := h13
      refine jb ?_
      refine jq rfl (fun h24 => ?_) (fun h24 => ?_)
      ·replace hm := ifT (h24) hm
       refine jp (jm rfl rfl (jm rfl rfl (jo (jw (jx (je ?_))))))
       obtain rfl := sj hm
       refine jn rfl (fun w hh => (.tmp rfl (.tmp rfl .nil))) (fun w hh => ⟨(), rfl, trivial, hh.se [] [] 3 rfl rfl rfl rfl⟩)
      ·replace hm := ifN h24 hm
       refine jp (jf rfl rfl (kG [_, _] 2 Try.isAgg61 Try.sizeOf61 rfl rfl rfl rfl ?_))
       obtain ⟨t55, h25, hm⟩ := bindO hm
       refine jS (S' := [_, _, _, _]) (vs' := []) [1, 0, 2, 3] [] 0 rfl rfl rfl rfl ?_
       refine jd [_] [] rfl rfl rfl rfl rfl rfl rfl Try.call95 (fun w hh => zL s0.strips s0.carried t11b l1 l_1.1 qa0 na0 ca0 qa1 na1 ca1 l_1.2 qa2 na2 ca2 w (HV.callee (S0 := [_]) (vs0 := []) hh (roC (hh.bsepH 0 rfl) (roR hh 0 rfl (roR hh 1 rfl (roR hh 2 rfl roN))))) hna0 hqa0 hla0 hna1 hqa1 hla1 hna2 hqa2 hla2 h25) (fun l_7 h26 => ?_)
       refine jS (S' := [_, _, _, _]) (vs' := []) [0, 1, 2, 3] [] 0 rfl rfl rfl rfl (qv rfl rfl rfl (jm rfl rfl (jo ?_)))
       refine jq rfl (fun h27 => ?_) (fun h27 => ?_)
       ·replace hm := ifD h27 hm
        refine jp (jm rfl rfl (jm rfl rfl (jo (jw (jx (je ?_))))))
        obtain rfl := sj hm
        refine jn rfl (fun w hh => (.tmp rfl (.tmp rfl .nil))) (fun w hh => ⟨(), rfl, trivial, hh.se [] [] 3 rfl rfl rfl rfl⟩)
       ·replace hm := ifE h27 hm
        refine jr (js (jb (jp (jf rfl rfl (kG [_, _] 2 Try.isAgg61 Try.sizeOf61 rfl rfl rfl rfl ?_)))))
        obtain ⟨t59, h28, hm⟩ := bindO hm
        refine jd [_] [] rfl rfl rfl rfl rfl rfl rfl Try.call95 (fun w hh => zL s0.strips s0.carried t11b l1 l_1.1 qa0 na0 ca0 qa1 na1 ca1 l_1.2 qa2 na2 ca2 w (HV.callee (S0 := [_]) (vs0 := []) hh (roC (hh.bsepH 0 rfl) (roR hh 0 rfl (roR hh 1 rfl (roR hh 2 rfl roN))))) hna0 hqa0 hla0 hna1 hqa1 hla1 hna2 hqa2 hla2 h28) (fun l_8 h29 => ?_)
        refine jS (S' := [_, _, _, _]) (vs' := []) [0, 1, 2, 3] [] 0 rfl rfl rfl rfl (jm rfl rfl (jm rfl rfl (jo (jw ?_))))
        obtain rfl := sj hm
        refine jn rfl (fun w hh => (.tmp rfl (.tmp rfl .nil))) (fun w hh => ⟨(), rfl, trivial, hh.se [] [] 3 rfl rfl rfl rfl⟩)
   ·replace hm := ifN h8 hm
    refine jr (jb (jj (jl (jp (jf rfl rfl (jc rfl rfl rfl (fun _ _ => kv rfl rfl) (jm rfl rfl ?_)))))))
    refine jo (qO rfl rfl (jp (jL 1 Try.runUnderlying61 rfl Try.sizeOf32 rfl rfl (jU 2 Try.isAgg32 rfl rfl rfl rfl (jf rfl rfl ?_)))))
    obtain ⟨t28_1, h30, hm⟩ := bindO hm
    refine jd [] [] rfl rfl rfl rfl rfl rfl rfl Try.call91 (fun w hh => Yf l1.of_ s0 qa2 na2 ca2 qa0 na0 ca0 qa1 na1 ca1 w (HV.callee (S0 := []) (vs0 := []) hh (roR hh 2 rfl (roR hh 0 rfl (roR hh 1 rfl roN)))) hna2 hqa2 hla2 hna0 hqa0 hla0 hna1 hqa1 hla1 h30) (fun l_9 h31 => ?_)
    refine jc rfl rfl rfl (fun _ _ => kq rfl) (jm rfl rfl (jo ?_))
    refine jq rfl (fun h32 => ?_) (fun h32 => ?_)
    ·replace hm := ifT (h32) hm
     refine jp (jm rfl rfl (jm rfl rfl (jo (jw (jx (je ?_))))))
     obtain rfl := sj hm
     refine jn rfl (fun w hh => (.tmp rfl (.tmp rfl .nil))) (fun w hh => ⟨(), rfl, trivial, hh.se [] [] 3 rfl rfl rfl rfl⟩)
    ·replace hm := ifN h32 hm
     refine jj ?_
     obtain ⟨o_1, h33, h34⟩ := bindO hm
     refine jC (ι := Unit) (fun l_10 => True) (fun l_10 => [(3, ptr b_1 0), (6, ptr l_1.1 0), (30, .bool o_1)]) (fun l_10 => [(l_1.1, .cells #[.slice qa0 na0 ca0, .slice qa1 na1 ca1, .map (some l_1.2)] 163 (0, 0)), (l_1.2, gobj (kR RPr) kB t11b), (b_1, .cells #[.bool l1.tenants, .slice qa2 na2 ca2] 61 (0, 0)), (b, .cells #[.slice qa0 na0 ca0, .slice qa1 na1 ca1] 28 (0, 0))]) (fun l_10 => []) ?_ ?_
     ·replace hm := h33
      refine jX none (.free 0 (.hoist 1 (.free 2 (.free 3 (.free 4 (.free 5 (.hoist 6 (.one 7 (.free 8 (.free 9 (.free 10 (.free 11 (.hoist 12 (.free 16 (.hoist 17 (.free 18 (.one 13 (.one 14 (.free 15 (.free 19 (.free 20 (.free 21 .done)))))))))))))))))))))) _ rfl (by decide +kernel) (fun w k hh => hh.draw k) (fun w hh => hh) ?_
      refine kO 1 Try.runUnderlying61 Try.sizeOf32 rfl rfl rfl rfl (qq 2 Try.isAgg32 rfl rfl rfl rfl rfl (jk rfl rfl rfl rfl (fun w _ => jB hna2 (Try.runUnderlying32 w) rfl) (jk rfl rfl rfl rfl (fun _ _ => zr rfl rfl) (kg rfl rfl rfl ?_))))
      refine jD 35 rfl (fun h35 => ?_) (fun h35 => ?_)
      ·replace hm := ifD h35 hm
       refine jO rfl rfl rfl rfl rfl rfl rfl (Jh rfl rfl rfl rfl rfl rfl rfl (jK rfl (g_k rfl rfl rfl rfl (ju (fun w hh => hh) (jO rfl rfl rfl rfl rfl rfl rfl (jk rfl rfl rfl rfl (fun _ _ => yG rfl rfl) (kg rfl rfl rfl ?_)))))))
       refine jO rfl rfl rfl rfl rfl rfl rfl (Jh rfl rfl rfl rfl rfl rfl rfl (jO rfl rfl rfl rfl rfl rfl rfl (Jh rfl rfl rfl rfl rfl rfl rfl (jO rfl rfl rfl rfl rfl rfl rfl (jK rfl (g_k rfl rfl rfl rfl (ju (fun w hh => hh) ?_)))))))
       refine jK rfl (g_k rfl rfl rfl rfl (ju (fun w hh => hh) (jO rfl rfl rfl rfl rfl rfl rfl (jO rfl rfl rfl rfl rfl rfl rfl (jk rfl rfl rfl rfl (fun _ _ => yG rfl rfl) (jk rfl rfl rfl rfl (fun _ _ => jN rfl) (jI ?_)))))))
       obtain rfl := sj hm
       exact jg () (trivial) (sE rfl) (fun w hh => hh)
      ·replace hm := ifE h35 hm
       refine jR rfl rfl rfl rfl rfl rfl (fun w _ => ku 1 (Try.runUnderlying61 w) rfl (Try.sizeOf32 w) rfl) (yB rfl rfl rfl rfl rfl rfl (fun w hh => jY (Try.isAgg32 w) rfl (hh.cell 2 rfl rfl)) (jK rfl (ja rfl rfl ?_)))
       obtain ⟨t38_1, h36, hm⟩ := bindO hm
       refine jd [] [] rfl rfl rfl rfl rfl rfl rfl Try.call92 (fun w hh => Jf l1.of_ qa2 na2 ca2 w (HV.callee (S0 := []) (vs0 := []) hh (roR hh 2 rfl roN)) hna2 hqa2 hla2 h36) (fun l_11 h37 => ?_)
       refine ju (fun w hh => hh) (jR rfl rfl rfl rfl rfl rfl (fun _ _ => kq rfl) (jk rfl rfl rfl rfl (fun _ _ => yC rfl rfl) (kg rfl rfl rfl ?_)))
       refine jD 41 rfl (fun h38 => ?_) (fun h38 => ?_)
       ·replace hm := ifT (h38) hm
        refine jO rfl rfl rfl rfl rfl rfl rfl (Jh rfl rfl rfl rfl rfl rfl rfl (jO rfl rfl rfl rfl rfl rfl rfl (Jh rfl rfl rfl rfl rfl rfl rfl (jO rfl rfl rfl rfl rfl rfl rfl (jK rfl (g_k rfl rfl rfl rfl (ju (fun w hh => hh) ?_)))))))
        refine jK rfl (g_k rfl rfl rfl rfl (ju (fun w hh => hh) (jO rfl rfl rfl rfl rfl rfl rfl (jO rfl rfl rfl rfl rfl rfl rfl (jk rfl rfl rfl rfl (fun _ _ => yG rfl rfl) (jk rfl rfl rfl rfl (fun _ _ => jN rfl) (jI ?_)))))))
        obtain rfl := sj hm
        exact jg () (trivial) (sE rfl) (fun w hh => hh)
       ·replace hm := ifN h38 hm
        refine jR rfl rfl rfl rfl rfl rfl (fun w _ => ku 1 (Try.runUnderlying61 w) rfl (Try.sizeOf32 w) rfl) (yB rfl rfl rfl rfl rfl rfl (fun w hh => jY (Try.isAgg32 w) rfl (hh.cell 2 rfl rfl)) (jR rfl rfl rfl rfl rfl rfl (fun w _ => ku 1 (Try.runUnderlying61 w) rfl (Try.sizeOf32 w) rfl) (yB rfl rfl rfl rfl rfl rfl (fun w hh => jY (Try.isAgg32 w) rfl (hh.cell 2 rfl rfl)) (jR rfl rfl rfl rfl rfl rfl (fun w _ => jB hna2 (Try.runUnderlying32 w) rfl) (jK rfl (ja rfl rfl ?_))))))
        obtain ⟨t44_1, h39, hm⟩ := bindO hm
        refine jd [] [] rfl rfl rfl rfl rfl rfl rfl Try.call94 (fun w hh => Kq l1.of_ qa2 na2 ca2 w (HV.callee (S0 := []) (vs0 := []) hh (roR hh 2 rfl roN)) hna2 hqa2 hla2 h39) (fun l_12 h40 => ?_)
        have h41 := h40
        refine jS (S' := [_, _, _, _]) (vs' := [_]) [0, 1, 2, 3] [0] 0 rfl rfl rfl rfl (ju (hsE [0, 1, 2, 3] [] 0 rfl rfl rfl rfl) (jK rfl (ja rfl rfl ?_)))
        obtain ⟨t45_1, h42, hm⟩ := bindO hm
        refine jd [] [_] rfl rfl rfl rfl rfl rfl rfl Try.call93 (fun w hh => Kk t44_1 ⟨l_12.q, l_12.n, l_12.cap, l_12.sp⟩ w (HV.callee (S0 := []) (vs0 := [_]) hh roN) h41 h42) (fun l_13 h43 => ?_)
        have h44 := h43
        refine jS (S' := [_, _, _, _]) (vs' := [_]) [0, 1, 2, 3] [0] 0 rfl rfl rfl rfl (ju (hsE [0, 1, 2, 3] [] 0 rfl rfl rfl rfl) (jR rfl rfl rfl rfl rfl rfl (fun w _ => JI (vlen RI h44 rfl) (Try.runUnderlying32 w) rfl) (jR rfl rfl rfl rfl rfl rfl (fun _ _ => Zz rfl rfl) (jk rfl rfl rfl rfl (fun _ _ => yC rfl rfl) (jk rfl rfl rfl rfl (fun _ _ => jN rfl) (jI ?_))))))
        obtain rfl := sj hm
        exact jg () (trivial) (sE rfl) (hsE [0, 1, 2, 3] [] 0 rfl rfl rfl rfl)
     ·intro l_10 hj
      replace hm := h34
      refine jb ?_
      refine jq rfl (fun h45 => ?_) (fun h45 => ?_)
      ·replace hm := ifT (h45) hm
       refine jp (jm rfl rfl (jm rfl rfl (jo (jw (jx (je ?_))))))
       obtain rfl := sj hm
       refine jn rfl (fun w hh => (.tmp rfl (.tmp rfl .nil))) (fun w hh => ⟨(), rfl, trivial, hh.se [] [] 3 rfl rfl rfl rfl⟩)
      ·replace hm := ifN h45 hm
       refine jp (jf rfl rfl (kG [_, _] 2 Try.isAgg61 Try.sizeOf61 rfl rfl rfl rfl ?_))
       obtain ⟨t55_1, h46, hm⟩ := bindO hm
       refine jS (S' := [_, _, _, _]) (vs' := []) [1, 0, 2, 3] [] 0 rfl rfl rfl rfl ?_
       refine jd [_] [] rfl rfl rfl rfl rfl rfl rfl Try.call95 (fun w hh => zL s0.strips s0.carried t11b l1 l_1.1 qa0 na0 ca0 qa1 na1 ca1 l_1.2 qa2 na2 ca2 w (HV.callee (S0 := [_]) (vs0 := []) hh (roC (hh.bsepH 0 rfl) (roR hh 0 rfl (roR hh 1 rfl (roR hh 2 rfl roN))))) hna0 hqa0 hla0 hna1 hqa1 hla1 hna2 hqa2 hla2 h46) (fun l_14 h47 => ?_)
       refine jS (S' := [_, _, _, _]) (vs' := []) [0, 1, 2, 3] [] 0 rfl rfl rfl rfl (qv rfl rfl rfl (jm rfl rfl (jo ?_)))
       refine jq rfl (fun h48 => ?_) (fun h48 => ?_)
       ·replace hm := ifD h48 hm
        refine jp (jm rfl rfl (jm rfl rfl (jo (jw (jx (je ?_))))))
        obtain rfl := sj hm
        refine jn rfl (fun w hh => (.tmp rfl (.tmp rfl .nil))) (fun w hh => ⟨(), rfl, trivial, hh.se [] [] 3 rfl rfl rfl rfl⟩)
       ·replace hm := ifE h48 hm
        refine jr (js (jb (jp (jf rfl rfl (kG [_, _] 2 Try.isAgg61 Try.sizeOf61 rfl rfl rfl rfl ?_)))))
        obtain ⟨t59_1, h49, hm⟩ := bindO hm
        refine jd [_] [] rfl rfl rfl rfl rfl rfl rfl Try.call95 (fun w hh => zL s0.strips s0.carried t11b l1 l_1.1 qa0 na0 ca0 qa1 na1 ca1 l_1.2 qa2 na2 ca2 w (HV.callee (S0 := [_]) (vs0 := []) hh (roC (hh.bsepH 0 rfl) (roR hh 0 rfl (roR hh 1 rfl (roR hh 2 rfl roN))))) hna0 hqa0 hla0 hna1 hqa1 hla1 hna2 hqa2 hla2 h49) (fun l_15 h50 => ?_)
        refine jS (S' := [_, _, _, _]) (vs' := []) [0, 1, 2, 3] [] 0 rfl rfl rfl rfl (jm rfl rfl (jm rfl rfl (jo (jw ?_))))
        obtain rfl := sj hm
        refine jn rfl (fun w hh => (.tmp rfl (.tmp rfl .nil))) (fun w hh => ⟨(), rfl, trivial, hh.se [] [] 3 rfl rfl rfl rfl⟩)
structure Qf where
  r1 : Int
  r0 : (List (List Int))
def Ju (s0 : Scalps) : Option Qf :=
 (qZ s0).bind fun t9 =>
 some (⟨t9.r2, t9.r0⟩ : Qf)
theorem YM (s0 : Scalps) (qa0 : Option Addr) (na0 ca0 : Nat) (qa1 : Option Addr) (na1 ca1 : Nat) (w : World) (hw : HV w (keys [] []) [] [] [(aB qa0, aO qa0, RSt.enc s0.strips), (aB qa1, aO qa1, RSp.enc s0.carried)] w) (hna0 : s0.strips.length = na0) (hqa0 : AOK na0 qa0) (hla0 : na0 ≤ ca0) (hna1 : s0.carried.length = na1) (hqa1 : AOK na1 qa1) (hla1 : na1 ≤ ca1) {res : Qf} (hm : Ju s0 = some res) :
    Calls Try.prog 27 #[.agg #[.slice qa0 na0 ca0, .slice qa1 na1 ca1]] w (fun en w' => ∃ l : DL, en = .returned (.tuple #[slv l.v.q l.v.n l.v.cap, .int .i64 res.r1]) ∧ (VOK 1 l.v.n l.v.cap (RwH.enc l.rs) l.v.sp l.v.q ∧ DOK RI res.r0 l.rs) ∧ HV w (keys [] []) [] [⟨32, RwH.enc l.rs, l.v.sp, l.v.q, dbl 3 RI res.r0 l.rs⟩] [] w') := by
  unfold Ju at hm
  refine kb Try.func27 rfl Try.ntmps27 rfl (e := [(0, _)]) rfl hw (jp ?_)
  refine jH rfl rfl (fun b h3 => ?_)
  refine jc rfl rfl rfl (fun _ _ => qj rfl) (jm rfl rfl (j1 (kG [_, _] 0 Try.isAgg28 Try.sizeOf28 rfl rfl rfl rfl ?_)))
  obtain ⟨t9, h4, hm⟩ := bindO hm
  refine jd [] [] rfl rfl rfl rfl rfl rfl rfl Try.call17 (fun w hh => Yp s0 qa0 na0 ca0 qa1 na1 ca1 w (HV.callee (S0 := []) (vs0 := []) hh (roR hh 0 rfl (roR hh 1 rfl roN))) hna0 hqa0 hla0 hna1 hqa1 hla1 h4) (fun l h5 => ?_)
  obtain ⟨h6, h7⟩ := h5
  refine jS (S' := [_]) (vs' := [_]) [0] [0] 0 rfl rfl rfl rfl (jf rfl rfl (kj rfl rfl rfl (kj rfl rfl rfl (kj rfl rfl rfl (jm rfl rfl (jm rfl rfl (jm rfl rfl ?_)))))))
  refine j1 (jf rfl rfl (jf rfl rfl (jm rfl rfl (jm rfl rfl (jo (jw ?_))))))
  obtain rfl := sj hm
  refine jn rfl (fun w hh => (.tmp rfl (.tmp rfl .nil))) (fun w hh => ⟨l, rfl, ⟨h6, h7⟩, hh.se [] [0] 2 rfl rfl rfl rfl⟩)
def Kt (s0 : (List Strip)) : Option (List Strip) :=
 if 0 < (s0.length : Int) then ((appc 56 [] s0).bind fun t7 =>
 some t7) else none
theorem ze (s0 : (List Strip)) (qa0 : Option Addr) (na0 ca0 : Nat) (w : World) (hw : HV w (keys [] []) [] [] [(aB qa0, aO qa0, RSt.enc s0)] w) (hna0 : s0.length = na0) (hqa0 : AOK na0 qa0) (hla0 : na0 ≤ ca0) {res : (List Strip)} (hm : Kt s0 = some res) :
    Calls Try.prog 56 #[.slice qa0 na0 ca0] w (fun en w' => ∃ l : VL, en = .returned (slv l.q l.n l.cap) ∧ (VOK 7 l.n l.cap (RSt.enc res) l.sp l.q) ∧ HV w (keys [] []) [] [⟨77, RSt.enc res, l.sp, l.q, []⟩] [] w') := by
  unfold Kt at hm
  refine kb Try.func56 rfl Try.ntmps56 rfl (e := [(0, _)]) rfl hw (jp (jc rfl rfl rfl (fun _ _ => qj rfl) (jo (jj (jp (jf rfl rfl ?_))))))
  obtain ⟨h2, hm⟩ := ifO hm
  refine jc rfl rfl rfl (fun w _ => Zv hqa0 (len_posN hna0 h2) (Try.runUnderlying25 w) rfl rfl) (jo (qO rfl rfl (jr (jb (jp ?_)))))
  refine ZB RSt (fun w => Try.runUnderlying25 w) (fun w => Try.sizeOf77 w) rfl rfl (fun L h3 => ?_)
  refine jf rfl rfl ?_
  obtain ⟨t7, h4, hm⟩ := bindO hm
  refine y4 RSt 0 h4 Try.underlying25 Zs rfl rfl rfl rfl rfl h3 rfl rfl hna0 hqa0 (fun w hh => (hh.seg 0 rfl)) rfl (fun L_1 h5 h5n => ?_)
  refine jS (S' := []) (vs' := [_]) [] [0] 0 rfl rfl rfl rfl (jm rfl rfl (jo (jw ?_)))
  obtain rfl := sj hm
  refine jn rfl (fun w hh => (.tmp rfl .nil)) (fun w hh => ⟨L_1, rfl, h5, hh.se [] [0] 1 rfl rfl rfl rfl⟩)
end Go.Proofs.Ws

