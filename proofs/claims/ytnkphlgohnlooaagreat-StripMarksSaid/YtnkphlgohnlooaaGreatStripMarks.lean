/- Whatever the input: the Go function laurellaw09.StripMarks of the given program returns true, and its arguments read as they did. Conditions: none. -/
import Derived.Test.YtnkphlgohnlooaaGreatStripMarks8
import Derived.Test.YtnkphlgohnlooaaGreatRows
import Derived.WalkKit
import Derived.ProofKit
import Derived.OpenShut
import Derived.ShutString
import Derived.ChangeOld
import Derived.Below
import Derived.KernelRfl
namespace Go.Proofs.YtnkphlgohnlooaaGreat.stripMarks
open Go.ChangeShapes Go.WideShapes Go.ChangeAt Go.RowKit
open Go.Gx Go.Sp Go.Proofs.Ws
set_option linter.unusedVariables false

theorem own : ownKnob Tryz.prog.godebug = none := by kernel_rfl
theorem laidOut : laidOutB Tryz.prog = true := by kernel_rfl
section
variable {H : Type} {enc : TypeId × Value → H} {w : World} {base : Nat} {sp : Nat → Bool} {held : Bool}
theorem opn3 : Opens enc Tryz.prog w base sp held RI i64P 3 := opens_i64 Tryz.underlying3
theorem lst_1_1 {α : Type} {cs : List α} {a0 a1 : α} (hl : cs.length = 2) (h0 : (cs.drop 0).take 1 = [a0]) (h1 : (cs.drop 1).take 1 = [a1]) : cs = [a0, a1] := by
  match cs, hl with
  | [x0, x1], _ => simp at h0 h1; simp [h0, h1]
set_option maxRecDepth 100000 in
theorem opn32 : Opens enc Tryz.prog w base sp held RSp (fun _ => True) 32 := fun fuel cs x h => by
  obtain ⟨a0, h0, _⟩ := fieldAt Tryz.underlying32 h 0 (T := 3) (o := 0) (k := 1) rfl (by kernel_rfl) opn3
  obtain ⟨a1, h1, _⟩ := fieldAt Tryz.underlying32 h 1 (T := 3) (o := 1) (k := 1) rfl (by kernel_rfl) opn3
  have hl := structLen Tryz.underlying32 h
  rw [show Tryz.prog.cellsOf 32 = 2 by kernel_rfl] at hl
  exact ⟨⟨a0, a1⟩, lst_1_1 hl h0 h1, trivial⟩
theorem lst_1_2_2_2 {α : Type} {cs : List α} {a0 a1 a2 a3 a4 a5 a6 : α} (hl : cs.length = 7) (h0 : (cs.drop 0).take 1 = [a0]) (h1 : (cs.drop 1).take 2 = [a1, a2]) (h2 : (cs.drop 3).take 2 = [a3, a4]) (h3 : (cs.drop 5).take 2 = [a5, a6]) : cs = [a0, a1, a2, a3, a4, a5, a6] := by
  match cs, hl with
  | [x0, x1, x2, x3, x4, x5, x6], _ => simp at h0 h1 h2 h3; simp [h0, h1, h2, h3]
set_option maxRecDepth 100000 in
theorem opn85 : Opens enc Tryz.prog w base sp held RSt (fun _ => True) 85 := fun fuel cs x h => by
  obtain ⟨a0, h0, _⟩ := fieldAt Tryz.underlying85 h 0 (T := 3) (o := 0) (k := 1) rfl (by kernel_rfl) opn3
  obtain ⟨a1, h1, _⟩ := fieldAt Tryz.underlying85 h 1 (T := 32) (o := 1) (k := 2) rfl (by kernel_rfl) opn32
  obtain ⟨a2, h2, _⟩ := fieldAt Tryz.underlying85 h 2 (T := 32) (o := 3) (k := 2) rfl (by kernel_rfl) opn32
  obtain ⟨a3, h3, _⟩ := fieldAt Tryz.underlying85 h 3 (T := 32) (o := 5) (k := 2) rfl (by kernel_rfl) opn32
  have hl := structLen Tryz.underlying85 h
  rw [show Tryz.prog.cellsOf 85 = 7 by kernel_rfl] at hl
  exact ⟨⟨a0, a1, a2, a3⟩, lst_1_2_2_2 hl h0 h1 h2 h3, trivial⟩
set_option maxRecDepth 100000 in
theorem opst25 {fuel : Nat} {cs : List Value} {x : DataW H × List MemPlace} (h : DataW.trod enc Tryz.prog w base sp held fuel 25 cs = some x) :
    ∃ (s : Scalps) (Aa : Option Addr) (na ca : Nat) (va : Value) (Ab : Option Addr) (nb cb : Nat) (vb : Value), cs = [.slice Aa na ca, .slice Ab nb cb] ∧ SlIn RSt (fun _ => True) w va Aa na ca s.strips ∧ SlIn RSp (fun _ => True) w vb Ab nb cb s.carried := by
  obtain ⟨v0, A0, n0, c0, l0, e0, h0⟩ := fieldSl Tryz.underlying25 h 0 (T := 22) (o := 0) (e := 85) rfl (by kernel_rfl) Tryz.underlying22 (by kernel_rfl) opn85 rfl
  have hv0 := h0.val
  subst hv0
  obtain ⟨v1, A1, n1, c1, l1, e1, h1⟩ := fieldSl Tryz.underlying25 h 1 (T := 23) (o := 1) (e := 32) rfl (by kernel_rfl) Tryz.underlying23 (by kernel_rfl) opn32 rfl
  have hv1 := h1.val
  subst hv1
  have hl := structLen Tryz.underlying25 h
  rw [show Tryz.prog.cellsOf 25 = 2 by kernel_rfl] at hl
  exact ⟨⟨l0, l1⟩, A0, n0, c0, _, A1, n1, c1, _, lst_1_1 hl e0 e1, h0, h1⟩
set_option maxRecDepth 100000 in
theorem opst28 {fuel : Nat} {cs : List Value} {x : DataW H × List MemPlace} (h : DataW.trod enc Tryz.prog w base sp held fuel 28 cs = some x) :
    ∃ (s : Marks) (Aa : Option Addr) (na ca : Nat) (va : Value) (Ab : Option Addr) (nb cb : Nat) (vb : Value), cs = [.slice Aa na ca, .slice Ab nb cb] ∧ SlIn RI i64P w va Aa na ca s.strips ∧ SlIn RI i64P w vb Ab nb cb s.tenants := by
  obtain ⟨v0, A0, n0, c0, l0, e0, h0⟩ := fieldSl Tryz.underlying28 h 0 (T := 26) (o := 0) (e := 3) rfl (by kernel_rfl) Tryz.underlying26 (by kernel_rfl) opn3 rfl
  have hv0 := h0.val
  subst hv0
  obtain ⟨v1, A1, n1, c1, l1, e1, h1⟩ := fieldSl Tryz.underlying28 h 1 (T := 26) (o := 1) (e := 3) rfl (by kernel_rfl) Tryz.underlying26 (by kernel_rfl) opn3 rfl
  have hv1 := h1.val
  subst hv1
  have hl := structLen Tryz.underlying28 h
  rw [show Tryz.prog.cellsOf 28 = 2 by kernel_rfl] at hl
  exact ⟨⟨l0, l1⟩, A0, n0, c0, _, A1, n1, c1, _, lst_1_1 hl e0 e1, h0, h1⟩
theorem opn4 : Opens enc Tryz.prog w base sp held RB (fun _ => True) 4 := opens_bool Tryz.underlying4
set_option maxRecDepth 100000 in
theorem opst30 {fuel : Nat} {cs : List Value} {x : DataW H × List MemPlace} (h : DataW.trod enc Tryz.prog w base sp held fuel 30 cs = some x) :
    ∃ (s : Lack) (Aa : Option Addr) (na ca : Nat) (va : Value), cs = [.bool s.tenants, .slice Aa na ca] ∧ SlIn RI i64P w va Aa na ca s.of_ := by
  obtain ⟨p0, e0, w0⟩ := fieldAt Tryz.underlying30 h 0 (T := 4) (o := 0) (k := 1) rfl (by kernel_rfl) opn4
  obtain ⟨v1, A1, n1, c1, l1, e1, h1⟩ := fieldSl Tryz.underlying30 h 1 (T := 26) (o := 1) (e := 3) rfl (by kernel_rfl) Tryz.underlying26 (by kernel_rfl) opn3 rfl
  have hv1 := h1.val
  subst hv1
  have hl := structLen Tryz.underlying30 h
  rw [show Tryz.prog.cellsOf 30 = 2 by kernel_rfl] at hl
  exact ⟨⟨p0, l1⟩, A1, n1, c1, _, lst_1_1 hl e0 e1, h1⟩
end
theorem slShort {α : Type} {R : Row α} {wf : α → Prop} {w : World} {v : Value} {A : Option Addr} {n c : Nat} {l : List α} (h : SlIn R wf w v A n c l) : l.length ≤ 9223372036854775807 := by
  have h1 := h.len
  have h2 := h.le
  have h3 := h.max
  unfold maxLen at h3
  omega
theorem walk (s0 : Scalps) (A0a : Option Addr) (n0a c0a : Nat) (v0a : Value) (A0b : Option Addr) (n0b c0b : Nat) (v0b : Value) (s1 : Marks) (A1a : Option Addr) (n1a c1a : Nat) (v1a : Value) (A1b : Option Addr) (n1b c1b : Nat) (v1b : Value) (s2 : Lack) (A2a : Option Addr) (n2a c2a : Nat) (v2a : Value) (a3 : Int) (s4 : Span) (w : World) (h0a : SlIn RSt (fun _ => True) w v0a A0a n0a c0a s0.strips) (h0b : SlIn RSp (fun _ => True) w v0b A0b n0b c0b s0.carried) (h1a : SlIn RI i64P w v1a A1a n1a c1a s1.strips) (h1b : SlIn RI i64P w v1b A1b n1b c1b s1.tenants) (h2a : SlIn RI i64P w v2a A2a n2a c2a s2.of_) (w3 : (Lit.int .i64 a3).wf = true) :
    Calls Tryz.prog 3 #[.agg #[.slice A0a n0a c0a, .slice A0b n0b c0b], .agg #[.slice A1a n1a c1a, .slice A1b n1b c1b], .agg #[.bool s2.tenants, .slice A2a n2a c2a], .int .i64 a3, .agg #[.int .i64 s4.lo, .int .i64 s4.hi]] w fun e w' => e = .returned (.bool true) ∧ Below w.heap.size w w' := by
  have hc := Y1 s0 s1 s2 a3 s4 A0a n0a c0a A0b n0b c0b A1a n1a c1a A1b n1b c1b A2a n2a c2a w (HV.begin (segCons h0a.seg (segCons h0b.seg (segCons h1a.seg (segCons h1b.seg (segCons h2a.seg segNil)))))) h0a.len h0a.ok h0a.le h0b.len h0b.ok h0b.le h1a.len h1a.ok h1a.le h1b.len h1b.ok h1b.le h2a.len h2a.ok h2a.le (StripMarks_true (slShort h0a) (slShort h0b) s1 s2 a3 s4)
  exact Calls.mono hc (fun e w' ⟨_, he, _, hh⟩ => ⟨he, hh.below⟩)

set_option maxRecDepth 100000 in
theorem lifted (os : Os) (started : os.Started) (H : Type) (enc : TypeId × Value → H) :
    ReturnsInHanded {} Tryz.checked os 3 .any (Rows.stripMarksSpec.pre6 enc Tryz.prog Tryz.f3 Rows.stripMarksRow.domain false) (Rows.stripMarksSpec.post enc Tryz.prog Tryz.f3 false true false false) := by
  refine returnsInHanded_of_change (C := Tryz.checked) own started (by kernel_rfl) Tryz.func3
    (ChangeSpec.witness6 (enc := enc) (C := Tryz.checked) false ⟨#[], #[.agg #[.slice none 0 0, .slice none 0 0], .agg #[.slice none 0 0, .slice none 0 0], .agg #[.bool false, .slice none 0 0], .int .i64 0, .agg #[.int .i64 0, .int .i64 0]], []⟩ 8 (by kernel_rfl) (by kernel_rfl) (by kernel_rfl) (by kernel_rfl)) ?_
  intro W base args ds gs before hval0 hW hcnd _
  have hval : ∀ (j : Nat) t v, Tryz.f3.params[j]? = some t → args[j]? = some v → Value.okWide Tryz.prog W .any base t v := hval0
  have hW' := hW
  obtain ⟨p, q, hA0, hV, rfl, hfz, hnd⟩ := hW
  have hA : DataW.TrodAll enc Tryz.prog W 0 (fun _ => true) true Tryz.f3.params.toList args.toList ds p := hA0
  rw [Tryz.params3] at hA hval
  obtain ⟨v0, vs0, d0, ds0, p0, q0, hargs, rfl, rfl, h0, r0⟩ := trodAll_cons hA
  obtain ⟨v1, vs1, d1, ds1, p1, q1, rfl, rfl, rfl, h1, r1⟩ := trodAll_cons r0
  obtain ⟨v2, vs2, d2, ds2, p2, q2, rfl, rfl, rfl, h2, r2⟩ := trodAll_cons r1
  obtain ⟨v3, vs3, d3, ds3, p3, q3, rfl, rfl, rfl, h3, r3⟩ := trodAll_cons r2
  obtain ⟨v4, vs4, d4, ds4, p4, q4, rfl, rfl, rfl, h4, r4⟩ := trodAll_cons r3
  obtain ⟨rfl, rfl, rfl⟩ := trodAll_nil r4
  obtain rfl : args = #[v0, v1, v2, v3, v4] := by cases args; simp_all
  obtain ⟨rfl, rfl⟩ := trodVars_none hV
  obtain ⟨cs0, rfl, hsz0⟩ := okWide_struct Tryz.underlying25 (hval 0 25 v0 rfl rfl)
  have k0 := h0
  have lt0 : ∀ x ∈ p0, x.block < W.heap.size := by obtain ⟨m, hm⟩ := k0; exact DataW.trod_lt m _ _ _ hm
  obtain ⟨fu0, hf0⟩ := h0
  obtain ⟨s0, A0a, n0a, c0a, v0a, A0b, n0b, c0b, v0b, ee0, h0a, h0b⟩ := opst25 hf0
  obtain rfl : cs0 = #[.slice A0a n0a c0a, .slice A0b n0b c0b] := Array.toList_inj.1 (by simpa [Value.cells] using ee0)
  obtain ⟨cs1, rfl, hsz1⟩ := okWide_struct Tryz.underlying28 (hval 1 28 v1 rfl rfl)
  have k1 := h1
  have lt1 : ∀ x ∈ p1, x.block < W.heap.size := by obtain ⟨m, hm⟩ := k1; exact DataW.trod_lt m _ _ _ hm
  obtain ⟨fu1, hf1⟩ := h1
  obtain ⟨s1, A1a, n1a, c1a, v1a, A1b, n1b, c1b, v1b, ee1, h1a, h1b⟩ := opst28 hf1
  obtain rfl : cs1 = #[.slice A1a n1a c1a, .slice A1b n1b c1b] := Array.toList_inj.1 (by simpa [Value.cells] using ee1)
  obtain ⟨cs2, rfl, hsz2⟩ := okWide_struct Tryz.underlying30 (hval 2 30 v2 rfl rfl)
  have k2 := h2
  have lt2 : ∀ x ∈ p2, x.block < W.heap.size := by obtain ⟨m, hm⟩ := k2; exact DataW.trod_lt m _ _ _ hm
  obtain ⟨fu2, hf2⟩ := h2
  obtain ⟨s2, A2a, n2a, c2a, v2a, ee2, h2a⟩ := opst30 hf2
  obtain rfl : cs2 = #[.bool s2.tenants, .slice A2a n2a c2a] := Array.toList_inj.1 (by simpa [Value.cells] using ee2)
  obtain ⟨a3, rfl, rfl, rfl, w3⟩ := open_int Tryz.underlying3 (hval 3 3 v3 rfl rfl) h3
  obtain ⟨cs4, rfl, hsz4⟩ := okWide_struct Tryz.underlying32 (hval 4 32 v4 rfl rfl)
  have k4 := h4
  have lt4 : ∀ x ∈ p4, x.block < W.heap.size := by obtain ⟨m, hm⟩ := k4; exact DataW.trod_lt m _ _ _ hm
  obtain ⟨fu4, hf4⟩ := h4
  obtain ⟨s4, ee4, _⟩ := opn32 _ _ _ hf4
  obtain rfl : cs4 = #[.int .i64 s4.lo, .int .i64 s4.hi] := Array.toList_inj.1 (by simpa [Value.cells, RSp] using ee4)
  clear hA0 hval0
  refine (walk s0 A0a n0a c0a v0a A0b n0b c0b v0b s1 A1a n1a c1a v1a A1b n1b c1b v1b s2 A2a n2a c2a v2a a3 s4 W h0a h0b h1a h1b h2a w3).mono fun e W' ⟨he, bel⟩ => ?_
  subst he
  exact ⟨_, rfl, _, _, _, [], _, [], hW', trodAll_mk1 (shut_bool Tryz.underlying4 _), (trodAll_cons_mk (Below.trod laidOut (by kernel_rfl) (of_decide_eq_true (by kernel_rfl)) k0 bel lt0) (trodAll_cons_mk (Below.trod laidOut (by kernel_rfl) (of_decide_eq_true (by kernel_rfl)) k1 bel lt1) (trodAll_cons_mk (Below.trod laidOut (by kernel_rfl) (of_decide_eq_true (by kernel_rfl)) k2 bel lt2) (trodAll_cons_mk (shut_int Tryz.underlying3 w3) (trodAll_cons_mk (Below.trod laidOut (by kernel_rfl) (of_decide_eq_true (by kernel_rfl)) k4 bel lt4) trodAll_mk0))))), rfl, bel.frame _, fun h => by cases h⟩

theorem over : Rows.stripMarksRow.holds Tryz.pinned (OpenSpec.ofChange Rows.stripMarksSpec) :=
  OpenClaim.holds_of_wide 3 Tryz.f3 rfl rfl rfl rfl rfl rfl rfl ⟨rfl, rfl, rfl, rfl, rfl⟩ rfl rfl rfl rfl rfl (by kernel_rfl) Tryz.func3 (by kernel_rfl)
    (of_decide_eq_true (by kernel_rfl)) (by unfold Func.isWrapper; first | (rw [if_pos (by decide +kernel)]; kernel_rfl) | (rw [if_neg (by decide +kernel)]; exact ⟨rfl, rfl⟩))
    (fun os started H enc _ => lifted os started H enc)

end Go.Proofs.YtnkphlgohnlooaaGreat.stripMarks
namespace Go.Proofs.YtnkphlgohnlooaaGreat
theorem stripMarksProved : Rows.StripMarksSaid := stripMarks.over
#print axioms stripMarksProved
end Go.Proofs.YtnkphlgohnlooaaGreat
