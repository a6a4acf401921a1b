/- Whatever the input: the Go function laurellaw09.StripTaken of the given program returns true, and its arguments read as they did. Conditions: none. -/
import Derived.Test.YtnkphlgohnlooaaGreatStripTaken8
import Derived.Test.YtnkphlgohnlooaaGreatRows
import Derived.WalkKit
import Derived.ProofKit
import Derived.OpenShut
import Derived.ShutString
import Derived.ChangeOld
import Derived.Below
import Derived.KernelRfl
namespace Go.Proofs.YtnkphlgohnlooaaGreat.stripTaken
open Go.ChangeShapes Go.WideShapes Go.ChangeAt Go.RowKit
open Go.Gx Go.Sp Go.Proofs.Ws
set_option linter.unusedVariables false

theorem own : ownKnob Tryz.prog.godebug = none := by kernel_rfl
theorem laidOut : laidOutB Tryz.prog = true := by kernel_rfl
section
variable {H : Type} {enc : TypeId × Value → H} {w : World} {base : Nat} {sp : Nat → Bool} {held : Bool}
theorem opn3 : Opens enc Tryz.prog w base sp held RI i64P 3 := opens_i64 Tryz.underlying3
theorem lst_1_1 {α : Type} {cs : List α} {a0 a1 : α} (hl : cs.length = 2) (h0 : (cs.drop 0).take 1 = [a0]) (h1 : (cs.drop 1).take 1 = [a1]) : cs = [a0, a1] := by
  match cs, hl with
  | [x0, x1], _ => simp at h0 h1; simp [h0, h1]
set_option maxRecDepth 100000 in
theorem opn32 : Opens enc Tryz.prog w base sp held RSp (fun _ => True) 32 := fun fuel cs x h => by
  obtain ⟨a0, h0, _⟩ := fieldAt Tryz.underlying32 h 0 (T := 3) (o := 0) (k := 1) rfl (by kernel_rfl) opn3
  obtain ⟨a1, h1, _⟩ := fieldAt Tryz.underlying32 h 1 (T := 3) (o := 1) (k := 1) rfl (by kernel_rfl) opn3
  have hl := structLen Tryz.underlying32 h
  rw [show Tryz.prog.cellsOf 32 = 2 by kernel_rfl] at hl
  exact ⟨⟨a0, a1⟩, lst_1_1 hl h0 h1, trivial⟩
theorem lst_1_2_2_2 {α : Type} {cs : List α} {a0 a1 a2 a3 a4 a5 a6 : α} (hl : cs.length = 7) (h0 : (cs.drop 0).take 1 = [a0]) (h1 : (cs.drop 1).take 2 = [a1, a2]) (h2 : (cs.drop 3).take 2 = [a3, a4]) (h3 : (cs.drop 5).take 2 = [a5, a6]) : cs = [a0, a1, a2, a3, a4, a5, a6] := by
  match cs, hl with
  | [x0, x1, x2, x3, x4, x5, x6], _ => simp at h0 h1 h2 h3; simp [h0, h1, h2, h3]
set_option maxRecDepth 100000 in
theorem opn85 : Opens enc Tryz.prog w base sp held RSt (fun _ => True) 85 := fun fuel cs x h => by
  obtain ⟨a0, h0, _⟩ := fieldAt Tryz.underlying85 h 0 (T := 3) (o := 0) (k := 1) rfl (by kernel_rfl) opn3
  obtain ⟨a1, h1, _⟩ := fieldAt Tryz.underlying85 h 1 (T := 32) (o := 1) (k := 2) rfl (by kernel_rfl) opn32
  obtain ⟨a2, h2, _⟩ := fieldAt Tryz.underlying85 h 2 (T := 32) (o := 3) (k := 2) rfl (by kernel_rfl) opn32
  obtain ⟨a3, h3, _⟩ := fieldAt Tryz.underlying85 h 3 (T := 32) (o := 5) (k := 2) rfl (by kernel_rfl) opn32
  have hl := structLen Tryz.underlying85 h
  rw [show Tryz.prog.cellsOf 85 = 7 by kernel_rfl] at hl
  exact ⟨⟨a0, a1, a2, a3⟩, lst_1_2_2_2 hl h0 h1 h2 h3, trivial⟩
set_option maxRecDepth 100000 in
theorem opst25 {fuel : Nat} {cs : List Value} {x : DataW H × List MemPlace} (h : DataW.trod enc Tryz.prog w base sp held fuel 25 cs = some x) :
    ∃ (s : Scalps) (Aa : Option Addr) (na ca : Nat) (va : Value) (Ab : Option Addr) (nb cb : Nat) (vb : Value), cs = [.slice Aa na ca, .slice Ab nb cb] ∧ SlIn RSt (fun _ => True) w va Aa na ca s.strips ∧ SlIn RSp (fun _ => True) w vb Ab nb cb s.carried := by
  obtain ⟨v0, A0, n0, c0, l0, e0, h0⟩ := fieldSl Tryz.underlying25 h 0 (T := 22) (o := 0) (e := 85) rfl (by kernel_rfl) Tryz.underlying22 (by kernel_rfl) opn85 rfl
  have hv0 := h0.val
  subst hv0
  obtain ⟨v1, A1, n1, c1, l1, e1, h1⟩ := fieldSl Tryz.underlying25 h 1 (T := 23) (o := 1) (e := 32) rfl (by kernel_rfl) Tryz.underlying23 (by kernel_rfl) opn32 rfl
  have hv1 := h1.val
  subst hv1
  have hl := structLen Tryz.underlying25 h
  rw [show Tryz.prog.cellsOf 25 = 2 by kernel_rfl] at hl
  exact ⟨⟨l0, l1⟩, A0, n0, c0, _, A1, n1, c1, _, lst_1_1 hl e0 e1, h0, h1⟩
end
theorem slShort {α : Type} {R : Row α} {wf : α → Prop} {w : World} {v : Value} {A : Option Addr} {n c : Nat} {l : List α} (h : SlIn R wf w v A n c l) : l.length ≤ 9223372036854775807 := by
  have h1 := h.len
  have h2 := h.le
  have h3 := h.max
  unfold maxLen at h3
  omega
theorem walk (s0 : Scalps) (A0a : Option Addr) (n0a c0a : Nat) (v0a : Value) (A0b : Option Addr) (n0b c0b : Nat) (v0b : Value) (a1 : Int) (a2 : Int) (w : World) (h0a : SlIn RSt (fun _ => True) w v0a A0a n0a c0a s0.strips) (h0b : SlIn RSp (fun _ => True) w v0b A0b n0b c0b s0.carried) (w1 : (Lit.int .i64 a1).wf = true) (w2 : (Lit.int .i64 a2).wf = true) :
    Calls Tryz.prog 4 #[.agg #[.slice A0a n0a c0a, .slice A0b n0b c0b], .int .i64 a1, .int .i64 a2] w fun e w' => e = .returned (.bool true) ∧ Below w.heap.size w w' := by
  have hc := Yz s0 a1 a2 A0a n0a c0a A0b n0b c0b w (HV.begin (segCons h0a.seg (segCons h0b.seg segNil))) h0a.len h0a.ok h0a.le h0b.len h0b.ok h0b.le (StripTaken_true (slShort h0a) (slShort h0b) a1 a2)
  exact Calls.mono hc (fun e w' ⟨_, he, _, hh⟩ => ⟨he, hh.below⟩)

set_option maxRecDepth 100000 in
theorem lifted (os : Os) (started : os.Started) (H : Type) (enc : TypeId × Value → H) :
    ReturnsInHanded {} Tryz.checked os 4 .any (Rows.stripTakenSpec.pre6 enc Tryz.prog Tryz.f4 Rows.stripTakenRow.domain false) (Rows.stripTakenSpec.post enc Tryz.prog Tryz.f4 false true false false) := by
  refine returnsInHanded_of_change (C := Tryz.checked) own started (by kernel_rfl) Tryz.func4
    (ChangeSpec.witness6 (enc := enc) (C := Tryz.checked) false ⟨#[], #[.agg #[.slice none 0 0, .slice none 0 0], .int .i64 0, .int .i64 0], []⟩ 8 (by kernel_rfl) (by kernel_rfl) (by kernel_rfl) (by kernel_rfl)) ?_
  intro W base args ds gs before hval0 hW hcnd _
  have hval : ∀ (j : Nat) t v, Tryz.f4.params[j]? = some t → args[j]? = some v → Value.okWide Tryz.prog W .any base t v := hval0
  have hW' := hW
  obtain ⟨p, q, hA0, hV, rfl, hfz, hnd⟩ := hW
  have hA : DataW.TrodAll enc Tryz.prog W 0 (fun _ => true) true Tryz.f4.params.toList args.toList ds p := hA0
  rw [Tryz.params4] at hA hval
  obtain ⟨v0, vs0, d0, ds0, p0, q0, hargs, rfl, rfl, h0, r0⟩ := trodAll_cons hA
  obtain ⟨v1, vs1, d1, ds1, p1, q1, rfl, rfl, rfl, h1, r1⟩ := trodAll_cons r0
  obtain ⟨v2, vs2, d2, ds2, p2, q2, rfl, rfl, rfl, h2, r2⟩ := trodAll_cons r1
  obtain ⟨rfl, rfl, rfl⟩ := trodAll_nil r2
  obtain rfl : args = #[v0, v1, v2] := by cases args; simp_all
  obtain ⟨rfl, rfl⟩ := trodVars_none hV
  obtain ⟨cs0, rfl, hsz0⟩ := okWide_struct Tryz.underlying25 (hval 0 25 v0 rfl rfl)
  have k0 := h0
  have lt0 : ∀ x ∈ p0, x.block < W.heap.size := by obtain ⟨m, hm⟩ := k0; exact DataW.trod_lt m _ _ _ hm
  obtain ⟨fu0, hf0⟩ := h0
  obtain ⟨s0, A0a, n0a, c0a, v0a, A0b, n0b, c0b, v0b, ee0, h0a, h0b⟩ := opst25 hf0
  obtain rfl : cs0 = #[.slice A0a n0a c0a, .slice A0b n0b c0b] := Array.toList_inj.1 (by simpa [Value.cells] using ee0)
  obtain ⟨a1, rfl, rfl, rfl, w1⟩ := open_int Tryz.underlying3 (hval 1 3 v1 rfl rfl) h1
  obtain ⟨a2, rfl, rfl, rfl, w2⟩ := open_int Tryz.underlying3 (hval 2 3 v2 rfl rfl) h2
  clear hA0 hval0
  refine (walk s0 A0a n0a c0a v0a A0b n0b c0b v0b a1 a2 W h0a h0b w1 w2).mono fun e W' ⟨he, bel⟩ => ?_
  subst he
  exact ⟨_, rfl, _, _, _, [], _, [], hW', trodAll_mk1 (shut_bool Tryz.underlying4 _), (trodAll_cons_mk (Below.trod laidOut (by kernel_rfl) (of_decide_eq_true (by kernel_rfl)) k0 bel lt0) (trodAll_cons_mk (shut_int Tryz.underlying3 w1) (trodAll_cons_mk (shut_int Tryz.underlying3 w2) trodAll_mk0))), rfl, bel.frame _, fun h => by cases h⟩

theorem over : Rows.stripTakenRow.holds Tryz.pinned (OpenSpec.ofChange Rows.stripTakenSpec) :=
  OpenClaim.holds_of_wide 4 Tryz.f4 rfl rfl rfl rfl rfl rfl rfl ⟨rfl, rfl, rfl, rfl, rfl⟩ rfl rfl rfl rfl rfl (by kernel_rfl) Tryz.func4 (by kernel_rfl)
    (of_decide_eq_true (by kernel_rfl)) (by unfold Func.isWrapper; first | (rw [if_pos (by decide +kernel)]; kernel_rfl) | (rw [if_neg (by decide +kernel)]; exact ⟨rfl, rfl⟩))
    (fun os started H enc _ => lifted os started H enc)

end Go.Proofs.YtnkphlgohnlooaaGreat.stripTaken
namespace Go.Proofs.YtnkphlgohnlooaaGreat
theorem stripTakenProved : Rows.StripTakenSaid := stripTaken.over
#print axioms stripTakenProved
end Go.Proofs.YtnkphlgohnlooaaGreat
