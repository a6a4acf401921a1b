/- Whatever the input: the Go function laurellaw01.TideStays of the given program returns true, and its arguments read as they did. Conditions: none. -/
import Derived.Test.YtaicfimbclibpaaTideStays7
import Derived.Test.YtaicfimbclibpaaRows
import Derived.WalkKit
import Derived.ProofKit
import Derived.OpenShut
import Derived.ShutString
import Derived.ChangeOld
import Derived.Below
namespace Go.Proofs.Ytaicfimbclibpaa.tideStays
open Go.ChangeShapes Go.WideShapes Go.ChangeAt Go.RowKit
open Go.Gx Go.Pl Go.Proofs.Wk
set_option linter.unusedVariables false

theorem own : ownKnob Try.prog.godebug = none := by kernel_rfl
theorem laidOut : laidOutB Try.prog = true := by kernel_rfl

theorem slShort {α : Type} {R : Row α} {wf : α → Prop} {w : World} {v : Value} {A : Option Addr} {n c : Nat} {l : List α} (h : SlIn R wf w v A n c l) : l.length ≤ 9223372036854775807 := by
  have h1 := h.len
  have h2 := h.le
  have h3 := h.max
  unfold maxLen at h3
  omega
theorem walk (s0 : Sands) (A0a A0b A0c : Option Addr) (n0a c0a n0b c0b n0c c0c : Nat) (v0a v0b v0c : Value) (a1 : Int) (a2 : Int) (l3 : List Int) (A3 : Option Addr) (n3 c3 : Nat) (v3 : Value) (w : World) (h0a : SlIn RW (fun x => i64P x.min ∧ i64P x.h) w v0a A0a n0a c0a s0.table) (h0b : SlIn RI i64P w v0b A0b n0b c0b s0.floors) (h0c : SlIn RS (fun x => i64P x.a ∧ i64P x.b ∧ i64P x.h) w v0c A0c n0c c0c s0.sills) (wf0 : WfS s0) (w1 : (Lit.int .i64 a1).wf = true) (w2 : (Lit.int .i64 a2).wf = true) (h3 : SlIn RI i64P w v3 A3 n3 c3 l3) :
    Calls Try.prog 15 #[.agg #[.slice A0a n0a c0a, .int .i64 s0.wind.lo, .int .i64 s0.wind.hi, .slice A0b n0b c0b, .slice A0c n0c c0c], .int .i64 a1, .int .i64 a2, .slice A3 n3 c3] w fun e w' => e = .returned (.bool true) ∧ Below w.heap.size w w' := by
  have hc := c_laurellaw01_TideStays s0 a1 a2 l3 A0a n0a c0a A0b n0b c0b A0c n0c c0c A3 n3 c3 w (HV.begin (segCons h0a.seg (segCons h0b.seg (segCons h0c.seg (segCons h3.seg segNil))))) h0a.len h0a.ok h0a.le h0b.len h0b.ok h0b.le h0c.len h0c.ok h0c.le h3.len h3.ok h3.le (stays_true s0 a1 a2 l3)
  exact Calls.mono hc (fun e w' ⟨_, he, _, hh⟩ => ⟨he, hh.below⟩)

set_option maxRecDepth 100000 in
theorem lifted (os : Os) (started : os.Started) (H : Type) (enc : TypeId × Value → H) :
    ReturnsInHanded {} Try.checked os 15 .any (Rows.tideStaysSpec.pre6 enc Try.prog Try.f15 Rows.tideStaysRow.domain false) (Rows.tideStaysSpec.post enc Try.prog Try.f15 false true false false) := by
  refine returnsInHanded_of_change (C := Try.checked) own started (by kernel_rfl) Try.func15
    (ChangeSpec.witness6 (enc := enc) (C := Try.checked) false ⟨#[], #[.agg #[.slice none 0 0, .int .i64 0, .int .i64 0, .slice none 0 0, .slice none 0 0], .int .i64 0, .int .i64 0, .slice none 0 0], []⟩ 8 (by kernel_rfl) (by kernel_rfl) (by kernel_rfl) (by kernel_rfl)) ?_
  intro W base args ds gs before hval0 hW hcnd _
  have hval : ∀ (j : Nat) t v, Try.f15.params[j]? = some t → args[j]? = some v → Value.okWide Try.prog W .any base t v := hval0
  have hW' := hW
  obtain ⟨p, q, hA0, hV, rfl, hfz, hnd⟩ := hW
  have hA : DataW.TrodAll enc Try.prog W 0 (fun _ => true) true Try.f15.params.toList args.toList ds p := hA0
  rw [Try.params15] at hA hval
  obtain ⟨v0, vs0, d0, ds0, p0, q0, hargs, rfl, rfl, h0, r0⟩ := trodAll_cons hA
  obtain ⟨v1, vs1, d1, ds1, p1, q1, rfl, rfl, rfl, h1, r1⟩ := trodAll_cons r0
  obtain ⟨v2, vs2, d2, ds2, p2, q2, rfl, rfl, rfl, h2, r2⟩ := trodAll_cons r1
  obtain ⟨v3, vs3, d3, ds3, p3, q3, rfl, rfl, rfl, h3, r3⟩ := trodAll_cons r2
  obtain ⟨rfl, rfl, rfl⟩ := trodAll_nil r3
  obtain rfl : args = #[v0, v1, v2, v3] := by cases args; simp_all
  obtain ⟨rfl, rfl⟩ := trodVars_none hV
  obtain ⟨cs0, rfl, hsz0⟩ := okWide_struct Try.underlying29 (hval 0 29 v0 rfl rfl)
  have k0 := h0
  have lt0 : ∀ x ∈ p0, x.block < W.heap.size := by obtain ⟨m, hm⟩ := k0; exact DataW.trod_lt m _ _ _ hm
  obtain ⟨fu0, hf0⟩ := h0
  obtain ⟨s0, A0a, A0b, A0c, n0a, c0a, n0b, c0b, n0c, c0c, v0a, v0b, v0c, ee0, h0a, h0b, h0c, wf0⟩ := opSands hf0
  obtain rfl : cs0 = #[.slice A0a n0a c0a, .int .i64 s0.wind.lo, .int .i64 s0.wind.hi, .slice A0b n0b c0b, .slice A0c n0c c0c] := Array.toList_inj.1 (by simpa [Value.cells] using ee0)
  obtain ⟨a1, rfl, rfl, rfl, w1⟩ := open_int Try.underlying3 (hval 1 3 v1 rfl rfl) h1
  obtain ⟨a2, rfl, rfl, rfl, w2⟩ := open_int Try.underlying3 (hval 2 3 v2 rfl rfl) h2
  obtain ⟨A3, n3, c3, rfl⟩ := okWide_slice Try.underlying26 (hval 3 26 v3 rfl rfl)
  have k3 := h3
  have lt3 : ∀ x ∈ p3, x.block < W.heap.size := by obtain ⟨m, hm⟩ := k3; exact DataW.trod_lt m _ _ _ hm
  obtain ⟨fu3, hf3⟩ := h3
  obtain ⟨vv3, B3, m3, d3', l3, ee3, hh3⟩ := openSl (R := RI) Try.underlying26 (by kernel_rfl) opI rfl hf3
  have hv3 := hh3.val
  subst hv3
  simp only [Value.cells, List.cons.injEq, Value.slice.injEq, and_true] at ee3
  obtain ⟨rfl, rfl, rfl⟩ := ee3
  clear hA0 hval0
  refine (walk s0 A0a A0b A0c n0a c0a n0b c0b n0c c0c v0a v0b v0c a1 a2 l3 A3 n3 c3 _ W h0a h0b h0c wf0 w1 w2 hh3).mono fun e W' ⟨he, bel⟩ => ?_
  subst he
  exact ⟨_, rfl, _, _, _, [], _, [], hW', trodAll_mk1 (shut_bool Try.underlying4 _), (trodAll_cons_mk (Below.trod laidOut (by kernel_rfl) (of_decide_eq_true (by kernel_rfl)) k0 bel lt0) (trodAll_cons_mk (shut_int Try.underlying3 w1) (trodAll_cons_mk (shut_int Try.underlying3 w2) (trodAll_cons_mk (Below.trod laidOut (by kernel_rfl) (of_decide_eq_true (by kernel_rfl)) k3 bel lt3) trodAll_mk0)))), rfl, bel.frame _, fun h => by cases h⟩

theorem over : Rows.tideStaysRow.holds Try.pinned (OpenSpec.ofChange Rows.tideStaysSpec) :=
  OpenClaim.holds_of_wide 15 Try.f15 rfl rfl rfl rfl rfl rfl rfl ⟨rfl, rfl, rfl, rfl, rfl⟩ rfl rfl rfl rfl rfl (by kernel_rfl) Try.func15 (by kernel_rfl)
    (of_decide_eq_true (by kernel_rfl)) (by unfold Func.isWrapper; first | (rw [if_pos (by decide +kernel)]; kernel_rfl) | (rw [if_neg (by decide +kernel)]; exact ⟨rfl, rfl⟩))
    (fun os started H enc _ => lifted os started H enc)

end Go.Proofs.Ytaicfimbclibpaa.tideStays
namespace Go.Proofs.Ytaicfimbclibpaa
theorem tideStaysProved : Rows.TideStaysSaid := tideStays.over
#print axioms tideStaysProved
end Go.Proofs.Ytaicfimbclibpaa

