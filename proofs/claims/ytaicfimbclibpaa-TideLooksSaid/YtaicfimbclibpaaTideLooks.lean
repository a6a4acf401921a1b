/- Whatever the input: the Go function laurellaw01.TideLooks of the given program returns true, and its arguments read as they did. Conditions: none. -/
import Derived.Test.YtaicfimbclibpaaTideLooks6
import Derived.Test.YtaicfimbclibpaaRows
import Derived.WalkKit
import Derived.ProofKit
import Derived.OpenShut
import Derived.ShutString
import Derived.ChangeOld
import Derived.Below
namespace Go.Proofs.Ytaicfimbclibpaa.tideLooks
open Go.ChangeShapes Go.WideShapes Go.ChangeAt Go.RowKit
open Go.Gx Go.Pl Go.Proofs.Wk
set_option linter.unusedVariables false

theorem own : ownKnob Try.prog.godebug = none := by kernel_rfl
theorem laidOut : laidOutB Try.prog = true := by kernel_rfl

theorem slShort {α : Type} {R : Row α} {wf : α → Prop} {w : World} {v : Value} {A : Option Addr} {n c : Nat} {l : List α} (h : SlIn R wf w v A n c l) : l.length ≤ 9223372036854775807 := by
  have h1 := h.len
  have h2 := h.le
  have h3 := h.max
  unfold maxLen at h3
  omega
theorem walk (s0 : Sands) (A0a A0b A0c : Option Addr) (n0a c0a n0b c0b n0c c0c : Nat) (v0a v0b v0c : Value) (l1 : List Look) (A1 : Option Addr) (n1 c1 : Nat) (v1 : Value) (w : World) (h0a : SlIn RW (fun x => i64P x.min ∧ i64P x.h) w v0a A0a n0a c0a s0.table) (h0b : SlIn RI i64P w v0b A0b n0b c0b s0.floors) (h0c : SlIn RS (fun x => i64P x.a ∧ i64P x.b ∧ i64P x.h) w v0c A0c n0c c0c s0.sills) (wf0 : WfS s0) (h1 : SlIn RL (fun x => i64P x.min ∧ i64P x.place) w v1 A1 n1 c1 l1) :
    Calls Try.prog 9 #[.agg #[.slice A0a n0a c0a, .int .i64 s0.wind.lo, .int .i64 s0.wind.hi, .slice A0b n0b c0b, .slice A0c n0c c0c], .slice A1 n1 c1] w fun e w' => e = .returned (.bool true) ∧ Below w.heap.size w w' := by
  have hc := c_laurellaw01_TideLooks s0 l1 A0a n0a c0a A0b n0b c0b A0c n0c c0c A1 n1 c1 w (HV.begin (segCons h0a.seg (segCons h0b.seg (segCons h0c.seg (segCons h1.seg segNil))))) h0a.len h0a.ok h0a.le h0b.len h0b.ok h0b.le h0c.len h0c.ok h0c.le h1.len h1.ok h1.le (looks_true s0 l1)
  exact Calls.mono hc (fun e w' ⟨_, he, _, hh⟩ => ⟨he, hh.below⟩)

set_option maxRecDepth 100000 in
theorem lifted (os : Os) (started : os.Started) (H : Type) (enc : TypeId × Value → H) :
    ReturnsInHanded {} Try.checked os 9 .any (Rows.tideLooksSpec.pre6 enc Try.prog Try.f9 Rows.tideLooksRow.domain false) (Rows.tideLooksSpec.post enc Try.prog Try.f9 false true false false) := by
  refine returnsInHanded_of_change (C := Try.checked) own started (by kernel_rfl) Try.func9
    (ChangeSpec.witness6 (enc := enc) (C := Try.checked) false ⟨#[], #[.agg #[.slice none 0 0, .int .i64 0, .int .i64 0, .slice none 0 0, .slice none 0 0], .slice none 0 0], []⟩ 8 (by kernel_rfl) (by kernel_rfl) (by kernel_rfl) (by kernel_rfl)) ?_
  intro W base args ds gs before hval0 hW hcnd _
  have hval : ∀ (j : Nat) t v, Try.f9.params[j]? = some t → args[j]? = some v → Value.okWide Try.prog W .any base t v := hval0
  have hW' := hW
  obtain ⟨p, q, hA0, hV, rfl, hfz, hnd⟩ := hW
  have hA : DataW.TrodAll enc Try.prog W 0 (fun _ => true) true Try.f9.params.toList args.toList ds p := hA0
  rw [Try.params9] at hA hval
  obtain ⟨v0, vs0, d0, ds0, p0, q0, hargs, rfl, rfl, h0, r0⟩ := trodAll_cons hA
  obtain ⟨v1, vs1, d1, ds1, p1, q1, rfl, rfl, rfl, h1, r1⟩ := trodAll_cons r0
  obtain ⟨rfl, rfl, rfl⟩ := trodAll_nil r1
  obtain rfl : args = #[v0, v1] := by cases args; simp_all
  obtain ⟨rfl, rfl⟩ := trodVars_none hV
  obtain ⟨cs0, rfl, hsz0⟩ := okWide_struct Try.underlying29 (hval 0 29 v0 rfl rfl)
  have k0 := h0
  have lt0 : ∀ x ∈ p0, x.block < W.heap.size := by obtain ⟨m, hm⟩ := k0; exact DataW.trod_lt m _ _ _ hm
  obtain ⟨fu0, hf0⟩ := h0
  obtain ⟨s0, A0a, A0b, A0c, n0a, c0a, n0b, c0b, n0c, c0c, v0a, v0b, v0c, ee0, h0a, h0b, h0c, wf0⟩ := opSands hf0
  obtain rfl : cs0 = #[.slice A0a n0a c0a, .int .i64 s0.wind.lo, .int .i64 s0.wind.hi, .slice A0b n0b c0b, .slice A0c n0c c0c] := Array.toList_inj.1 (by simpa [Value.cells] using ee0)
  obtain ⟨A1, n1, c1, rfl⟩ := okWide_slice Try.underlying35 (hval 1 35 v1 rfl rfl)
  have k1 := h1
  have lt1 : ∀ x ∈ p1, x.block < W.heap.size := by obtain ⟨m, hm⟩ := k1; exact DataW.trod_lt m _ _ _ hm
  obtain ⟨fu1, hf1⟩ := h1
  obtain ⟨vv1, B1, m1, d1', l1, ee1, hh1⟩ := openSl (R := RL) Try.underlying35 (by kernel_rfl) opLook rfl hf1
  have hv1 := hh1.val
  subst hv1
  simp only [Value.cells, List.cons.injEq, Value.slice.injEq, and_true] at ee1
  obtain ⟨rfl, rfl, rfl⟩ := ee1
  clear hA0 hval0
  refine (walk s0 A0a A0b A0c n0a c0a n0b c0b n0c c0c v0a v0b v0c l1 A1 n1 c1 _ W h0a h0b h0c wf0 hh1).mono fun e W' ⟨he, bel⟩ => ?_
  subst he
  exact ⟨_, rfl, _, _, _, [], _, [], hW', trodAll_mk1 (shut_bool Try.underlying4 _), (trodAll_cons_mk (Below.trod laidOut (by kernel_rfl) (of_decide_eq_true (by kernel_rfl)) k0 bel lt0) (trodAll_cons_mk (Below.trod laidOut (by kernel_rfl) (of_decide_eq_true (by kernel_rfl)) k1 bel lt1) trodAll_mk0)), rfl, bel.frame _, fun h => by cases h⟩

theorem over : Rows.tideLooksRow.holds Try.pinned (OpenSpec.ofChange Rows.tideLooksSpec) :=
  OpenClaim.holds_of_wide 9 Try.f9 rfl rfl rfl rfl rfl rfl rfl ⟨rfl, rfl, rfl, rfl, rfl⟩ rfl rfl rfl rfl rfl (by kernel_rfl) Try.func9 (by kernel_rfl)
    (of_decide_eq_true (by kernel_rfl)) (by unfold Func.isWrapper; first | (rw [if_pos (by decide +kernel)]; kernel_rfl) | (rw [if_neg (by decide +kernel)]; exact ⟨rfl, rfl⟩))
    (fun os started H enc _ => lifted os started H enc)

end Go.Proofs.Ytaicfimbclibpaa.tideLooks
namespace Go.Proofs.Ytaicfimbclibpaa
theorem tideLooksProved : Rows.TideLooksSaid := tideLooks.over
#print axioms tideLooksProved
end Go.Proofs.Ytaicfimbclibpaa

