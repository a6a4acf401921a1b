/- Whatever the input: the Go function laurellaw01.TideBanks of the given program returns true, and its arguments read as they did. Conditions: none. -/
import Derived.Test.YtaicfimbclibpaaTideBanks6
import Derived.Test.YtaicfimbclibpaaRows
import Derived.WalkKit
import Derived.ProofKit
import Derived.OpenShut
import Derived.ShutString
import Derived.ChangeOld
import Derived.Below
namespace Go.Proofs.Ytaicfimbclibpaa.tideBanks
open Go.ChangeShapes Go.WideShapes Go.ChangeAt Go.RowKit
open Go.Gx Go.Pl Go.Proofs.Wk
set_option linter.unusedVariables false

theorem own : ownKnob Try.prog.godebug = none := by kernel_rfl
theorem laidOut : laidOutB Try.prog = true := by kernel_rfl

theorem slShort {α : Type} {R : Row α} {wf : α → Prop} {w : World} {v : Value} {A : Option Addr} {n c : Nat} {l : List α} (h : SlIn R wf w v A n c l) : l.length ≤ 9223372036854775807 := by
  have h1 := h.len
  have h2 := h.le
  have h3 := h.max
  unfold maxLen at h3
  omega
theorem walk (s0 : Sands) (A0a A0b A0c : Option Addr) (n0a c0a n0b c0b n0c c0c : Nat) (v0a v0b v0c : Value) (a1 : Int) (l2 : List Int) (A2 : Option Addr) (n2 c2 : Nat) (v2 : Value) (l3 : List Int) (A3 : Option Addr) (n3 c3 : Nat) (v3 : Value) (l4 : List Int) (A4 : Option Addr) (n4 c4 : Nat) (v4 : Value) (w : World) (h0a : SlIn RW (fun x => i64P x.min ∧ i64P x.h) w v0a A0a n0a c0a s0.table) (h0b : SlIn RI i64P w v0b A0b n0b c0b s0.floors) (h0c : SlIn RS (fun x => i64P x.a ∧ i64P x.b ∧ i64P x.h) w v0c A0c n0c c0c s0.sills) (wf0 : WfS s0) (w1 : (Lit.int .i64 a1).wf = true) (h2 : SlIn RI i64P w v2 A2 n2 c2 l2) (h3 : SlIn RI i64P w v3 A3 n3 c3 l3) (h4 : SlIn RI i64P w v4 A4 n4 c4 l4) :
    Calls Try.prog 12 #[.agg #[.slice A0a n0a c0a, .int .i64 s0.wind.lo, .int .i64 s0.wind.hi, .slice A0b n0b c0b, .slice A0c n0c c0c], .int .i64 a1, .slice A2 n2 c2, .slice A3 n3 c3, .slice A4 n4 c4] w fun e w' => e = .returned (.bool true) ∧ Below w.heap.size w w' := by
  have hc := c_laurellaw01_TideBanks s0 a1 l2 l3 l4 A0a n0a c0a A0b n0b c0b A0c n0c c0c A2 n2 c2 A3 n3 c3 A4 n4 c4 w (HV.begin (segCons h0a.seg (segCons h0b.seg (segCons h0c.seg (segCons h2.seg (segCons h3.seg (segCons h4.seg segNil))))))) h0a.len h0a.ok h0a.le h0b.len h0b.ok h0b.le h0c.len h0c.ok h0c.le h2.len h2.ok h2.le h3.len h3.ok h3.le h4.len h4.ok h4.le (banks_true s0 a1 l2 l3 l4)
  exact Calls.mono hc (fun e w' ⟨_, he, _, hh⟩ => ⟨he, hh.below⟩)

set_option maxRecDepth 100000 in
theorem lifted (os : Os) (started : os.Started) (H : Type) (enc : TypeId × Value → H) :
    ReturnsInHanded {} Try.checked os 12 .any (Rows.tideBanksSpec.pre6 enc Try.prog Try.f12 Rows.tideBanksRow.domain false) (Rows.tideBanksSpec.post enc Try.prog Try.f12 false true false false) := by
  refine returnsInHanded_of_change (C := Try.checked) own started (by kernel_rfl) Try.func12
    (ChangeSpec.witness6 (enc := enc) (C := Try.checked) false ⟨#[], #[.agg #[.slice none 0 0, .int .i64 0, .int .i64 0, .slice none 0 0, .slice none 0 0], .int .i64 0, .slice none 0 0, .slice none 0 0, .slice none 0 0], []⟩ 8 (by kernel_rfl) (by kernel_rfl) (by kernel_rfl) (by kernel_rfl)) ?_
  intro W base args ds gs before hval0 hW hcnd _
  have hval : ∀ (j : Nat) t v, Try.f12.params[j]? = some t → args[j]? = some v → Value.okWide Try.prog W .any base t v := hval0
  have hW' := hW
  obtain ⟨p, q, hA0, hV, rfl, hfz, hnd⟩ := hW
  have hA : DataW.TrodAll enc Try.prog W 0 (fun _ => true) true Try.f12.params.toList args.toList ds p := hA0
  rw [Try.params12] at hA hval
  obtain ⟨v0, vs0, d0, ds0, p0, q0, hargs, rfl, rfl, h0, r0⟩ := trodAll_cons hA
  obtain ⟨v1, vs1, d1, ds1, p1, q1, rfl, rfl, rfl, h1, r1⟩ := trodAll_cons r0
  obtain ⟨v2, vs2, d2, ds2, p2, q2, rfl, rfl, rfl, h2, r2⟩ := trodAll_cons r1
  obtain ⟨v3, vs3, d3, ds3, p3, q3, rfl, rfl, rfl, h3, r3⟩ := trodAll_cons r2
  obtain ⟨v4, vs4, d4, ds4, p4, q4, rfl, rfl, rfl, h4, r4⟩ := trodAll_cons r3
  obtain ⟨rfl, rfl, rfl⟩ := trodAll_nil r4
  obtain rfl : args = #[v0, v1, v2, v3, v4] := by cases args; simp_all
  obtain ⟨rfl, rfl⟩ := trodVars_none hV
  obtain ⟨cs0, rfl, hsz0⟩ := okWide_struct Try.underlying29 (hval 0 29 v0 rfl rfl)
  have k0 := h0
  have lt0 : ∀ x ∈ p0, x.block < W.heap.size := by obtain ⟨m, hm⟩ := k0; exact DataW.trod_lt m _ _ _ hm
  obtain ⟨fu0, hf0⟩ := h0
  obtain ⟨s0, A0a, A0b, A0c, n0a, c0a, n0b, c0b, n0c, c0c, v0a, v0b, v0c, ee0, h0a, h0b, h0c, wf0⟩ := opSands hf0
  obtain rfl : cs0 = #[.slice A0a n0a c0a, .int .i64 s0.wind.lo, .int .i64 s0.wind.hi, .slice A0b n0b c0b, .slice A0c n0c c0c] := Array.toList_inj.1 (by simpa [Value.cells] using ee0)
  obtain ⟨a1, rfl, rfl, rfl, w1⟩ := open_int Try.underlying3 (hval 1 3 v1 rfl rfl) h1
  obtain ⟨A2, n2, c2, rfl⟩ := okWide_slice Try.underlying26 (hval 2 26 v2 rfl rfl)
  have k2 := h2
  have lt2 : ∀ x ∈ p2, x.block < W.heap.size := by obtain ⟨m, hm⟩ := k2; exact DataW.trod_lt m _ _ _ hm
  obtain ⟨fu2, hf2⟩ := h2
  obtain ⟨vv2, B2, m2, d2', l2, ee2, hh2⟩ := openSl (R := RI) Try.underlying26 (by kernel_rfl) opI rfl hf2
  have hv2 := hh2.val
  subst hv2
  simp only [Value.cells, List.cons.injEq, Value.slice.injEq, and_true] at ee2
  obtain ⟨rfl, rfl, rfl⟩ := ee2
  obtain ⟨A3, n3, c3, rfl⟩ := okWide_slice Try.underlying26 (hval 3 26 v3 rfl rfl)
  have k3 := h3
  have lt3 : ∀ x ∈ p3, x.block < W.heap.size := by obtain ⟨m, hm⟩ := k3; exact DataW.trod_lt m _ _ _ hm
  obtain ⟨fu3, hf3⟩ := h3
  obtain ⟨vv3, B3, m3, d3', l3, ee3, hh3⟩ := openSl (R := RI) Try.underlying26 (by kernel_rfl) opI rfl hf3
  have hv3 := hh3.val
  subst hv3
  simp only [Value.cells, List.cons.injEq, Value.slice.injEq, and_true] at ee3
  obtain ⟨rfl, rfl, rfl⟩ := ee3
  obtain ⟨A4, n4, c4, rfl⟩ := okWide_slice Try.underlying26 (hval 4 26 v4 rfl rfl)
  have k4 := h4
  have lt4 : ∀ x ∈ p4, x.block < W.heap.size := by obtain ⟨m, hm⟩ := k4; exact DataW.trod_lt m _ _ _ hm
  obtain ⟨fu4, hf4⟩ := h4
  obtain ⟨vv4, B4, m4, d4', l4, ee4, hh4⟩ := openSl (R := RI) Try.underlying26 (by kernel_rfl) opI rfl hf4
  have hv4 := hh4.val
  subst hv4
  simp only [Value.cells, List.cons.injEq, Value.slice.injEq, and_true] at ee4
  obtain ⟨rfl, rfl, rfl⟩ := ee4
  clear hA0 hval0
  refine (walk s0 A0a A0b A0c n0a c0a n0b c0b n0c c0c v0a v0b v0c a1 l2 A2 n2 c2 _ l3 A3 n3 c3 _ l4 A4 n4 c4 _ W h0a h0b h0c wf0 w1 hh2 hh3 hh4).mono fun e W' ⟨he, bel⟩ => ?_
  subst he
  exact ⟨_, rfl, _, _, _, [], _, [], hW', trodAll_mk1 (shut_bool Try.underlying4 _), (trodAll_cons_mk (Below.trod laidOut (by kernel_rfl) (of_decide_eq_true (by kernel_rfl)) k0 bel lt0) (trodAll_cons_mk (shut_int Try.underlying3 w1) (trodAll_cons_mk (Below.trod laidOut (by kernel_rfl) (of_decide_eq_true (by kernel_rfl)) k2 bel lt2) (trodAll_cons_mk (Below.trod laidOut (by kernel_rfl) (of_decide_eq_true (by kernel_rfl)) k3 bel lt3) (trodAll_cons_mk (Below.trod laidOut (by kernel_rfl) (of_decide_eq_true (by kernel_rfl)) k4 bel lt4) trodAll_mk0))))), rfl, bel.frame _, fun h => by cases h⟩

theorem over : Rows.tideBanksRow.holds Try.pinned (OpenSpec.ofChange Rows.tideBanksSpec) :=
  OpenClaim.holds_of_wide 12 Try.f12 rfl rfl rfl rfl rfl rfl rfl ⟨rfl, rfl, rfl, rfl, rfl⟩ rfl rfl rfl rfl rfl (by kernel_rfl) Try.func12 (by kernel_rfl)
    (of_decide_eq_true (by kernel_rfl)) (by unfold Func.isWrapper; first | (rw [if_pos (by decide +kernel)]; kernel_rfl) | (rw [if_neg (by decide +kernel)]; exact ⟨rfl, rfl⟩))
    (fun os started H enc _ => lifted os started H enc)

end Go.Proofs.Ytaicfimbclibpaa.tideBanks
namespace Go.Proofs.Ytaicfimbclibpaa
theorem tideBanksProved : Rows.TideBanksSaid := tideBanks.over
#print axioms tideBanksProved
end Go.Proofs.Ytaicfimbclibpaa

