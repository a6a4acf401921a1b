/- Whatever the input: the Go function laurellaw03.BranchSights of the given program returns true, and its arguments read as they did. Conditions: none. -/
import Derived.Test.YtpjnpibgnkgnaaaGreatBranchSights9
import Derived.Test.YtpjnpibgnkgnaaaGreatRows
import Derived.WalkKit
import Derived.ProofKit
import Derived.OpenShut
import Derived.ShutString
import Derived.ChangeOld
import Derived.Below
import Derived.KernelRfl
namespace Go.Proofs.YtpjnpibgnkgnaaaGreat.branchSights
open Go.ChangeShapes Go.WideShapes Go.ChangeAt Go.RowKit
open Go.Gx Go.Sb Go.Proofs.Wb
set_option linter.unusedVariables false

theorem own : ownKnob Tryz.prog.godebug = none := by kernel_rfl
theorem laidOut : laidOutB Tryz.prog = true := by kernel_rfl
section
variable {H : Type} {enc : TypeId × Value → H} {w : World} {base : Nat} {sp : Nat → Bool} {held : Bool}
theorem opn3 : Opens enc Tryz.prog w base sp held RI i64P 3 := opens_i64 Tryz.underlying3
theorem lst_1_1 {α : Type} {cs : List α} {a0 a1 : α} (hl : cs.length = 2) (h0 : (cs.drop 0).take 1 = [a0]) (h1 : (cs.drop 1).take 1 = [a1]) : cs = [a0, a1] := by
  match cs, hl with
  | [x0, x1], _ => simp at h0 h1; simp [h0, h1]
set_option maxRecDepth 100000 in
theorem opn50 : Opens enc Tryz.prog w base sp held RSp (fun _ => True) 50 := fun fuel cs x h => by
  obtain ⟨a0, h0, _⟩ := fieldAt Tryz.underlying50 h 0 (T := 3) (o := 0) (k := 1) rfl (by kernel_rfl) opn3
  obtain ⟨a1, h1, _⟩ := fieldAt Tryz.underlying50 h 1 (T := 3) (o := 1) (k := 1) rfl (by kernel_rfl) opn3
  have hl := structLen Tryz.underlying50 h
  rw [show Tryz.prog.cellsOf 50 = 2 by kernel_rfl] at hl
  exact ⟨⟨a0, a1⟩, lst_1_1 hl h0 h1, trivial⟩
theorem lst_2_1 {α : Type} {cs : List α} {a0 a1 a2 : α} (hl : cs.length = 3) (h0 : (cs.drop 0).take 2 = [a0, a1]) (h1 : (cs.drop 2).take 1 = [a2]) : cs = [a0, a1, a2] := by
  match cs, hl with
  | [x0, x1, x2], _ => simp at h0 h1; simp [h0, h1]
set_option maxRecDepth 100000 in
theorem opn98 : Opens enc Tryz.prog w base sp held RSa (fun _ => True) 98 := fun fuel cs x h => by
  obtain ⟨a0, h0, _⟩ := fieldAt Tryz.underlying98 h 0 (T := 50) (o := 0) (k := 2) rfl (by kernel_rfl) opn50
  obtain ⟨a1, h1, _⟩ := fieldAt Tryz.underlying98 h 1 (T := 3) (o := 2) (k := 1) rfl (by kernel_rfl) opn3
  have hl := structLen Tryz.underlying98 h
  rw [show Tryz.prog.cellsOf 98 = 3 by kernel_rfl] at hl
  exact ⟨⟨a0, a1⟩, lst_2_1 hl h0 h1, trivial⟩
theorem opn4 : Opens enc Tryz.prog w base sp held RB (fun _ => True) 4 := opens_bool Tryz.underlying4
theorem lst_1_1_1 {α : Type} {cs : List α} {a0 a1 a2 : α} (hl : cs.length = 3) (h0 : (cs.drop 0).take 1 = [a0]) (h1 : (cs.drop 1).take 1 = [a1]) (h2 : (cs.drop 2).take 1 = [a2]) : cs = [a0, a1, a2] := by
  match cs, hl with
  | [x0, x1, x2], _ => simp at h0 h1 h2; simp [h0, h1, h2]
set_option maxRecDepth 100000 in
theorem opn55 : Opens enc Tryz.prog w base sp held RSi (fun _ => True) 55 := fun fuel cs x h => by
  obtain ⟨a0, h0, _⟩ := fieldAt Tryz.underlying55 h 0 (T := 3) (o := 0) (k := 1) rfl (by kernel_rfl) opn3
  obtain ⟨a1, h1, _⟩ := fieldAt Tryz.underlying55 h 1 (T := 3) (o := 1) (k := 1) rfl (by kernel_rfl) opn3
  obtain ⟨a2, h2, _⟩ := fieldAt Tryz.underlying55 h 2 (T := 4) (o := 2) (k := 1) rfl (by kernel_rfl) opn4
  have hl := structLen Tryz.underlying55 h
  rw [show Tryz.prog.cellsOf 55 = 3 by kernel_rfl] at hl
  exact ⟨⟨a0, a1, a2⟩, lst_1_1_1 hl h0 h1 h2, trivial⟩
theorem lst_1_1_1_1_1 {α : Type} {cs : List α} {a0 a1 a2 a3 a4 : α} (hl : cs.length = 5) (h0 : (cs.drop 0).take 1 = [a0]) (h1 : (cs.drop 1).take 1 = [a1]) (h2 : (cs.drop 2).take 1 = [a2]) (h3 : (cs.drop 3).take 1 = [a3]) (h4 : (cs.drop 4).take 1 = [a4]) : cs = [a0, a1, a2, a3, a4] := by
  match cs, hl with
  | [x0, x1, x2, x3, x4], _ => simp at h0 h1 h2 h3 h4; simp [h0, h1, h2, h3, h4]
set_option maxRecDepth 100000 in
theorem opst26 {fuel : Nat} {cs : List Value} {x : DataW H × List MemPlace} (h : DataW.trod enc Tryz.prog w base sp held fuel 26 cs = some x) :
    ∃ (s : Channel) (Aa : Option Addr) (na ca : Nat) (va : Value) (Ab : Option Addr) (nb cb : Nat) (vb : Value) (Ac : Option Addr) (nc cc : Nat) (vc : Value), cs = [.int .i64 s.cells, .int .i64 s.tides, .slice Aa na ca, .slice Ab nb cb, .slice Ac nc cc] ∧ i64P s.cells ∧ i64P s.tides ∧ SlIn RI i64P w va Aa na ca s.fords ∧ SlIn RSa (fun _ => True) w vb Ab nb cb s.sands ∧ SlIn RSi (fun _ => True) w vc Ac nc cc s.sights := by
  obtain ⟨p0, e0, w0⟩ := fieldAt Tryz.underlying26 h 0 (T := 3) (o := 0) (k := 1) rfl (by kernel_rfl) opn3
  obtain ⟨p1, e1, w1⟩ := fieldAt Tryz.underlying26 h 1 (T := 3) (o := 1) (k := 1) rfl (by kernel_rfl) opn3
  obtain ⟨v2, A2, n2, c2, l2, e2, h2⟩ := fieldSl Tryz.underlying26 h 2 (T := 22) (o := 2) (e := 3) rfl (by kernel_rfl) Tryz.underlying22 (by kernel_rfl) opn3 rfl
  have hv2 := h2.val
  subst hv2
  obtain ⟨v3, A3, n3, c3, l3, e3, h3⟩ := fieldSl Tryz.underlying26 h 3 (T := 23) (o := 3) (e := 98) rfl (by kernel_rfl) Tryz.underlying23 (by kernel_rfl) opn98 rfl
  have hv3 := h3.val
  subst hv3
  obtain ⟨v4, A4, n4, c4, l4, e4, h4⟩ := fieldSl Tryz.underlying26 h 4 (T := 24) (o := 4) (e := 55) rfl (by kernel_rfl) Tryz.underlying24 (by kernel_rfl) opn55 rfl
  have hv4 := h4.val
  subst hv4
  have hl := structLen Tryz.underlying26 h
  rw [show Tryz.prog.cellsOf 26 = 5 by kernel_rfl] at hl
  exact ⟨⟨p0, p1, l2, l3, l4⟩, A2, n2, c2, _, A3, n3, c3, _, A4, n4, c4, _, lst_1_1_1_1_1 hl e0 e1 e2 e3 e4, w0, w1, h2, h3, h4⟩
end
theorem slShort {α : Type} {R : Row α} {wf : α → Prop} {w : World} {v : Value} {A : Option Addr} {n c : Nat} {l : List α} (h : SlIn R wf w v A n c l) : l.length ≤ 9223372036854775807 := by
  have h1 := h.len
  have h2 := h.le
  have h3 := h.max
  unfold maxLen at h3
  omega
theorem walk (s0 : Channel) (A0a : Option Addr) (n0a c0a : Nat) (v0a : Value) (A0b : Option Addr) (n0b c0b : Nat) (v0b : Value) (A0c : Option Addr) (n0c c0c : Nat) (v0c : Value) (l1 : (List Int)) (A1 : Option Addr) (n1 c1 : Nat) (v1 : Value) (w : World) (w0cells : i64P s0.cells) (w0tides : i64P s0.tides) (h0a : SlIn RI i64P w v0a A0a n0a c0a s0.fords) (h0b : SlIn RSa (fun _ => True) w v0b A0b n0b c0b s0.sands) (h0c : SlIn RSi (fun _ => True) w v0c A0c n0c c0c s0.sights) (h1 : SlIn RI i64P w v1 A1 n1 c1 l1) :
    Calls Tryz.prog 6 #[.agg #[.int .i64 s0.cells, .int .i64 s0.tides, .slice A0a n0a c0a, .slice A0b n0b c0b, .slice A0c n0c c0c], .slice A1 n1 c1] w fun e w' => e = .returned (.bool true) ∧ Below w.heap.size w w' := by
  have hc := QW s0 l1 A0a n0a c0a A0b n0b c0b A0c n0c c0c A1 n1 c1 w (HV.begin (segCons h0a.seg (segCons h0b.seg (segCons h0c.seg (segCons h1.seg segNil))))) h0a.len h0a.ok h0a.le h0b.len h0b.ok h0b.le h0c.len h0c.ok h0c.le h1.len h1.ok h1.le (BranchSights_true s0 l1)
  exact Calls.mono hc (fun e w' ⟨_, he, _, hh⟩ => ⟨he, hh.below⟩)

set_option maxRecDepth 100000 in
theorem lifted (os : Os) (started : os.Started) (H : Type) (enc : TypeId × Value → H) :
    ReturnsInHanded {} Tryz.checked os 6 .any (Rows.branchSightsSpec.pre6 enc Tryz.prog Tryz.f6 Rows.branchSightsRow.domain false) (Rows.branchSightsSpec.post enc Tryz.prog Tryz.f6 false true false false) := by
  refine returnsInHanded_of_change (C := Tryz.checked) own started (by kernel_rfl) Tryz.func6
    (ChangeSpec.witness6 (enc := enc) (C := Tryz.checked) false ⟨#[], #[.agg #[.int .i64 0, .int .i64 0, .slice none 0 0, .slice none 0 0, .slice none 0 0], .slice none 0 0], []⟩ 8 (by kernel_rfl) (by kernel_rfl) (by kernel_rfl) (by kernel_rfl)) ?_
  intro W base args ds gs before hval0 hW hcnd _
  have hval : ∀ (j : Nat) t v, Tryz.f6.params[j]? = some t → args[j]? = some v → Value.okWide Tryz.prog W .any base t v := hval0
  have hW' := hW
  obtain ⟨p, q, hA0, hV, rfl, hfz, hnd⟩ := hW
  have hA : DataW.TrodAll enc Tryz.prog W 0 (fun _ => true) true Tryz.f6.params.toList args.toList ds p := hA0
  rw [Tryz.params6] at hA hval
  obtain ⟨v0, vs0, d0, ds0, p0, q0, hargs, rfl, rfl, h0, r0⟩ := trodAll_cons hA
  obtain ⟨v1, vs1, d1, ds1, p1, q1, rfl, rfl, rfl, h1, r1⟩ := trodAll_cons r0
  obtain ⟨rfl, rfl, rfl⟩ := trodAll_nil r1
  obtain rfl : args = #[v0, v1] := by cases args; simp_all
  obtain ⟨rfl, rfl⟩ := trodVars_none hV
  obtain ⟨cs0, rfl, hsz0⟩ := okWide_struct Tryz.underlying26 (hval 0 26 v0 rfl rfl)
  have k0 := h0
  have lt0 : ∀ x ∈ p0, x.block < W.heap.size := by obtain ⟨m, hm⟩ := k0; exact DataW.trod_lt m _ _ _ hm
  obtain ⟨fu0, hf0⟩ := h0
  obtain ⟨s0, A0a, n0a, c0a, v0a, A0b, n0b, c0b, v0b, A0c, n0c, c0c, v0c, ee0, w0cells, w0tides, h0a, h0b, h0c⟩ := opst26 hf0
  obtain rfl : cs0 = #[.int .i64 s0.cells, .int .i64 s0.tides, .slice A0a n0a c0a, .slice A0b n0b c0b, .slice A0c n0c c0c] := Array.toList_inj.1 (by simpa [Value.cells] using ee0)
  obtain ⟨A1, n1, c1, rfl⟩ := okWide_slice Tryz.underlying22 (hval 1 22 v1 rfl rfl)
  have k1 := h1
  have lt1 : ∀ x ∈ p1, x.block < W.heap.size := by obtain ⟨m, hm⟩ := k1; exact DataW.trod_lt m _ _ _ hm
  obtain ⟨fu1, hf1⟩ := h1
  obtain ⟨vv1, B1, m1, d1', l1, ee1, hh1⟩ := openSl (R := RI) Tryz.underlying22 (by kernel_rfl) opn3 rfl hf1
  have hv1 := hh1.val
  subst hv1
  simp only [Value.cells, List.cons.injEq, Value.slice.injEq, and_true] at ee1
  obtain ⟨rfl, rfl, rfl⟩ := ee1
  clear hA0 hval0
  refine (walk s0 A0a n0a c0a v0a A0b n0b c0b v0b A0c n0c c0c v0c l1 A1 n1 c1 _ W w0cells w0tides h0a h0b h0c hh1).mono fun e W' ⟨he, bel⟩ => ?_
  subst he
  exact ⟨_, rfl, _, _, _, [], _, [], hW', trodAll_mk1 (shut_bool Tryz.underlying4 _), (trodAll_cons_mk (Below.trod laidOut (by kernel_rfl) (of_decide_eq_true (by kernel_rfl)) k0 bel lt0) (trodAll_cons_mk (Below.trod laidOut (by kernel_rfl) (of_decide_eq_true (by kernel_rfl)) k1 bel lt1) trodAll_mk0)), rfl, bel.frame _, fun h => by cases h⟩

theorem j1 : laidOutB Tryz.pinned.checked.prog = true := by kernel_rfl
theorem j2 : mapsRowed Tryz.pinned.checked.prog = true := by kernel_rfl
theorem j9 : (Rows.branchSightsRow.inPlace == Tryz.pinned.checked.prog.inPlace 6) = true := by kernel_rfl
theorem j10 : (Rows.branchSightsRow.unfollowed == Tryz.pinned.checked.prog.unfollowed 6) = true := by kernel_rfl
theorem j11 : (Rows.branchSightsRow.recurses == Tryz.pinned.checked.prog.recurses 6) = true := by kernel_rfl
theorem j12 : (Rows.branchSightsRow.named == Tryz.pinned.checked.prog.varsNamed 6) = true := by kernel_rfl
theorem j22 : (Rows.branchSightsRow.plainKeys == Tryz.pinned.checked.prog.plainKeys) = true := by kernel_rfl
theorem j24 : Tryz.pinned.checked.prog.stopsHeard = true := by kernel_rfl
theorem j25 : Tryz.pinned.checked.prog.mayEnter = true := by kernel_rfl
theorem j26 : (Rows.branchSightsRow.lifted == Tryz.pinned.checked.prog.liftsFinal) = true := by kernel_rfl
set_option maxRecDepth 100000 in
theorem jf : joinedFacts Tryz.pinned.checked.prog 6 Tryz.f6 Rows.branchSightsSpec Rows.branchSightsRow = true := by
  unfold joinedFacts
  simp only [Bool.and_eq_true]
  refine ⟨⟨⟨⟨⟨⟨⟨⟨⟨⟨⟨⟨⟨⟨⟨⟨⟨⟨⟨⟨⟨⟨⟨⟨⟨⟨⟨⟨⟨⟨⟨?_, j1⟩, j2⟩, ?_⟩, ?_⟩, ?_⟩, ?_⟩, ?_⟩, ?_⟩, j9⟩, j10⟩, j11⟩, j12⟩, ?_⟩, ?_⟩, ?_⟩, ?_⟩, ?_⟩, ?_⟩, ?_⟩, ?_⟩, ?_⟩, j22⟩, ?_⟩, j24⟩, j25⟩, j26⟩, ?_⟩, ?_⟩, ?_⟩, ?_⟩, ?_⟩ <;> kernel_rfl
set_option maxRecDepth 100000 in
theorem over : Rows.branchSightsRow.holds Tryz.pinned (OpenSpec.ofChange Rows.branchSightsSpec) :=
  OpenClaim.holds_of_wide 6 Tryz.f6 rfl rfl rfl rfl rfl rfl rfl ⟨rfl, rfl, rfl, rfl, rfl⟩ rfl rfl rfl rfl rfl (by kernel_rfl) Tryz.func6 jf
    (of_decide_eq_true (by kernel_rfl)) (by unfold Func.isWrapper; first | (rw [if_pos (by decide +kernel)]; kernel_rfl) | (rw [if_neg (by decide +kernel)]; exact ⟨rfl, rfl⟩))
    (fun os started H enc _ => lifted os started H enc)

end Go.Proofs.YtpjnpibgnkgnaaaGreat.branchSights
namespace Go.Proofs.YtpjnpibgnkgnaaaGreat
theorem branchSightsProved : Rows.BranchSightsSaid := branchSights.over
#print axioms branchSightsProved
end Go.Proofs.YtpjnpibgnkgnaaaGreat
