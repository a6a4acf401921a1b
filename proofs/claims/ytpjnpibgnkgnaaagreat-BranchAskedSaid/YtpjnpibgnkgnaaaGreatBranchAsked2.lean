/- What the functions that the law BranchAsked reaches come to, and why it holds: part 2. -/
import Derived.Test.YtpjnpibgnkgnaaaGreatBranchAsked1
import Derived.Test.YtpjnpibgnkgnaaaGreatProg
namespace Go.Gx
open Go Go.Fw
section
variable {n : Nat} {ds : List Deferred} {e : EnvL} {w0 : World} {M : List Nat} {S : List (Nat × Obj)} {vs : List VR} {ro : List (Nat × Nat × List Value)} {P : Program} {Q : Exit → Act → World → Prop} {r : Option Nat} {ops : Array Oper} {rest : List Oper}
theorem zero_rep {α : Type} {R : Row α} {z : Value} {z0 : α} (h : z.cells.toList = R.cells z0) (k : Nat) : (Builtin.zeroCells z.cells k).toList = R.enc (List.replicate k z0) := by
  have hs : z.cells.size = R.sz := by rw [← Array.length_toList, h, R.len]
  have e : (Builtin.zeroCells z.cells k).toList = (madeCells z.cells (k * R.sz)).toList := by
    unfold Builtin.zeroCells madeCells
    rw [hs]
  rw [e, made_get hs, h, ← enc_rep]
end
end Go.Gx

namespace Go.Gx
open Go Go.Fw
theorem Y {α : Sort _} {a : α} : a = a := rfl
abbrev kc (b : Nat) (cs : Array Value) (T : TypeId) : Nat × Obj := (b, .cells cs T (0, 0))
end Go.Gx

namespace Go.Gx
open Go Go.Fw
def set3 (a b c i v : Int) : Int × Int × Int := if i = 0 then (v, b, c) else if i = 1 then (a, v, c) else (a, b, v)
theorem set3_list {a b c i v x : Int} (h : ix [a, b, c] i = some x) (f : Int → Value) (pre post : List Value) {o : Nat} (hp : pre.length = o) :
    (pre ++ (f a :: f b :: f c :: post)).set (o + i.toNat) (f v) = pre ++ (f (set3 a b c i v).1 :: f (set3 a b c i v).2.1 :: f (set3 a b c i v).2.2 :: post) := by
  obtain ⟨h0, h1, _⟩ := ixO h
  simp only [List.length_cons, List.length_nil] at h1
  have hc : i = 0 ∨ i = 1 ∨ i = 2 := by omega
  rw [List.set_append_right _ _ (by omega), ← hp, Nat.add_sub_cancel_left]
  rcases hc with rfl | rfl | rfl <;> rfl
section ops
variable {n : Nat} {ds : List Deferred} {e : EnvL} {P : Program} {r : Option Nat} {Q : Exit → Act → World → Prop} {ops : Array Oper} {w0 : World} {M : List Nat} {S : List (Nat × Obj)} {vs : List VR} {ro : List Sg} {rest : List Oper}
theorem YV (i : Nat) (pre post : List Value) {t : TypeId} {x y : Operand} {b at_ : Nat} {T : TypeId} {a1 a2 a3 j v x0 : Int} {u : Int × Int × Int} {cs cs' : Array Value} {S' : List (Nat × Obj)} {ty : TypeId} {pos : String} {after : Array Edge}
    (hz : ∀ w, (sizeOf t).run P w = .ok 1 w) (hx : ev e x = some (ptr b at_)) (hy : ev e y = some (.int .i64 v)) (hi : S[i]? = some (b, .cells cs T (0, 0))) (hj : ix [a1, a2, a3] j = some x0) (hc : cs.toList = pre ++ (.int .i64 a1 :: .int .i64 a2 :: .int .i64 a3 :: post)) (ha : at_ = pre.length + j.toNat)
    (hu : set3 a1 a2 a3 j v = u) (hc' : cs'.toList = pre ++ (.int .i64 u.1 :: .int .i64 u.2.1 :: .int .i64 u.2.2 :: post)) (hS : S.set i (b, .cells cs' T (0, 0)) = S')
    (h : G n ds e (HV w0 M S' vs ro) (wpListIn (fw r) 0 P ops Q rest)) :
    G n ds e (HV w0 M S vs ro) (wpListIn (fw r) 0 P ops Q (⟨none, .store t x y, ty, pos, after, none⟩ :: rest)) := by
  subst hu ha
  have h1 := set3_list hj (fun z => Value.int .i64 z) pre post (v := v) rfl
  obtain ⟨j0, j1, _⟩ := ixO hj
  simp only [List.length_cons, List.length_nil] at j1
  refine yc (cs' := cs') i hz hx hy rfl hi ?_ ?_ hS h
  · rw [← Array.length_toList, hc]; simp; omega
  · apply Array.toList_inj.1
    rw [Array.toList_setIfInBounds, hc, hc']
    exact h1
end ops
end Go.Gx

namespace Go.Gx
open Go Go.Fw
section
variable {P : Program} {e : EnvL} {w : World} {dst : Option Nat} {ty : TypeId} {pos : String} {after : Array Edge} {g : Option (Nat × Bool)}
theorem ZH {t E : TypeId} {x hi : Operand} {b o len sz : Nat} {k : IntKind} {i : Int} (hu : (underlying t).run P w = .ok (.array len E) w) (hz : (sizeOf E).run P w = .ok sz w)
    (hx : ev e x = some (ptr b o)) (hhi : ev e hi = some (.int k i)) (h : 0 ≤ i ∧ i ≤ (len : Int)) (hl : Nat.blt 0 len = true) : Val P e w ⟨dst, .slice t x none (some hi) none, ty, pos, after, g⟩ (slv (some (b, o)) i.toNat len) := fun n ds a he => by
  have key : (Instr.sliceBounds false len len none (some (.int k i)) none).run P w = .ok (0, i.toNat, len) w := by
    have h2 : i ≤ (len : Int) := h.2
    simp [Instr.sliceBounds, Instr.sliceBound, asIntOf, h.1, h2]
  have hl' : ¬ len = 0 := by simp at hl; omega
  simp [execOp, he.eval hx, he.eval hhi, Instr.sliceAt, hu, Instr.sureAddr, key, hz, slv, hl', addr_add]
end
theorem asub {α : Type} (R : Row α) {w : World} {b : Nat} {K : List Nat} {xs : List Value} (o : Nat) (l : List α) (h : segOK w (b, 0, xs) ∧ (xs ≠ [] → b ∉ K)) (hx : (xs.drop o).take (R.enc l).length = R.enc l) (hne : xs.isEmpty = false) : segOK w (b, o, R.enc l) ∧ (R.enc l ≠ [] → b ∉ K) := by
  refine ⟨fun j hj => ?_, fun _ => h.2 (by intro h0; simp [h0] at hne)⟩
  have := segCells h.1 o (us := R.enc l) hx j hj
  exact this
end Go.Gx

namespace Go.Sb
structure Span where
  lo : Int
  hi : Int
  deriving DecidableEq, Inhabited
structure Sand where
  span : Span
  reach : Int
  deriving DecidableEq, Inhabited
structure Sight where
  after : Int
  cell : Int
  upright : Bool
  deriving DecidableEq, Inhabited
structure Channel where
  cells : Int
  tides : Int
  fords : List Int
  sands : List Sand
  sights : List Sight
  deriving DecidableEq, Inhabited
structure Cells where
  c0 : Int
  c1 : Int
  c2 : Int
  deriving DecidableEq, Inhabited
structure State where
  after : Int
  at_ : Cells
  deriving DecidableEq, Inhabited
end Go.Sb

namespace Go.Proofs.Wb
open Go Go.Fw Go.Gx Go.Sb
def RSp : Row Span := ⟨2, fun x => [.int .i64 x.lo, .int .i64 x.hi], fun _ => rfl, fun _ => rfl⟩
def RSa : Row Sand := ⟨3, fun x => [.int .i64 x.span.lo, .int .i64 x.span.hi, .int .i64 x.reach], fun _ => rfl, fun _ => rfl⟩
def RSi : Row Sight := ⟨3, fun x => [.int .i64 x.after, .int .i64 x.cell, .bool x.upright], fun _ => rfl, fun _ => rfl⟩
def RSta : Row State := ⟨4, fun x => [.int .i64 x.after, .int .i64 x.at_.c0, .int .i64 x.at_.c1, .int .i64 x.at_.c2], fun _ => rfl, fun _ => rfl⟩
end Go.Proofs.Wb

