/- What the functions that the law BranchFirm reaches come to, and why it holds: part 2. -/
import Derived.Test.YtpjnpibgnkgnaaaGreatBranchFirm1
import Derived.Test.YtpjnpibgnkgnaaaGreatProg
namespace Go.Gx
open Go Go.Fw
section
variable {P : Program} {e : EnvL} {w : World} {dst : Option Nat} {ty : TypeId} {pos : String} {after : Array Edge} {g : Option (Nat × Bool)}
theorem Z1 {t E : TypeId} {x hi : Operand} {b o len sz : Nat} {k : IntKind} {i : Int} (hu : (underlying t).run P w = .ok (.array len E) w) (hz : (sizeOf E).run P w = .ok sz w)
    (hx : ev e x = some (ptr b o)) (hhi : ev e hi = some (.int k i)) (h : 0 ≤ i ∧ i ≤ (len : Int)) (hl : Nat.blt 0 len = true) : Val P e w ⟨dst, .slice t x none (some hi) none, ty, pos, after, g⟩ (slv (some (b, o)) i.toNat len) := fun n ds a he => by
  have key : (Instr.sliceBounds false len len none (some (.int k i)) none).run P w = .ok (0, i.toNat, len) w := by
    have h2 : i ≤ (len : Int) := h.2
    simp [Instr.sliceBounds, Instr.sliceBound, asIntOf, h.1, h2]
  have hl' : ¬ len = 0 := by simp at hl; omega
  simp [execOp, he.eval hx, he.eval hhi, Instr.sliceAt, hu, Instr.sureAddr, key, hz, slv, hl', addr_add]
end
theorem asub {α : Type} (R : Row α) {w : World} {b : Nat} {K : List Nat} {xs : List Value} (o : Nat) (l : List α) (h : segOK w (b, 0, xs) ∧ (xs ≠ [] → b ∉ K)) (hx : (xs.drop o).take (R.enc l).length = R.enc l) (hne : xs.isEmpty = false) : segOK w (b, o, R.enc l) ∧ (R.enc l ≠ [] → b ∉ K) := by
  refine ⟨fun j hj => ?_, fun _ => h.2 (by intro h0; simp [h0] at hne)⟩
  have := segCells h.1 o (us := R.enc l) hx j hj
  exact this
end Go.Gx

namespace Go.Sb
structure Span where
  lo : Int
  hi : Int
  deriving DecidableEq, Inhabited
structure Sand where
  span : Span
  reach : Int
  deriving DecidableEq, Inhabited
structure Sight where
  after : Int
  cell : Int
  upright : Bool
  deriving DecidableEq, Inhabited
structure Channel where
  cells : Int
  tides : Int
  fords : List Int
  sands : List Sand
  sights : List Sight
  deriving DecidableEq, Inhabited
structure Cells where
  c0 : Int
  c1 : Int
  c2 : Int
  deriving DecidableEq, Inhabited
structure State where
  after : Int
  at_ : Cells
  deriving DecidableEq, Inhabited
end Go.Sb

namespace Go.Proofs.Wb
open Go Go.Fw Go.Gx Go.Sb
def RSp : Row Span := ⟨2, fun x => [.int .i64 x.lo, .int .i64 x.hi], fun _ => rfl, fun _ => rfl⟩
def RSa : Row Sand := ⟨3, fun x => [.int .i64 x.span.lo, .int .i64 x.span.hi, .int .i64 x.reach], fun _ => rfl, fun _ => rfl⟩
def RSi : Row Sight := ⟨3, fun x => [.int .i64 x.after, .int .i64 x.cell, .bool x.upright], fun _ => rfl, fun _ => rfl⟩
def RSta : Row State := ⟨4, fun x => [.int .i64 x.after, .int .i64 x.at_.c0, .int .i64 x.at_.c1, .int .i64 x.at_.c2], fun _ => rfl, fun _ => rfl⟩
end Go.Proofs.Wb

