/- What the functions that the law BranchCourses reaches come to, and why it holds: part 5. -/
import Derived.Test.YtpjnpibgnkgnaaaGreatBranchCourses4
import Derived.Shelf.Spec.SlicesInsertGrow
namespace Go.Proofs
open Go.Shelf
end Go.Proofs
namespace Go.Gx
open Go Go.Fw
theorem Ext.drew (w : World) : Ext [] w w.drew := ⟨rfl, rfl, rfl, Nat.le_refl _, fun _ _ _ => rfl⟩
theorem HV.grown {w0 w w' : World} {M : List Nat} {E : TypeId} {xs sp xs' sp' : List Value} {q : Option (Nat × Nat)} {v2 : VR} (h : HV w0 M [] [⟨E, xs, sp, q, []⟩, v2] [] w) (hx : Ext [] w w') (ho : w'.heap[w.heap.size]? = some (.cells (xs' ++ sp').toArray E (0, 0))) : HV w0 M [] [⟨E, xs', sp', some (w.heap.size, 0), []⟩, v2] [] w' := by
  have h0 : HS w0 M (vbl [⟨E, xs, sp, q, []⟩, v2]) [] w := h
  have h1 := h0.push hx (Nat.le_refl _) ho
  refine h1.drop ?_
  simp only [vbl, VR.bl, vown, List.nil_append, List.append_nil, List.singleton_append]
  exact List.Sublist.cons_cons _ (List.sublist_append_right _ _)
end Go.Gx
namespace Go.Proofs.Wb
open Go Go.Fw Go.Gx
end Go.Proofs.Wb

namespace Go.Gx
open Go Go.Fw
section
variable {P : Program}
inductive EqA (P : Program) (xs ys : Array Value) : List Field → Bool → Prop
  | nil : EqA P xs ys [] true
  | int {f : Field} {fs : List Field} {k : IntKind} {a c : Int} {b : Bool} (hn : (f.name == "_") = false) (hg : ∀ w, (isAgg f.type).run P w = .ok false w) (hu : ∃ k', P.underlying f.type = some (.int k')) (hx : xs[f.offset]? = some (.int k a)) (hy : ys[f.offset]? = some (.int k c)) (h : EqA P xs ys fs b) : EqA P xs ys (f :: fs) (decide (a = c) && b)
  | arr {f : Field} {fs : List Field} {us vs : List Int} {k e : Nat} {b : Bool} (hn : (f.name == "_") = false) (hg : ∀ w, (isAgg f.type).run P w = .ok true w) (hz : ∀ w, (sizeOf f.type).run P w = .ok k w) (hlx : us.length = k) (hly : vs.length = k) (hx : (xs.toList.drop f.offset).take k = ints us) (hy : (ys.toList.drop f.offset).take k = ints vs)
      (hu : P.underlying f.type = some (.array k e)) (hze : ∀ w, (sizeOf e).run P w = .ok 1 w) (hge : ∀ w, (isAgg e).run P w = .ok false w) (hue : P.underlying e = some (.int .i64)) (h : EqA P xs ys fs b) : EqA P xs ys (f :: fs) (decide (us = vs) && b)
theorem EqA.run {xs ys : Array Value} {fs : List Field} {b : Bool} (h : EqA P xs ys fs b) (d : Nat) (w : World) : (Op.eqFields (d + 2) xs ys fs).run P w = .ok b w := by
  induction h with
  | nil => rfl
  | @int f fs k a c b hn hg hu hx hy h ih =>
    obtain ⟨k', hu⟩ := hu
    have hn' : f.name ≠ "_" := by simpa using hn
    simp only [Op.eqFields, hn', ne_eq, not_false_eq_true, if_true, Sem.run_bind, part_one (hg w) hx, part_one (hg w) hy, Result.andThen_ok, Go.run_equalIn_int w (d + 1) f.type k k' a c hu, Sem.run_ite]
    by_cases he : a = c
    · subst he; simp [ih]
    · simp [he]
  | @arr f fs us vs k e b hn hg hz hlx hly hx hy hu hze hge hue h ih =>
    have hn' : f.name ≠ "_" := by simpa using hn
    have l1 : (ints us).length = k := by simp [ints, hlx]
    have l2 : (ints vs).length = k := by simp [ints, hly]
    have he := equal_ints_at (P := P) (d := d) hu hze hge hue hlx hly w
    simp only [Op.eqFields, hn', ne_eq, not_false_eq_true, if_true, Sem.run_bind, part_agg (us := ints us) (hg w) (by rw [l1]; exact hz w) (by rw [l1]; exact hx), part_agg (us := ints vs) (hg w) (by rw [l2]; exact hz w) (by rw [l2]; exact hy), Result.andThen_ok, he, Sem.run_ite]
    by_cases hq : us = vs
    · subst hq; simp [ih]
    · simp [hq]
theorem equal_structA {t : TypeId} {fs : Array Field} {xs ys : Array Value} {b : Bool} (hu : P.underlying t = some (.struct fs)) (hp : P.stoodInHeld t = false) (h : EqA P xs ys fs.toList b) (w : World) : (Op.equalIn 10000 t (.agg xs) (.agg ys)).run P w = .ok b w := by
  have hf : P.fieldsOf t = fs := by simp [Program.fieldsOf, hu]
  rw [show (10000 : Nat) = 9999 + 1 from rfl, run_equalIn_agg w 9999 t xs ys (by rw [hf]; exact hu) hp, hf]
  exact h.run 9997 w
inductive CkA (P : Program) (xs : Array Value) : List Field → Prop
  | nil : CkA P xs []
  | int {f : Field} {fs : List Field} {κ k : IntKind} {n : Int} (hg : ∀ w, (isAgg f.type).run P w = .ok false w) (hu : ∀ w, (underlying f.type).run P w = .ok (.int κ) w) (hv : xs[f.offset]? = some (.int k n)) (h : CkA P xs fs) : CkA P xs (f :: fs)
  | arr {f : Field} {fs : List Field} {us : List Int} {k e : Nat} (hg : ∀ w, (isAgg f.type).run P w = .ok true w) (hz : ∀ w, (sizeOf f.type).run P w = .ok k w) (hl : us.length = k) (hx : (xs.toList.drop f.offset).take k = ints us) (hu : ∀ w, (underlying f.type).run P w = .ok (.array k e) w)
      (hze : ∀ w, (sizeOf e).run P w = .ok 1 w) (hge : ∀ w, (isAgg e).run P w = .ok false w) (hue : ∀ w, (underlying e).run P w = .ok (.int .i64) w) (h : CkA P xs fs) : CkA P xs (f :: fs)
theorem checkKey_arr {b : Bool} {d : Nat} {t e : TypeId} {k : Nat} {us : List Int} (hl : us.length = k) (hu : ∀ w, (underlying t).run P w = .ok (.array k e) w) (hze : ∀ w, (sizeOf e).run P w = .ok 1 w) (hge : ∀ w, (isAgg e).run P w = .ok false w) (hue : ∀ w, (underlying e).run P w = .ok (.int .i64) w) (w : World) :
    (Instr.checkKey b (d + 2) t (.agg (ints us).toArray)).run P w = .ok () w := by
  rw [Instr.checkKey]
  simp only [Sem.run_bind, hu, Result.andThen_ok]
  simp only [Std.Legacy.Range.forIn_eq_forIn_range', Std.Legacy.Range.size, Nat.sub_zero, Nat.add_one_sub_one, Nat.div_one]
  have gen : ∃ j m, j + m = k ∧ List.range' 0 k = List.range' j m := ⟨0, k, by omega, rfl⟩
  obtain ⟨j, m, hj, h1⟩ := gen
  rw [h1]
  clear h1
  induction m generalizing j with
  | zero => simp
  | succ m ih =>
    have hja : j < us.length := by omega
    have h1 : (ints us).toArray[j * 1]? = some (.int .i64 us[j]) := by simp [ints, hja]
    simp only [List.range'_succ, List.forIn_cons, Sem.run_bind, hze, Result.andThen_ok, part_one (hge w) h1, checkKey_int (hue w), Sem.run_pure]
    exact ih (j + 1) (by omega)
theorem checkKey_structA {b : Bool} {d : Nat} {t : TypeId} {fs : Array Field} {xs : Array Value} (hu : ∀ w, (underlying t).run P w = .ok (.struct fs) w) (h : CkA P xs fs.toList) (w : World) : (Instr.checkKey b (d + 3) t (.agg xs)).run P w = .ok () w := by
  rw [Instr.checkKey]
  simp only [Sem.run_bind, hu, Result.andThen_ok]
  rw [← Array.forIn_toList]
  generalize fs.toList = l at h
  induction h with
  | nil => simp
  | @int f l κ k n hg hu' hv _ ih =>
    simp only [List.forIn_cons, Sem.run_bind]
    by_cases hn : f.name = "_"
    · simp only [hn, ne_eq, not_true, if_false, Sem.run_pure, Result.andThen_ok]
      exact ih
    · simp only [ne_eq, hn, not_false_iff, if_true, Sem.run_bind, part_one (hg w) hv, Result.andThen_ok, checkKey_int (hu' w), Sem.run_pure]
      exact ih
  | @arr f l us k e hg hz hl hx hu' hze hge hue _ ih =>
    have l1 : (ints us).length = k := by simp [ints, hl]
    simp only [List.forIn_cons, Sem.run_bind]
    by_cases hn : f.name = "_"
    · simp only [hn, ne_eq, not_true, if_false, Sem.run_pure, Result.andThen_ok]
      exact ih
    · simp only [ne_eq, hn, not_false_iff, if_true, Sem.run_bind, part_agg (us := ints us) (hg w) (by rw [l1]; exact hz w) (by rw [l1]; exact hx), Result.andThen_ok, checkKey_arr hl hu' hze hge hue w, Sem.run_pure]
      exact ih
theorem KeyOK.rowA {α : Type} [DecidableEq α] {K : TypeId} {fs : Array Field} (R : Row α) (hu : ∀ w, (underlying K).run P w = .ok (.struct fs) w) (hc : ∀ x, CkA P (R.cells x).toArray fs.toList)
    (heq : ∀ (x y : α) (w : World), (Op.equalIn 10000 K (kR R x) (kR R y)).run P w = .ok (decide (x = y)) w) (hs : ∀ x, ((R.cells x).zip (R.cells x)).all (fun p => Instr.sameBits 9999 p.1 p.2) = true) : KeyOK P K (kR R) where
  chk b k w := checkKey_structA (d := 9997) hu (hc k) w
  fnd ve l j k w := by
    simp only [Instr.findKey, Sem.run_bind, hu, Result.andThen_ok, findNow_struct]
    cases l with
    | nil => simp [afind]
    | cons p r =>
      simp only
      exact findAsking_eq heq ve k w (p :: r) j 0
  sta k w := by
    have : Instr.sameBits 10000 (kR R k) (kR R k) = true := by
      rw [show (10000 : Nat) = 9999 + 1 from rfl, kR, Instr.sameBits]
      simpa using hs k
    simp [Instr.keyThatStays, this]
end
end Go.Gx
namespace Go.Gx
open Go Go.Fw
section
variable {P : Program} {e : EnvL} {w : World} {dst : Option Nat} {ty : TypeId} {pos : String} {after : Array Edge} {g : Option (Nat × Bool)}
theorem jbd {l : List Int} {i x : Int} (h : ix l i = some x) {t E : TypeId} {xo io : Operand} {len : Nat} {k : IntKind} (hl : l.length = len) (hu : (underlying t).run P w = .ok (.array len E) w) (hz : (sizeOf E).run P w = .ok 1 w) (hg : (isAgg E).run P w = .ok false w)
    (hx : ev e xo = some (.agg (ints l).toArray)) (hi : ev e io = some (.int k i)) : Val P e w ⟨dst, .index t xo io, ty, pos, after, g⟩ (.int .i64 x) := fun n ds a he => by
  obtain ⟨h1, h2, h3⟩ := ixO h
  have hp : (ints l).toArray[i.toNat * 1]? = some (.int .i64 x) := by simp [ints, h3]
  have hi' : 0 ≤ i ∧ i < (len : Int) := by omega
  have key : (Instr.index t (.agg (ints l).toArray) (.int k i)).run P w = .ok (.int .i64 x) w := by
    simp only [Instr.index, asIntOf, Sem.run_bind, Sem.run_pure, Result.andThen_ok, hu, if_pos hi', hz, part_one hg hp]
  simp [execOp, he.eval hx, he.eval hi, key]
end
end Go.Gx

namespace Go.Sb
def cGet (c : Cells) (i : Nat) : Int := match i with
  | 0 => c.c0
  | 1 => c.c1
  | _ => c.c2
def cSet (c : Cells) (i : Nat) (x : Int) : Cells := match i with
  | 0 => ⟨x, c.c1, c.c2⟩
  | 1 => ⟨c.c0, x, c.c2⟩
  | _ => ⟨c.c0, c.c1, x⟩
def okN (reach : List Int) (a : Cells) (pre : List Int) (x : Int) : Bool :=
  decide (cGet a pre.length - reach.getD (cGet a pre.length).toNat 0 ≤ x) && decide (x ≤ cGet a pre.length + reach.getD (cGet a pre.length).toNat 0) && decide (∀ y, pre.getLast? = some y → y < x)
def putL (cells : Nat) (reach : List Int) (a : Cells) : Nat → List Int → List (List Int)
  | 0, pre => [pre]
  | m + 1, pre => (List.range cells).flatMap fun (x : Nat) => if okN reach a pre (x : Int) = true then putL cells reach a m (pre ++ [(x : Int)]) else []
def mkCells (l : List Int) : Cells := ⟨l.getD 0 (-1), l.getD 1 (-1), l.getD 2 (-1)⟩
def nextL (cells : Int) (reach : List Int) (nf : Int) (s : State) : List State := (putL cells.toNat reach s.at_ nf.toNat []).map fun l => ⟨s.after + 1, mkCells l⟩
def nextOK (cells : Int) (reach : List Int) (nf : Int) (s : State) : Prop :=
  nf ≤ 3 ∧ cells ≤ 1000 ∧ -1000 ≤ s.after ∧ s.after ≤ 1000 ∧ ∀ i : Nat, i < nf.toNat → 0 ≤ cGet s.at_ i ∧ cGet s.at_ i < reach.length ∧ cGet s.at_ i ≤ 1000 ∧ 0 ≤ reach.getD (cGet s.at_ i).toNat 0 ∧ reach.getD (cGet s.at_ i).toNat 0 ≤ 1000
instance (cells : Int) (reach : List Int) (nf : Int) (s : State) : Decidable (nextOK cells reach nf s) := by unfold nextOK; infer_instance
def Seg {α : Type} (l : List α) (j : Nat) (m : List α) : Prop := ∃ a b, l = a ++ (m ++ b) ∧ a.length = j
theorem Seg.left {α : Type} {l m m' : List α} {j : Nat} (h : Seg l j (m ++ m')) : Seg l j m := by
  obtain ⟨a, b, h1, h2⟩ := h
  exact ⟨a, m' ++ b, by rw [h1]; simp, h2⟩
theorem Seg.right {α : Type} {l m m' : List α} {j : Nat} (h : Seg l j (m ++ m')) : Seg l (j + m.length) m' := by
  obtain ⟨a, b, h1, h2⟩ := h
  exact ⟨a ++ m, b, by rw [h1]; simp, by simp [h2]⟩
theorem Seg.one {α : Type} {l : List α} {j : Nat} {x : α} (h : Seg l j [x]) : l[j]? = some x := by
  obtain ⟨a, b, h1, h2⟩ := h
  subst h1; subst h2
  simp
theorem Seg.all {α : Type} (l : List α) : Seg l 0 l := ⟨[], [], by simp, rfl⟩
def putB (cells : Nat) (reach : List Int) (a : Cells) (m : Nat) (pre : List Int) (k : Nat) : List (List Int) := (List.range k).flatMap fun (x : Nat) => if okN reach a pre (x : Int) = true then putL cells reach a m (pre ++ [(x : Int)]) else []
theorem putB_succ {cells : Nat} {reach : List Int} {a : Cells} {m : Nat} {pre : List Int} {k : Nat} : putB cells reach a m pre (k + 1) = putB cells reach a m pre k ++ (if okN reach a pre (k : Int) = true then putL cells reach a m (pre ++ [(k : Int)]) else []) := by
  unfold putB
  rw [List.range_succ, List.flatMap_append]
  simp
theorem putB_all {cells : Nat} {reach : List Int} {a : Cells} {m : Nat} {pre : List Int} : putB cells reach a m pre cells = putL cells reach a (m + 1) pre := rfl
theorem putB_pre {cells : Nat} {reach : List Int} {a : Cells} {m : Nat} {pre : List Int} {k n : Nat} (h : k ≤ n) : ∃ r, putB cells reach a m pre n = putB cells reach a m pre k ++ r := by
  induction n with
  | zero => obtain rfl : k = 0 := by omega
            exact ⟨[], by simp⟩
  | succ n ih =>
    by_cases hk : k = n + 1
    · subst hk; exact ⟨[], by simp⟩
    · obtain ⟨r, hr⟩ := ih (by omega)
      rw [putB_succ, hr, List.append_assoc]
      exact ⟨_, rfl⟩
def ToOK (nf : Nat) (pre : List Int) (c : Cells) : Prop := (∀ i, i < pre.length → cGet c i = pre.getD i (-1)) ∧ (∀ i, nf ≤ i → i < 3 → cGet c i = -1)
theorem ToOK.full {nf : Nat} {pre : List Int} {c : Cells} (h : ToOK nf pre c) (hn : nf ≤ 3) (hl : pre.length = nf) : c = mkCells pre := by
  obtain ⟨h1, h2⟩ := h
  have h3 : ∀ i, i < 3 → cGet c i = pre.getD i (-1) := by
    intro i hi
    by_cases hp : i < pre.length
    · exact h1 i hp
    · rw [h2 i (by omega) hi, List.getD_eq_getElem?_getD, List.getElem?_eq_none (by omega)]; rfl
  have e0 := h3 0 (by omega)
  have e1 := h3 1 (by omega)
  have e2 := h3 2 (by omega)
  cases c
  simp only [cGet] at e0 e1 e2
  simp only [mkCells]
  rw [e0, e1, e2]
theorem cGet_set {c : Cells} {i j : Nat} {x : Int} (hi : i < 3) (hj : j < 3) : cGet (cSet c i x) j = if i = j then x else cGet c j := by
  rcases c with ⟨c0, c1, c2⟩
  have h1 : i = 0 ∨ i = 1 ∨ i = 2 := by omega
  have h2 : j = 0 ∨ j = 1 ∨ j = 2 := by omega
  rcases h1 with rfl | rfl | rfl <;> rcases h2 with rfl | rfl | rfl <;> simp [cSet, cGet]
theorem ToOK.set {nf : Nat} {pre : List Int} {c : Cells} {x : Int} (h : ToOK nf pre c) (hn : nf ≤ 3) (hl : pre.length < nf) : ToOK nf (pre ++ [x]) (cSet c pre.length x) := by
  obtain ⟨h1, h2⟩ := h
  constructor
  · intro i hi
    simp only [List.length_append, List.length_cons, List.length_nil] at hi
    rw [cGet_set (by omega) (by omega)]
    by_cases hp : pre.length = i
    · subst hp; simp
    · rw [if_neg hp, h1 i (by omega)]
      simp only [List.getD_eq_getElem?_getD]
      rw [List.getElem?_append_left (by omega)]
  · intro i hi h3
    rw [cGet_set (by omega) h3, if_neg (by omega)]
    exact h2 i hi h3
theorem ToOK.mono {nf : Nat} {pre : List Int} {c : Cells} {x : Int} (h : ToOK nf (pre ++ [x]) c) : ToOK nf pre c := by
  obtain ⟨h1, h2⟩ := h
  refine ⟨fun i hi => ?_, h2⟩
  rw [h1 i (by simp; omega)]
  simp only [List.getD_eq_getElem?_getD]
  rw [List.getElem?_append_left hi]
theorem ToOK.start {nf : Nat} : ToOK nf [] ⟨-1, -1, -1⟩ := ⟨fun i hi => absurd hi (by simp), fun i _ h => by
  have : i = 0 ∨ i = 1 ∨ i = 2 := by omega
  rcases this with rfl | rfl | rfl <;> rfl⟩
theorem ToOK.last {nf : Nat} {pre : List Int} {c : Cells} (h : ToOK nf pre c) (hp : 0 < pre.length) : pre.getLast? = some (cGet c (pre.length - 1)) := by
  rw [h.1 (pre.length - 1) (by omega), List.getLast?_eq_getElem?, List.getD_eq_getElem?_getD]
  rw [List.getElem?_eq_getElem (by omega)]
  rfl
end Go.Sb

namespace Go.Proofs.Wb
open Go Go.Fw Go.Gx Go.Sb
set_option linter.unusedVariables false
set_option maxHeartbeats 4000000
set_option maxRecDepth 100000
def jaN (n0 : Int) (lo1 : Int) (hi2 : Int) : Option Bool :=
 (if lo1 ≤ n0 then
 (some (decide (n0 ≤ hi2))) else
 (some false)).bind fun o =>
 some o
set_option maxRecDepth 100000 in
set_option maxHeartbeats 4000000 in
theorem jbq (n0 : Int) (lo1 : Int) (hi2 : Int)  (w : World) (hw : HV w (keys [] []) [] [] [] w)  {res : Bool} (hm : jaN n0 lo1 hi2 = some res) :
    Calls Tryz.prog 106 #[.int .i64 n0, .int .i64 lo1, .int .i64 hi2] w (fun en w' => ∃ l : Unit, en = .returned (.bool res) ∧ (True) ∧ HV w (keys [] []) [] [] [] w') := by
  unfold jaN at hm
  refine YK (args := [.int .i64 n0, .int .i64 lo1, .int .i64 hi2]) Tryz.func106 rfl Tryz.ntmps106 rfl (e := [(0, _), (1, _), (2, _)]) rfl (H := HV w (keys [] []) [] [] []) hw ?_
  refine jh ?_
  refine jg ?_
  refine jc rfl rfl rfl (fun _ _ => kx rfl) ?_
  refine ju ?_
  refine ja ?_
  refine jh ?_
  obtain ⟨o, h1, h2⟩ := bindO hm
  refine jI (ι := Unit) (fun l => True) (fun l => [(6, .bool o)]) (fun l => []) (fun l => []) ?_ ?_
  ·replace hm := h1
   refine jg ?_
   refine jc rfl rfl rfl (fun _ _ => jN rfl) ?_
   refine jc rfl rfl rfl (fun _ _ => jN rfl) ?_
   refine jc rfl rfl rfl (fun _ _ => YI rfl rfl) ?_
   refine jc rfl rfl rfl (fun _ _ => jN rfl) ?_
   refine jQ 10 rfl (fun h3 => ?_) (fun h3 => ?_)
   ·replace hm := ifT (of_decide_eq_true h3) hm
    refine jb rfl rfl ?_
    refine jc rfl rfl rfl (fun _ _ => jN rfl) ?_
    refine jb rfl rfl ?_
    refine jc rfl rfl rfl (fun _ _ => jN rfl) ?_
    refine jb rfl rfl ?_
    refine jc rfl rfl rfl (fun _ _ => Zo rfl rfl) ?_
    refine jc rfl rfl rfl (fun _ _ => zD rfl rfl) ?_
    refine jc rfl rfl rfl (fun _ _ => kx rfl) ?_
    refine ju ?_
    obtain rfl := Option.some.inj hm
    exact jj () (trivial) ((.cons rfl .nil)) (fun w hh => hh)
   ·replace hm := ifF (of_decide_eq_false h3) hm
    refine ZB rfl rfl rfl rfl rfl rfl ?_
    refine ZB rfl rfl rfl rfl rfl rfl ?_
    refine ZB rfl rfl rfl rfl rfl rfl ?_
    refine jc rfl rfl rfl (fun _ _ => q5 rfl rfl) ?_
    refine jc rfl rfl rfl (fun _ _ => kx rfl) ?_
    refine ju ?_
    obtain rfl := Option.some.inj hm
    exact jj () (trivial) ((.cons rfl .nil)) (fun w hh => hh)
  ·intro l hj
   replace hm := h2
   refine ja ?_
   refine jz ?_
   obtain rfl := Option.some.inj hm
   refine jn rfl (fun w hh => (.tmp rfl .nil)) (fun w hh => ⟨(), rfl, trivial, hh⟩)
structure jah where
  out3_c0 : Int
  out3_c1 : Int
  out3_c2 : Int
structure Y0 where
  t5 : Int
  out3_c0 : Int
  out3_c1 : Int
  out3_c2 : Int
structure jaa where
  out3_c0 : Int
  out3_c1 : Int
  out3_c2 : Int
def jab (l0 : (List Int)) (s : Y0) : Option (Y0 ⊕ jah) :=
 if s.t5 < 3 then
 (((ix [s.out3_c0, s.out3_c1, s.out3_c2] s.t5).bind fun t9 =>
 (some (set3 s.out3_c0 s.out3_c1 s.out3_c2 s.t5 (-1))).bind fun out3 =>
 if s.t5 < (l0.length : Int) then
 ((ix l0 s.t5).bind fun t17 =>
 (ix [out3.1, out3.2.1, out3.2.2] s.t5).bind fun t19 =>
 (some (set3 out3.1 out3.2.1 out3.2.2 s.t5 t17)).bind fun out3_1 =>
 some (⟨out3_1.1, out3_1.2.1, out3_1.2.2⟩ : jaa)) else
 (some (⟨out3.1, out3.2.1, out3.2.2⟩ : jaa))).bind fun o_1 =>
 (addc s.t5 1).bind fun t20 =>
 some (.inl (⟨t20, o_1.out3_c0, o_1.out3_c1, o_1.out3_c2⟩ : Y0))) else
 (some (.inr (⟨s.out3_c0, s.out3_c1, s.out3_c2⟩ : jah)))
def ja8 (l0 : (List Int)) : Option Cells :=
 (iterM FU (jab l0) (⟨0, 0, 0, 0⟩ : Y0)).bind fun o =>
 some (⟨o.out3_c0, o.out3_c1, o.out3_c2⟩ : Cells)
set_option maxRecDepth 100000 in
set_option maxHeartbeats 4000000 in
theorem jbm (l0 : (List Int)) (qa0 : Option Addr) (na0 ca0 : Nat) (w : World) (hw : HV w (keys [] []) [] [] [(aB qa0, aO qa0, RI.enc l0)] w) (hna0 : l0.length = na0) (hqa0 : AOK na0 qa0) (hla0 : na0 ≤ ca0) {res : Cells} (hm : ja8 l0 = some res) :
    Calls Tryz.prog 142 #[.slice qa0 na0 ca0] w (fun en w' => ∃ l : Unit, en = .returned (.agg #[.int .i64 res.c0, .int .i64 res.c1, .int .i64 res.c2]) ∧ (True) ∧ HV w (keys [] []) [] [] [] w') := by
  unfold ja8 at hm
  refine YK (args := [.slice qa0 na0 ca0]) Tryz.func142 rfl Tryz.ntmps142 rfl (e := [(0, _)]) rfl (H := HV w (keys [] []) [] [] [(aB qa0, aO qa0, RI.enc l0)]) hw ?_
  refine jh ?_
  refine jg ?_
  refine jA (fun w => Tryz.zeroValue157 w) rfl (fun b h1 => ?_)
  refine ju ?_
  refine ja ?_
  refine jh ?_
  refine jg ?_
  refine jA (fun w => Tryz.zeroValue157 w) rfl (fun b_1 h2 => ?_)
  refine ju ?_
  refine ja ?_
  refine jh ?_
  refine jh ?_
  refine jg ?_
  refine jc rfl rfl rfl (fun _ _ => jN rfl) ?_
  refine ju ?_
  refine ja ?_
  obtain ⟨o, h3, h4⟩ := bindO hm
  refine jI (ι := Unit) (fun l => True) (fun l => [(2, ptr b 0), (3, ptr b_1 0)]) (fun l => [(b_1, .cells #[.int .i64 o.out3_c0, .int .i64 o.out3_c1, .int .i64 o.out3_c2] 157 (0, 0)), (b, .cells #[.int .i64 0, .int .i64 0, .int .i64 0] 157 (0, 0))]) (fun l => []) ?_ ?_
  ·replace hm := h3
   refine jm ?_
   refine jM (ι := Unit) hm (fun s l_1 => True) (fun s l_1 => [(0, .slice qa0 na0 ca0), (2, ptr b 0), (3, ptr b_1 0), (5, .int .i64 s.t5)]) (fun s l_1 => [(b_1, .cells #[.int .i64 s.out3_c0, .int .i64 s.out3_c1, .int .i64 s.out3_c2] 157 (0, 0)), (b, .cells #[.int .i64 0, .int .i64 0, .int .i64 0] 157 (0, 0))]) (fun s l_1 => []) () (trivial) ((.cons rfl (.cons rfl (.cons rfl (.cons rfl .nil))))) (fun w hh => hh) (fun s l_1 r hpl hm h5 => ?_)
   unfold jab at hm
   refine jh ?_
   refine jg ?_
   refine jc rfl rfl rfl (fun _ _ => jav rfl rfl) ?_
   refine ju ?_
   refine ja ?_
   refine jh ?_
   refine jr rfl (fun h6 => ?_) (fun h6 => ?_)
   ·replace hm := ifT (of_decide_eq_true h6) hm
    refine js ?_
    refine ja ?_
    refine jh ?_
    obtain ⟨o_1, h7, h8⟩ := bindO hm
    refine jI (ι := Unit) (fun l_2 => True) (fun l_2 => [(0, .slice qa0 na0 ca0), (2, ptr b 0), (3, ptr b_1 0), (5, .int .i64 s.t5)]) (fun l_2 => [(b_1, .cells #[.int .i64 o_1.out3_c0, .int .i64 o_1.out3_c1, .int .i64 o_1.out3_c2] 157 (0, 0)), (b, .cells #[.int .i64 0, .int .i64 0, .int .i64 0] 157 (0, 0))]) (fun l_2 => []) ?_ ?_
    ·replace hm := h7
     refine jm ?_
     refine jh ?_
     refine jg ?_
     refine jc rfl rfl rfl (fun _ _ => jN rfl) ?_
     refine jc rfl rfl rfl (fun _ _ => kx rfl) ?_
     refine ju ?_
     refine ja ?_
     refine jh ?_
     refine jg ?_
     refine jc rfl rfl rfl (fun _ _ => jN rfl) ?_
     obtain ⟨t9, h9, hm⟩ := bindO hm
     refine jc rfl rfl rfl (fun w _ => Kc h9 rfl (Tryz.runUnderlying157 w) (Tryz.sizeOf3 w) rfl rfl) ?_
     obtain ⟨out3, hout3, hm⟩ := bindO hm
     refine jak 0 [] [] (cs' := #[_, _, _]) (S' := [_, _]) (fun w => Tryz.sizeOf3 w) rfl rfl rfl h9 rfl rfl (Option.some.inj hout3) rfl rfl ?_
     refine ju ?_
     refine ja ?_
     refine jh ?_
     refine jg ?_
     refine jc rfl rfl rfl (fun _ _ => jN rfl) ?_
     refine jc rfl rfl rfl (fun _ _ => jN rfl) ?_
     refine jc rfl rfl rfl (fun w _ => jR hna0 (Tryz.runUnderlying22 w) rfl) ?_
     refine jc rfl rfl rfl (fun _ _ => jav rfl rfl) ?_
     refine ju ?_
     refine ja ?_
     refine jr rfl (fun h10 => ?_) (fun h10 => ?_)
     ·replace hm := ifT (of_decide_eq_true h10) hm
      refine jg ?_
      refine jc rfl rfl rfl (fun _ _ => jN rfl) ?_
      refine jc rfl rfl rfl (fun _ _ => jN rfl) ?_
      refine jc rfl rfl rfl (fun _ _ => jN rfl) ?_
      obtain ⟨t17, h11, hm⟩ := bindO hm
      refine jc rfl rfl rfl (fun w _ => qx h11 (Tryz.runUnderlying22 w) (Tryz.sizeOf3 w) rfl rfl hna0 hqa0) ?_
      refine jc rfl rfl rfl (fun w hh => ka RI 0 h11 (Tryz.isAgg3 w) rfl (hh.seg 0 rfl) rfl (Nat.add_zero _).symm) ?_
      obtain ⟨t19, h12, hm⟩ := bindO hm
      refine jc rfl rfl rfl (fun w _ => Kc h12 rfl (Tryz.runUnderlying157 w) (Tryz.sizeOf3 w) rfl rfl) ?_
      obtain ⟨out3_1, hout3_1, hm⟩ := bindO hm
      refine jak 0 [] [] (cs' := #[_, _, _]) (S' := [_, _]) (fun w => Tryz.sizeOf3 w) rfl rfl rfl h12 rfl rfl (Option.some.inj hout3_1) rfl rfl ?_
      refine ju ?_
      refine jx ?_
      obtain rfl := Option.some.inj hm
      exact jj () (trivial) ((.cons rfl (.cons rfl (.cons rfl (.cons rfl .nil))))) (fun w hh => hh)
     ·replace hm := ifF (of_decide_eq_false h10) hm
      refine js ?_
      refine jx ?_
      obtain rfl := Option.some.inj hm
      exact jj () (trivial) ((.cons rfl (.cons rfl (.cons rfl (.cons rfl .nil))))) (fun w hh => hh)
    ·intro l_2 hj
     replace hm := h8
     refine ja ?_
     refine jg ?_
     obtain ⟨t20, h13, hm⟩ := bindO hm
     refine jc rfl rfl rfl (fun _ _ => Kh h13 rfl rfl) ?_
     refine jc rfl rfl rfl (fun _ _ => jN rfl) ?_
     refine ju ?_
     obtain rfl := Option.some.inj hm
     refine ja ?_
     exact jC _ () rfl (trivial) ((.cons rfl (.cons rfl (.cons rfl (.cons rfl .nil))))) (fun w hh => hh)
   ·replace hm := ifF (of_decide_eq_false h6) hm
    refine jS ?_
    refine ji ?_
    refine ji ?_
    refine jD ?_
    obtain rfl := Option.some.inj hm
    have hbo := h5 _ rfl
    subst hbo
    exact jj () (trivial) ((.cons rfl (.cons rfl .nil))) (fun w hh => hh)
  ·intro l hj
   replace hm := h4
   refine ja ?_
   refine jh ?_
   refine jg ?_
   refine jc rfl rfl rfl (fun w hh => jH (vs := [_, _, _]) (Tryz.isAgg157 w) (Tryz.sizeOf157 w) rfl (hh.cells 0 rfl rfl)) ?_
   refine kE (us := #[_, _, _]) (cs' := [_, _, _]) (S' := [_, _]) 1 (fun w => Tryz.sizeOf157 w) rfl rfl rfl rfl rfl rfl rfl ?_
   refine ju ?_
   refine ja ?_
   refine jz ?_
   obtain rfl := Option.some.inj hm
   refine jn rfl (fun w hh => (.cell rfl (loadVar_agg (vs := [_, _, _]) (Tryz.isAgg157 _) (Tryz.sizeOf157 _) (hh.cells 1 rfl rfl)) .nil)) (fun w hh => ⟨(), rfl, trivial, hh.sel [] [] 1 (by decide) (by decide) rfl rfl rfl⟩)
def FRm (L : List (Nat × Obj)) : VR := ⟨0, [], [], none, L⟩
theorem fr_to {w0 w : World} {M : List Nat} {A B C : Nat × Obj} {L X : List (Nat × Obj)} {ro : List Sg} (hh : HV w0 M [A, B, C] [FRm (L ++ X)] ro w) : HS w0 M (L ++ (A :: B :: C :: X)) ro w := HS.perm hh (by
  simp only [vbl, VR.bl, FRm, vown, List.nil_append, List.append_nil, List.cons_append]
  exact ((List.perm_middle.trans (List.Perm.cons _ (List.perm_middle.trans (List.Perm.cons _ List.perm_middle))))).symm)
theorem fr_of {w0 w : World} {M : List Nat} {A B C : Nat × Obj} {L X : List (Nat × Obj)} {ro : List Sg} (hh : HS w0 M (L ++ (A :: B :: C :: X)) ro w) : HV w0 M [A, B, C] [FRm (L ++ X)] ro w := HS.perm hh (by
  simp only [vbl, VR.bl, FRm, vown, List.nil_append, List.append_nil, List.cons_append]
  exact (List.perm_middle.trans (List.Perm.cons _ (List.perm_middle.trans (List.Perm.cons _ List.perm_middle)))))
theorem jaM (x lo hi : Int) : jaN x lo hi = some (decide (lo ≤ x) && decide (x ≤ hi)) := by
  unfold jaN
  by_cases h1 : lo ≤ x <;> by_cases h2 : x ≤ hi <;> simp [h1, h2]
theorem ZK : ja8 [] = some ⟨-1, -1, -1⟩ := by decide +kernel
structure RdN (b1 bd bs : Nat) (cells : Int) (v1 v3 v4 : Value) (fq rq : Option Addr) (nf fc rn rc : Nat) (reach : List Int) (s : State) (w : World) : Prop where
  f0 : segOK w (b1, 0, [ptr bd 0])
  f1 : segOK w (bd, 0, [.int .i64 cells, v1, .slice fq nf fc, v3, v4, .slice rq rn rc])
  f2 : segOK w (bs, 0, [.int .i64 s.after, .int .i64 s.at_.c0, .int .i64 s.at_.c1, .int .i64 s.at_.c2])
  f3 : segOK w (aB rq, aO rq, RI.enc reach)
def encS (t : State) : Value := .agg #[.int .i64 t.after, .int .i64 t.at_.c0, .int .i64 t.at_.c1, .int .i64 t.at_.c2]
def encN (s : State) (l : List Int) : Value := encS ⟨s.after + 1, mkCells l⟩
theorem ix3 {c : Cells} {p : Nat} (h : p < 3) : ix [c.c0, c.c1, c.c2] (p : Int) = some (cGet c p) := by
  have : p = 0 ∨ p = 1 ∨ p = 2 := by omega
  rcases this with rfl | rfl | rfl <;> rfl
theorem set3_c {c : Cells} {p : Nat} {x : Int} (h : p < 3) : set3 c.c0 c.c1 c.c2 (p : Int) x = ((cSet c p x).c0, (cSet c p x).c1, (cSet c p x).c2) := by
  have : p = 0 ∨ p = 1 ∨ p = 2 := by omega
  rcases this with rfl | rfl | rfl <;> rfl
theorem ix_rc {l : List Int} {a : Int} (h0 : 0 ≤ a) (h1 : a < (l.length : Int)) : ix l a = some (l.getD a.toNat 0) := by
  unfold ix
  rw [if_neg (by omega), List.getD_eq_getElem?_getD, List.getElem?_eq_getElem (by omega)]
  rfl
def toO (bt : Nat) (s : State) (c : Cells) : Nat × Obj := (bt, .cells #[.int .i64 (s.after + 1), .int .i64 c.c0, .int .i64 c.c1, .int .i64 c.c2] 159 (0, 0))
def putF (b1 by_ bt bs bp : Nat) : Value := .func (.func 162) #[] #[ptr b1 0, ptr by_ 0, ptr bt 0, ptr bs 0, ptr bp 0]

end Go.Proofs.Wb

namespace Go.Proofs.Wb
open Go Go.Fw Go.Gx Go.Sb
set_option linter.unusedVariables false
set_option maxHeartbeats 4000000
set_option maxRecDepth 100000
theorem put_ok {γ : Type} (Y : γ → List (Nat × Obj)) (St : Nat → γ → Prop) (Sp : γ → Prop) (l : Nat) (vals : List Value) (w0 : World) (M : List Nat) (ro : List Sg) (X0 : List (Nat × Obj)) (b1 bd bs bt bp by_ : Nat) (cells : Int) (v1 v3 v4 : Value) (fq rq : Option Addr) (nf fc rn rc : Nat) (reach : List Int) (s : State)
    (hrn : reach.length = rn) (hrq : AOK rn rq) (hok : nextOK cells reach (nf : Int) s)
    (hrd : ∀ k g X w, St k g → HS w0 M (Y g ++ X) ro w → RdN b1 bd bs cells v1 v3 v4 fq rq nf fc rn rc reach s w)
    (hy : ∀ j v g X w, vals[j]? = some v → St j g → HS w0 M (Y g ++ X) ro w → YieldOK Tryz.prog l [v] w (fun en w' => (en = .returned (.bool true) ∧ ∃ g', St (j + 1) g' ∧ HS w0 M (Y g' ++ X) ro w') ∨ (en = .returned (.bool false) ∧ ∃ g', Sp g' ∧ HS w0 M (Y g' ++ X) ro w'))) :
    ∀ (m : Nat) (pre : List Int) (c0 : Cells) (g0 : γ) (j0 : Nat) (w : World), pre.length + m = nf → ToOK nf pre c0 → Seg vals j0 ((putL cells.toNat reach s.at_ m pre).map (encN s)) → St j0 g0 →
      HV w0 M [toO bt s c0, (bp, .cells #[putF b1 by_ bt bs bp] 102 (0, 0)), (by_, .cells #[.func (.yield l) #[] #[]] 216 (0, 0))] [FRm (Y g0 ++ X0)] ro w →
      Calls Tryz.prog 162 #[.int .i64 (pre.length : Int), ptr b1 0, ptr by_ 0, ptr bt 0, ptr bs 0, ptr bp 0] w (fun en w' => ∃ z : Bool × γ × Cells, en = .returned (.bool z.1) ∧ (ToOK nf pre z.2.2 ∧ if z.1 = true then St (j0 + (putL cells.toNat reach s.at_ m pre).length) z.2.1 else Sp z.2.1) ∧
        HV w0 M [toO bt s z.2.2, (bp, .cells #[putF b1 by_ bt bs bp] 102 (0, 0)), (by_, .cells #[.func (.yield l) #[] #[]] 216 (0, 0))] [FRm (Y z.2.1 ++ X0)] ro w') := by
  obtain ⟨hn3, hcs, ha0, ha1, hre⟩ := hok
  have hn3' : nf ≤ 3 := by omega
  have RD : ∀ {k : Nat} {g : γ} {A B C : Nat × Obj} {w : World}, St k g → HV w0 M [A, B, C] [FRm (Y g ++ X0)] ro w → RdN b1 bd bs cells v1 v3 v4 fq rq nf fc rn rc reach s w := fun hs hh => hrd _ _ _ _ hs (fr_to hh)
  intro m
  induction m with
  | zero =>
    intro pre c0 g0 j0 w hl hto hseg hs hh0
    have hl' : pre.length = nf := by omega
    have hc0 := hto.full hn3' hl'
    refine YK (args := [.int .i64 (pre.length : Int), ptr b1 0, ptr by_ 0, ptr bt 0, ptr bs 0, ptr bp 0]) Tryz.func162 rfl Tryz.ntmps162 rfl (e := [(0, _), (1, _), (2, _), (3, _), (4, _), (5, _)]) rfl hh0 ?_
    refine jh ?_
    refine jg ?_
    refine jc rfl rfl rfl (fun _ _ => kx rfl) ?_
    refine ju ?_
    refine ja ?_
    refine jh ?_
    refine jh ?_
    refine jg ?_
    refine jc rfl rfl rfl (fun _ _ => jN rfl) ?_
    refine jc rfl rfl rfl (fun w hh => jL (Tryz.isAgg146 w) rfl (segCell (RD hs hh).f0 0 rfl)) ?_
    refine jc rfl rfl rfl (fun _ _ => yQ rfl) ?_
    refine jc rfl rfl rfl (fun w _ => jJ 0 (Tryz.runUnderlying175 w) rfl (Tryz.sizeOf26 w) rfl) ?_
    refine jc rfl rfl rfl (fun w _ => jJ 2 (Tryz.runUnderlying26 w) rfl (Tryz.sizeOf22 w) rfl) ?_
    refine jc rfl rfl rfl (fun w hh => jL (Tryz.isAgg22 w) rfl (segCell (RD hs hh).f1 2 rfl)) ?_
    refine jc rfl rfl rfl (fun w _ => jaz (Tryz.runUnderlying22 w) rfl) ?_
    refine jc rfl rfl rfl (fun _ _ => Ju rfl rfl) ?_
    refine ju ?_
    refine ja ?_
    refine jr rfl (fun h1 => ?_) (fun h1 => ?_)
    · refine jh ?_
      refine jg ?_
      refine jc rfl rfl rfl (fun w hh => jL (Tryz.isAgg216 w) rfl (hh.cell 2 rfl rfl)) ?_
      refine jc rfl rfl rfl (fun w hh => jH (vs := [_, _, _, _]) (Tryz.isAgg159 w) (Tryz.sizeOf159 w) rfl (hh.cells 0 rfl rfl)) ?_
      refine jaJ (ι := γ × Bool) (vs := [encN s pre]) (ret := fun z => .bool z.2) (H' := fun z w' => (if z.2 = true then St (j0 + 1) z.1 else Sp z.1) ∧ HV w0 M [toO bt s c0, (bp, .cells #[putF b1 by_ bt bs bp] 102 (0, 0)), (by_, .cells #[.func (.yield l) #[] #[]] 216 (0, 0))] [FRm (Y z.1 ++ X0)] ro w') rfl rfl (fun a he => rfl) rfl rfl (by rw [hc0]; rfl) (fun w hh => ?_) ?_
      · refine (hy j0 (encN s pre) g0 _ w hseg.one hs (fr_to hh)).mono ?_
        rintro en w' (⟨rfl, g', hs', hh'⟩ | ⟨rfl, g', hs', hh'⟩)
        · exact ⟨(g', true), rfl, hs', fr_of hh'⟩
        · exact ⟨(g', false), rfl, hs', fr_of hh'⟩
      intro ⟨g2, b⟩
      refine Zs (fun w hh => hh.1) (fun hs2 => ?_)
      refine G.pre ?_ (fun w hh => hh.2)
      refine jc rfl rfl rfl (fun _ _ => kx rfl) ?_
      refine ju ?_
      refine ja ?_
      refine jz ?_
      refine je ?_
      exact jn rfl (fun w hh => (.tmp rfl .nil)) (fun w hh => ⟨(b, g2, c0), rfl, ⟨hto, hs2⟩, hh⟩)
    · exact absurd (of_decide_eq_false h1) (fun h => h (by omega))
  | succ m ih =>
    intro pre c0 g0 j0 w hl hto hseg hs hh0
    have hp : pre.length < nf := by omega
    have hp3 : pre.length < 3 := by omega
    obtain ⟨ra, rb, rc1, rd1, re1⟩ := hre pre.length (by omega)
    have hix : ix [s.at_.c0, s.at_.c1, s.at_.c2] (pre.length : Int) = some (cGet s.at_ pre.length) := ix3 hp3
    have hrc := ix_rc ra rb
    refine YK (args := [.int .i64 (pre.length : Int), ptr b1 0, ptr by_ 0, ptr bt 0, ptr bs 0, ptr bp 0]) Tryz.func162 rfl Tryz.ntmps162 rfl (e := [(0, _), (1, _), (2, _), (3, _), (4, _), (5, _)]) rfl hh0 ?_
    refine jh ?_
    refine jg ?_
    refine jc rfl rfl rfl (fun _ _ => kx rfl) ?_
    refine ju ?_
    refine ja ?_
    refine jh ?_
    refine jh ?_
    refine jg ?_
    refine jc rfl rfl rfl (fun _ _ => jN rfl) ?_
    refine jc rfl rfl rfl (fun w hh => jL (Tryz.isAgg146 w) rfl (segCell (RD hs hh).f0 0 rfl)) ?_
    refine jc rfl rfl rfl (fun _ _ => yQ rfl) ?_
    refine jc rfl rfl rfl (fun w _ => jJ 0 (Tryz.runUnderlying175 w) rfl (Tryz.sizeOf26 w) rfl) ?_
    refine jc rfl rfl rfl (fun w _ => jJ 2 (Tryz.runUnderlying26 w) rfl (Tryz.sizeOf22 w) rfl) ?_
    refine jc rfl rfl rfl (fun w hh => jL (Tryz.isAgg22 w) rfl (segCell (RD hs hh).f1 2 rfl)) ?_
    refine jc rfl rfl rfl (fun w _ => jaz (Tryz.runUnderlying22 w) rfl) ?_
    refine jc rfl rfl rfl (fun _ _ => Ju rfl rfl) ?_
    refine ju ?_
    refine ja ?_
    refine jr rfl (fun h1 => ?_) (fun h1 => ?_)
    · exact absurd (of_decide_eq_true h1) (by omega)
    refine js ?_
    refine ja ?_
    refine jh ?_
    refine jh ?_
    refine jg ?_
    refine jc rfl rfl rfl (fun w hh => jL (Tryz.isAgg146 w) rfl (segCell (RD hs hh).f0 0 rfl)) ?_
    refine jc rfl rfl rfl (fun _ _ => yQ rfl) ?_
    refine jc rfl rfl rfl (fun w _ => jJ 0 (Tryz.runUnderlying175 w) rfl (Tryz.sizeOf26 w) rfl) ?_
    refine jc rfl rfl rfl (fun w _ => jJ 0 (Tryz.runUnderlying26 w) rfl (Tryz.sizeOf3 w) rfl) ?_
    refine jc rfl rfl rfl (fun w hh => jL (Tryz.isAgg3 w) rfl (segCell (RD hs hh).f1 0 rfl)) ?_
    refine jc rfl rfl rfl (fun _ _ => jN rfl) ?_
    refine ju ?_
    refine ja ?_
    refine jm ?_
    refine ZN (e' := [(26, _), (25, _), (0, _), (1, _), (2, _), (3, _), (4, _), (5, _)]) ((.cons rfl (.cons rfl (.cons rfl (.cons rfl (.cons rfl (.cons rfl (.cons rfl (.cons rfl .nil))))))))) ?_
    refine jaX (ι := Nat × γ × Cells) (fun i => [(26, .int .i64 (i.1 : Nat))]) (fun i w => (i.1 ≤ cells.toNat ∧ ToOK nf pre i.2.2 ∧ St (j0 + (putB cells.toNat reach s.at_ m pre i.1).length) i.2.1) ∧ HV w0 M [toO bt s i.2.2, (bp, .cells #[putF b1 by_ bt bs bp] 102 (0, 0)), (by_, .cells #[.func (.yield l) #[] #[]] 216 (0, 0))] [FRm (Y i.2.1 ++ X0)] ro w) (fun i => cells.toNat - i.1) (0, g0, c0) (fun w hh => ⟨⟨Nat.zero_le _, hto, hs⟩, hh⟩) ?_
    intro ⟨k, g, c⟩
    refine Zs (fun w hh => hh.1) (fun hI => ?_)
    refine G.pre ?_ (fun w hh => hh.2)
    obtain ⟨hk, hto1, hs1⟩ := hI
    simp only at hk hto1 hs1
    refine jh ?_
    refine jg ?_
    refine jc rfl rfl rfl (fun _ _ => jav rfl rfl) ?_
    refine ju ?_
    refine ja ?_
    refine jh ?_
    refine jr rfl (fun h2 => ?_) (fun h2 => ?_)
    · replace h2 := of_decide_eq_true h2
      have hk' : k < cells.toNat := by omega
      have hsub : subc (cGet s.at_ pre.length) (reach.getD (cGet s.at_ pre.length).toNat 0) = some (cGet s.at_ pre.length - reach.getD (cGet s.at_ pre.length).toNat 0) := by unfold subc; rw [if_pos (by omega)]
      have hadd : addc (cGet s.at_ pre.length) (reach.getD (cGet s.at_ pre.length).toNat 0) = some (cGet s.at_ pre.length + reach.getD (cGet s.at_ pre.length).toNat 0) := by unfold addc; rw [if_pos (by omega)]
      have hford : addc (pre.length : Int) 1 = some ((pre.length : Int) + 1) := by unfold addc; rw [if_pos (by omega)]
      have hixc : ix [c.c0, c.c1, c.c2] (pre.length : Int) = some (cGet c pre.length) := ix3 hp3
      refine js ?_
      refine ja ?_
      refine jh ?_
      refine jm ?_
      refine jh ?_
      refine jg ?_
      refine jc rfl rfl rfl (fun _ _ => jN rfl) ?_
      refine jc rfl rfl rfl (fun _ _ => kx rfl) ?_
      refine ju ?_
      refine ja ?_
      refine jh ?_
      refine j5 none (.hoist 0 (.free 1 (.free 2 (.hoist 3 (.free 4 (.free 5 (.free 6 (.hoist 7 (.free 8 (.hoist 9 (.free 10 .done))))))))))) _ rfl (by decide +kernel) (fun w k hh => hh.draw k) (fun w hh => hh) ?_
      refine jw rfl rfl rfl rfl (fun w hh => jL (Tryz.isAgg146 w) rfl (segCell (RD hs1 hh).f0 0 rfl)) ?_
      refine jl rfl rfl rfl rfl (fun _ _ => yQ rfl) ?_
      refine jl rfl rfl rfl rfl (fun w _ => jJ 5 (Tryz.runUnderlying175 w) rfl (Tryz.sizeOf22 w) rfl) ?_
      refine jw rfl rfl rfl rfl (fun w hh => jL (Tryz.isAgg22 w) rfl (segCell (RD hs1 hh).f1 5 rfl)) ?_
      refine jl rfl rfl rfl rfl (fun _ _ => jN rfl) ?_
      refine jl rfl rfl rfl rfl (fun w _ => jJ 1 (Tryz.runUnderlying159 w) rfl (Tryz.sizeOf157 w) rfl) ?_
      refine jl rfl rfl rfl rfl (fun w _ => Kc hix rfl (Tryz.runUnderlying157 w) (Tryz.sizeOf3 w) rfl rfl) ?_
      refine jw rfl rfl rfl rfl (fun w hh => jL (Tryz.isAgg3 w) rfl (segCellX (RD hs1 hh).f2 (ixCell' hix kI [_] [] rfl rfl))) ?_
      refine jl rfl rfl rfl rfl (fun w _ => qx hrc (Tryz.runUnderlying22 w) (Tryz.sizeOf3 w) rfl rfl hrn hrq) ?_
      refine jw rfl rfl rfl rfl (fun w hh => ka RI 0 hrc (Tryz.isAgg3 w) rfl (RD hs1 hh).f3 rfl (Nat.add_zero _).symm) ?_
      refine jl rfl rfl rfl rfl (fun _ _ => kx rfl) ?_
      refine jG ?_
      refine ja ?_
      refine jh ?_
      refine jh ?_
      refine j5 none (.free 0 (.free 1 (.free 2 (.free 3 (.hoist 4 (.free 5 (.free 6 (.free 7 (.free 8 (.free 9 (.hoist 10 (.free 11 (.free 12 (.one 13 (.free 14 (.free 15 (.free 16 (.free 17 (.free 18 (.free 19 (.free 20 (.free 21 (.free 22 (.free 23 (.hoist 24 (.free 25 (.free 26 (.free 27 .done)))))))))))))))))))))))))))) _ rfl (by decide +kernel) (fun w k hh => hh.draw k) (fun w hh => hh) ?_
      refine jl rfl rfl rfl rfl (fun _ _ => jN rfl) ?_
      refine jl rfl rfl rfl rfl (fun _ _ => jN rfl) ?_
      refine jl rfl rfl rfl rfl (fun w _ => jJ 1 (Tryz.runUnderlying159 w) rfl (Tryz.sizeOf157 w) rfl) ?_
      refine jl rfl rfl rfl rfl (fun w _ => Kc hix rfl (Tryz.runUnderlying157 w) (Tryz.sizeOf3 w) rfl rfl) ?_
      refine jw rfl rfl rfl rfl (fun w hh => jL (Tryz.isAgg3 w) rfl (segCellX (RD hs1 hh).f2 (ixCell' hix kI [_] [] rfl rfl))) ?_
      refine jl rfl rfl rfl rfl (fun _ _ => jN rfl) ?_
      refine jl rfl rfl rfl rfl (fun _ _ => yX hsub rfl rfl) ?_
      refine jl rfl rfl rfl rfl (fun _ _ => jN rfl) ?_
      refine jl rfl rfl rfl rfl (fun w _ => jJ 1 (Tryz.runUnderlying159 w) rfl (Tryz.sizeOf157 w) rfl) ?_
      refine jl rfl rfl rfl rfl (fun w _ => Kc hix rfl (Tryz.runUnderlying157 w) (Tryz.sizeOf3 w) rfl rfl) ?_
      refine jw rfl rfl rfl rfl (fun w hh => jL (Tryz.isAgg3 w) rfl (segCellX (RD hs1 hh).f2 (ixCell' hix kI [_] [] rfl rfl))) ?_
      refine jl rfl rfl rfl rfl (fun _ _ => jN rfl) ?_
      refine jl rfl rfl rfl rfl (fun _ _ => Kh hadd rfl rfl) ?_
      refine jF rfl ?_
      refine jd [] [] rfl rfl rfl rfl rfl rfl rfl (fun a w => Tryz.call106 a w) (fun w hh => jbq (k : Int) _ _ w (HV.callee (S0 := []) (vs0 := []) hh roN) (jaM _ _ _)) (fun _u _ => ?_)
      refine jo (fun w hh => hh) ?_
      refine jl rfl rfl rfl rfl (fun _ _ => ze rfl) ?_
      refine jl rfl rfl rfl rfl (fun _ _ => jN rfl) ?_
      refine jQ 54 rfl (fun h11 => ?_) (fun h11 => ?_)
      · have hno : ¬ okN reach s.at_ pre (k : Int) = true := by
          simp only [Bool.not_eq_true', Bool.and_eq_false_iff, decide_eq_false_iff_not] at h11
          simp only [okN, Bool.and_eq_true, decide_eq_true_eq]
          rintro ⟨⟨q1, q2⟩, _⟩
          rcases h11 with h11 | h11
          · exact h11 q1
          · exact h11 q2
        refine jv rfl rfl rfl rfl rfl rfl rfl ?_
        refine jv rfl rfl rfl rfl rfl rfl rfl ?_
        refine jv rfl rfl rfl rfl rfl rfl rfl ?_
        refine qz rfl rfl rfl rfl rfl rfl ?_
        refine qz rfl rfl rfl rfl rfl rfl ?_
        refine qz rfl rfl rfl rfl rfl rfl ?_
        refine qz rfl rfl rfl rfl rfl rfl ?_
        refine qz rfl rfl rfl rfl rfl rfl ?_
        refine Q6 rfl rfl rfl rfl rfl rfl ?_
        refine qz rfl rfl rfl rfl rfl rfl ?_
        refine jv rfl rfl rfl rfl rfl rfl rfl ?_
        refine jl rfl rfl rfl rfl (fun _ _ => zD rfl rfl) ?_
        refine jG ?_
        refine ja ?_
        refine KG rfl rfl ?_

        refine jS ?_
        refine ji ?_
        refine jD ?_
        refine ja ?_
        refine jg ?_
        refine jc rfl rfl rfl (fun _ _ => jax rfl rfl (wrap_i64 (by omega))) ?_
        refine jc rfl rfl rfl (fun _ _ => jN rfl) ?_
        refine ju ?_
        refine ja ?_
        exact ZJ (i := (k, g, c)) (k + 1, g, c) ((.cons rfl (.cons rfl (.cons rfl (.cons rfl (.cons rfl (.cons rfl (.cons rfl (.cons rfl .nil))))))))) (fun w hh => ⟨⟨by simp only; omega, hto1, by rw [putB_succ, if_neg hno, List.append_nil]; exact hs1⟩, hh⟩) (by simp only; omega)
      · have hin : cGet s.at_ pre.length - reach.getD (cGet s.at_ pre.length).toNat 0 ≤ (k : Int) ∧ (k : Int) ≤ cGet s.at_ pre.length + reach.getD (cGet s.at_ pre.length).toNat 0 := by
          simp only [Bool.not_eq_false', Bool.and_eq_true, decide_eq_true_eq] at h11
          exact h11
        refine jy rfl rfl rfl rfl rfl rfl (fun _ _ => jN rfl) ?_
        refine jy rfl rfl rfl rfl rfl rfl (fun _ _ => Qz rfl rfl) ?_
        refine jy rfl rfl rfl rfl rfl rfl (fun _ _ => jN rfl) ?_
        refine jQ 57 rfl (fun h13 => ?_) (fun h13 => ?_)
        · replace h13 := of_decide_eq_true h13
          have hp0 : 0 < pre.length := by omega
          have hpe : (pre.length : Int) - 1 = ((pre.length - 1 : Nat) : Int) := by omega
          have hs1p : subc (pre.length : Int) 1 = some ((pre.length - 1 : Nat) : Int) := by unfold subc; rw [if_pos (by omega), hpe]
          have hixp : ix [c.c0, c.c1, c.c2] ((pre.length - 1 : Nat) : Int) = some (cGet c (pre.length - 1)) := ix3 (by omega)
          refine jy rfl rfl rfl rfl rfl rfl (fun _ _ => jN rfl) ?_
          refine jy rfl rfl rfl rfl rfl rfl (fun _ _ => jN rfl) ?_
          refine jy rfl rfl rfl rfl rfl rfl (fun _ _ => yX hs1p rfl rfl) ?_
          refine jy rfl rfl rfl rfl rfl rfl (fun w _ => jJ 1 (Tryz.runUnderlying159 w) rfl (Tryz.sizeOf157 w) rfl) ?_
          refine jy rfl rfl rfl rfl rfl rfl (fun w _ => Kc hixp rfl (Tryz.runUnderlying157 w) (Tryz.sizeOf3 w) rfl rfl) ?_
          refine jZ rfl rfl rfl rfl rfl rfl (fun w hh => jL (Tryz.isAgg3 w) rfl (hh.cell 0 rfl (ixCell hixp kI [_] [] rfl rfl))) ?_
          refine jy rfl rfl rfl rfl rfl rfl (fun _ _ => Zo rfl rfl) ?_
          refine jy rfl rfl rfl rfl rfl rfl (fun _ _ => zD rfl rfl) ?_
          refine jl rfl rfl rfl rfl (fun _ _ => q5 rfl rfl) ?_
          refine jG ?_
          refine ja ?_
          refine jr rfl (fun h16 => ?_) (fun h16 => ?_)
          · have hno : ¬ okN reach s.at_ pre (k : Int) = true := by
              simp only [okN, Bool.and_eq_true, decide_eq_true_eq]
              rintro ⟨_, q⟩
              have := q _ (hto1.last hp0)
              have := of_decide_eq_true h16
              omega

            refine jS ?_
            refine ji ?_
            refine jD ?_
            refine ja ?_
            refine jg ?_
            refine jc rfl rfl rfl (fun _ _ => jax rfl rfl (wrap_i64 (by omega))) ?_
            refine jc rfl rfl rfl (fun _ _ => jN rfl) ?_
            refine ju ?_
            refine ja ?_
            exact ZJ (i := (k, g, c)) (k + 1, g, c) ((.cons rfl (.cons rfl (.cons rfl (.cons rfl (.cons rfl (.cons rfl (.cons rfl (.cons rfl .nil))))))))) (fun w hh => ⟨⟨by simp only; omega, hto1, by rw [putB_succ, if_neg hno, List.append_nil]; exact hs1⟩, hh⟩) (by simp only; omega)
          · have hyes : okN reach s.at_ pre (k : Int) = true := by
              simp only [okN, Bool.and_eq_true, decide_eq_true_eq]
              refine ⟨hin, fun y hy' => ?_⟩
              rw [hto1.last hp0] at hy'
              have := of_decide_eq_false h16
              simp only [Option.some.injEq] at hy'
              omega

            have hseg1 : Seg vals (j0 + (putB cells.toNat reach s.at_ m pre k).length) ((putL cells.toNat reach s.at_ m (pre ++ [(k : Int)])).map (encN s)) := by
              obtain ⟨r, hr⟩ := putB_pre (cells := cells.toNat) (reach := reach) (a := s.at_) (m := m) (pre := pre) (show k + 1 ≤ cells.toNat by omega)
              rw [← putB_all, hr, putB_succ, if_pos hyes, List.map_append, List.map_append] at hseg
              have h5 := hseg.left.right
              rw [List.length_map] at h5
              exact h5

            refine js ?_
            refine ja ?_
            refine jh ?_
            refine jg ?_
            refine jc rfl rfl rfl (fun _ _ => jN rfl) ?_
            refine jc rfl rfl rfl (fun _ _ => jN rfl) ?_
            refine jc rfl rfl rfl (fun w _ => jJ 1 (Tryz.runUnderlying159 w) rfl (Tryz.sizeOf157 w) rfl) ?_
            refine jc rfl rfl rfl (fun w _ => Kc hixc rfl (Tryz.runUnderlying157 w) (Tryz.sizeOf3 w) rfl rfl) ?_
            refine jak 0 [_] [] (cs' := #[_, _, _, _]) (S' := [_, _, _]) (fun w => Tryz.sizeOf3 w) rfl rfl rfl hixc rfl rfl (set3_c hp3) rfl rfl ?_
            refine ju ?_
            refine ja ?_
            refine jh ?_
            refine jg ?_
            refine jc rfl rfl rfl (fun w hh => jL (Tryz.isAgg102 w) rfl (hh.cell 1 rfl rfl)) ?_
            refine jc rfl rfl rfl (fun _ _ => jN rfl) ?_
            refine jc rfl rfl rfl (fun _ _ => Kh hford rfl rfl) ?_
            refine jae (ι := Bool × γ × Cells) (ret := fun z => .bool z.1) (H' := fun z w' => (ToOK nf (pre ++ [(k : Int)]) z.2.2 ∧ if z.1 = true then St (j0 + (putB cells.toNat reach s.at_ m pre k).length + (putL cells.toNat reach s.at_ m (pre ++ [(k : Int)])).length) z.2.1 else Sp z.2.1) ∧ HV w0 M [toO bt s z.2.2, (bp, .cells #[putF b1 by_ bt bs bp] 102 (0, 0)), (by_, .cells #[.func (.yield l) #[] #[]] 216 (0, 0))] [FRm (Y z.2.1 ++ X0)] ro w') rfl rfl rfl rfl rfl rfl rfl (fun a w => Tryz.call162 a w) (fun w hh => ?_) ?_
            · have hcall := ih (pre ++ [(k : Int)]) (cSet c pre.length (k : Int)) g (j0 + (putB cells.toNat reach s.at_ m pre k).length) w (by simp; omega) (hto1.set hn3' hp) hseg1 hs1 hh
              rw [show (((pre ++ [(k : Int)]).length : Nat) : Int) = (pre.length : Int) + 1 by simp] at hcall
              exact hcall
            intro ⟨b, g2, c2⟩
            refine Zs (fun w hh => hh.1) (fun hs2 => ?_)
            refine G.pre ?_ (fun w hh => hh.2)
            obtain ⟨hto2, hs2⟩ := hs2
            simp only at hto2 hs2
            refine jc rfl rfl rfl (fun _ _ => ze rfl) ?_
            refine ju ?_
            refine ja ?_
            cases b with
            | true =>
              refine KE rfl rfl ?_
              refine js ?_
              refine jx ?_
              refine ja ?_
              refine jg ?_
              refine jc rfl rfl rfl (fun _ _ => jax rfl rfl (wrap_i64 (by omega))) ?_
              refine jc rfl rfl rfl (fun _ _ => jN rfl) ?_
              refine ju ?_
              refine ja ?_
              exact ZJ (i := (k, g, c)) (k + 1, g2, c2) ((.cons rfl (.cons rfl (.cons rfl (.cons rfl (.cons rfl (.cons rfl (.cons rfl (.cons rfl .nil))))))))) (fun w hh => ⟨⟨by simp only; omega, hto2.mono, by rw [putB_succ, if_pos hyes, List.length_append, ← Nat.add_assoc]; exact hs2⟩, hh⟩) (by simp only; omega)
            | false =>
              refine KG rfl rfl ?_
              refine jh ?_
              refine jg ?_
              refine jc rfl rfl rfl (fun _ _ => kx rfl) ?_
              refine ju ?_
              refine ja ?_
              refine jz ?_
              refine jB ?_
              refine je ?_
              refine je ?_
              refine jB ?_
              refine je ?_
              exact jn rfl (fun w hh => (.tmp rfl .nil)) (fun w hh => ⟨(false, g2, c2), rfl, ⟨hto2.mono, hs2⟩, hh⟩)
        · replace h13 := of_decide_eq_false h13
          have hyes : okN reach s.at_ pre (k : Int) = true := by
            simp only [okN, Bool.and_eq_true, decide_eq_true_eq]
            refine ⟨hin, fun y hy' => ?_⟩
            rw [List.eq_nil_of_length_eq_zero (show pre.length = 0 by omega)] at hy'
            simp at hy'

          have hseg1 : Seg vals (j0 + (putB cells.toNat reach s.at_ m pre k).length) ((putL cells.toNat reach s.at_ m (pre ++ [(k : Int)])).map (encN s)) := by
            obtain ⟨r, hr⟩ := putB_pre (cells := cells.toNat) (reach := reach) (a := s.at_) (m := m) (pre := pre) (show k + 1 ≤ cells.toNat by omega)
            rw [← putB_all, hr, putB_succ, if_pos hyes, List.map_append, List.map_append] at hseg
            have h5 := hseg.left.right
            rw [List.length_map] at h5
            exact h5

          refine jv rfl rfl rfl rfl rfl rfl rfl ?_
          refine jv rfl rfl rfl rfl rfl rfl rfl ?_
          refine jv rfl rfl rfl rfl rfl rfl rfl ?_
          refine jv rfl rfl rfl rfl rfl rfl rfl ?_
          refine jv rfl rfl rfl rfl rfl rfl rfl ?_
          refine qi rfl rfl rfl rfl rfl rfl rfl ?_
          refine jv rfl rfl rfl rfl rfl rfl rfl ?_
          refine jy rfl rfl rfl rfl rfl rfl (fun _ _ => q5 rfl rfl) ?_
          refine jl rfl rfl rfl rfl (fun _ _ => q5 rfl rfl) ?_
          refine jG ?_
          refine ja ?_
          refine KE rfl rfl ?_

          refine js ?_
          refine ja ?_
          refine jh ?_
          refine jg ?_
          refine jc rfl rfl rfl (fun _ _ => jN rfl) ?_
          refine jc rfl rfl rfl (fun _ _ => jN rfl) ?_
          refine jc rfl rfl rfl (fun w _ => jJ 1 (Tryz.runUnderlying159 w) rfl (Tryz.sizeOf157 w) rfl) ?_
          refine jc rfl rfl rfl (fun w _ => Kc hixc rfl (Tryz.runUnderlying157 w) (Tryz.sizeOf3 w) rfl rfl) ?_
          refine jak 0 [_] [] (cs' := #[_, _, _, _]) (S' := [_, _, _]) (fun w => Tryz.sizeOf3 w) rfl rfl rfl hixc rfl rfl (set3_c hp3) rfl rfl ?_
          refine ju ?_
          refine ja ?_
          refine jh ?_
          refine jg ?_
          refine jc rfl rfl rfl (fun w hh => jL (Tryz.isAgg102 w) rfl (hh.cell 1 rfl rfl)) ?_
          refine jc rfl rfl rfl (fun _ _ => jN rfl) ?_
          refine jc rfl rfl rfl (fun _ _ => Kh hford rfl rfl) ?_
          refine jae (ι := Bool × γ × Cells) (ret := fun z => .bool z.1) (H' := fun z w' => (ToOK nf (pre ++ [(k : Int)]) z.2.2 ∧ if z.1 = true then St (j0 + (putB cells.toNat reach s.at_ m pre k).length + (putL cells.toNat reach s.at_ m (pre ++ [(k : Int)])).length) z.2.1 else Sp z.2.1) ∧ HV w0 M [toO bt s z.2.2, (bp, .cells #[putF b1 by_ bt bs bp] 102 (0, 0)), (by_, .cells #[.func (.yield l) #[] #[]] 216 (0, 0))] [FRm (Y z.2.1 ++ X0)] ro w') rfl rfl rfl rfl rfl rfl rfl (fun a w => Tryz.call162 a w) (fun w hh => ?_) ?_
          · have hcall := ih (pre ++ [(k : Int)]) (cSet c pre.length (k : Int)) g (j0 + (putB cells.toNat reach s.at_ m pre k).length) w (by simp; omega) (hto1.set hn3' hp) hseg1 hs1 hh
            rw [show (((pre ++ [(k : Int)]).length : Nat) : Int) = (pre.length : Int) + 1 by simp] at hcall
            exact hcall
          intro ⟨b, g2, c2⟩
          refine Zs (fun w hh => hh.1) (fun hs2 => ?_)
          refine G.pre ?_ (fun w hh => hh.2)
          obtain ⟨hto2, hs2⟩ := hs2
          simp only at hto2 hs2
          refine jc rfl rfl rfl (fun _ _ => ze rfl) ?_
          refine ju ?_
          refine ja ?_
          cases b with
          | true =>
            refine KE rfl rfl ?_
            refine js ?_
            refine jx ?_
            refine ja ?_
            refine jg ?_
            refine jc rfl rfl rfl (fun _ _ => jax rfl rfl (wrap_i64 (by omega))) ?_
            refine jc rfl rfl rfl (fun _ _ => jN rfl) ?_
            refine ju ?_
            refine ja ?_
            exact ZJ (i := (k, g, c)) (k + 1, g2, c2) ((.cons rfl (.cons rfl (.cons rfl (.cons rfl (.cons rfl (.cons rfl (.cons rfl (.cons rfl .nil))))))))) (fun w hh => ⟨⟨by simp only; omega, hto2.mono, by rw [putB_succ, if_pos hyes, List.length_append, ← Nat.add_assoc]; exact hs2⟩, hh⟩) (by simp only; omega)
          | false =>
            refine KG rfl rfl ?_
            refine jh ?_
            refine jg ?_
            refine jc rfl rfl rfl (fun _ _ => kx rfl) ?_
            refine ju ?_
            refine ja ?_
            refine jz ?_
            refine jB ?_
            refine je ?_
            refine je ?_
            refine jB ?_
            refine je ?_
            exact jn rfl (fun w hh => (.tmp rfl .nil)) (fun w hh => ⟨(false, g2, c2), rfl, ⟨hto2.mono, hs2⟩, hh⟩)
    · replace h2 := of_decide_eq_false h2
      have ek : k = cells.toNat := by omega
      subst ek
      refine jS ?_
      refine ji ?_
      refine ji ?_
      refine jD ?_
      refine ja ?_
      refine jh ?_
      refine jg ?_
      refine jc rfl rfl rfl (fun _ _ => kx rfl) ?_
      refine ju ?_
      refine ja ?_
      refine jz ?_
      exact jn rfl (fun w hh => (.tmp rfl .nil)) (fun w hh => ⟨(true, g, c), rfl, ⟨hto1, hs1⟩, hh⟩)

theorem it_next0 (w0 : World) (M : List Nat) (ro : List Sg) (b1 bd bs : Nat) (cells : Int) (v1 v3 v4 : Value) (fq rq : Option Addr) (nf fc rn rc : Nat) (reach : List Int) (s : State)
    (hrn : reach.length = rn) (hrq : AOK rn rq) (hok : nextOK cells reach (nf : Int) s) :
    ItX Tryz.prog 161 [ptr bs 0, ptr b1 0] ((nextL cells reach (nf : Int) s).map encS) w0 M ro (RdN b1 bd bs cells v1 v3 v4 fq rq nf fc rn rc reach s) := by
  intro γ Y St Sp l hrd hrdS hy g0 h0 w X0 hh
  have hvals : (nextL cells reach (nf : Int) s).map encS = (putL cells.toNat reach s.at_ nf []).map (encN s) := by
    unfold nextL
    rw [List.map_map, Int.toNat_natCast]
    rfl
  rw [hvals] at hy ⊢
  have hok' := hok
  obtain ⟨hn3, hcs, ha0, ha1, hre⟩ := hok'
  have hadd : addc s.after 1 = some (s.after + 1) := by unfold addc; rw [if_pos (by omega)]
  have RD : ∀ {S : List (Nat × Obj)} {w : World}, HV w0 M S [FRm (Y g0 ++ X0)] ro w → RdN b1 bd bs cells v1 v3 v4 fq rq nf fc rn rc reach s w := fun {S w} hh => hrd 0 g0 (S ++ X0) w h0 (HS.perm hh (by
    simp only [vbl, VR.bl, FRm, vown, List.nil_append, List.append_nil]
    rw [← List.append_assoc, ← List.append_assoc]
    exact List.Perm.append_right _ List.perm_append_comm))
  have hh0 : HV w0 M [] [FRm (Y g0 ++ X0)] ro w := by simpa [HV, vbl, VR.bl, FRm, vown] using hh
  refine YK (args := [.func (.yield l) #[] #[], ptr bs 0, ptr b1 0]) Tryz.func161 rfl Tryz.ntmps161 rfl (e := [(0, _), (1, _), (2, _)]) rfl hh0 ?_
  refine jh ?_
  refine jg ?_
  refine jP rfl rfl (fun by_ hb1 => ?_)
  refine ju ?_
  refine ja ?_
  refine jh ?_
  refine jI (ι := Nat) (fun bt => True) (fun bt => [(1, ptr bs 0), (2, ptr b1 0), (3, ptr by_ 0), (4, ptr bt 0)]) (fun bt => [(by_, .cells #[.func (.yield l) #[] #[]] 216 (0, 0)), toO bt s ⟨-1, -1, -1⟩]) (fun bt => [FRm (Y g0 ++ X0)]) ?_ ?_
  · refine j5 none (.free 0 (.hoist 1 (.free 2 (.br (.alt 3 (.free 4 (.one 5 (.one 6 .done))) (.alt 5 (.one 3 (.free 4 (.one 6 .done))) .nil)))))) _ rfl (by decide +kernel) (fun w k hh => hh.draw k) (fun w hh => hh) ?_
    refine jl rfl rfl rfl rfl (fun w _ => jJ 0 (Tryz.runUnderlying159 w) rfl (Tryz.sizeOf3 w) rfl) ?_
    refine jw rfl rfl rfl rfl (fun w hh => jL (Tryz.isAgg3 w) rfl (segCell (RD hh).f2 0 rfl)) ?_
    refine jl rfl rfl rfl rfl (fun _ _ => Kh hadd rfl rfl) ?_
    refine Y7 ?_
    refine yK rfl ?_ ?_
    · refine jd [] [] rfl rfl rfl rfl rfl rfl rfl (fun a w => Tryz.call142 a w) (fun w hh => jbm [] none 0 0 w (HV.callee (S0 := []) (vs0 := []) hh (roC ⟨segOK.nil, fun hx => absurd rfl hx⟩ roN)) rfl AOK.nil (Nat.le_refl 0) ZK) (fun l_1 h6 => ?_)
      refine jo (fun w hh => hh) ?_
      refine jl rfl rfl rfl rfl (fun _ _ => qW (vs := [(0, _), (1, _)]) (cells := [_, _, _, _]) rfl rfl) ?_
      refine jF rfl ?_
      refine jA (fun w => Tryz.zeroValue159 w) rfl (fun b_1 h7 => ?_)
      refine jo (fun w hh => hh.sel [1] [0] 0 (by decide) (by decide) rfl rfl rfl) ?_
      refine jF rfl ?_
      refine kE (us := #[_, _, _, _]) (cs' := [_, _, _, _]) (S' := [_, _]) 0 (fun w => Tryz.sizeOf159 w) rfl rfl rfl rfl rfl rfl rfl ?_
      refine jo (fun w hh => hh.sel [1] [0] 0 (by decide) (by decide) rfl rfl rfl) ?_
      refine jG ?_
      exact jj b_1 (trivial) ((.cons rfl (.cons rfl (.cons rfl (.cons rfl .nil))))) (fun w hh => hh.sel [1, 0] [0] 0 (by decide) (by decide) rfl rfl rfl)
    refine yK rfl ?_ ?_
    · refine jA (fun w => Tryz.zeroValue159 w) rfl (fun b_2 h8 => ?_)
      refine jo (fun w hh => hh.sel [1] [0] 0 (by decide) (by decide) rfl rfl rfl) ?_
      refine jF rfl ?_
      refine jd [] [] rfl rfl rfl rfl rfl rfl rfl (fun a w => Tryz.call142 a w) (fun w hh => jbm [] none 0 0 w (HV.callee (S0 := []) (vs0 := []) hh (roC ⟨segOK.nil, fun hx => absurd rfl hx⟩ roN)) rfl AOK.nil (Nat.le_refl 0) ZK) (fun l_2 h9 => ?_)
      refine jo (fun w hh => hh.sel [1] [0] 0 (by decide) (by decide) rfl rfl rfl) ?_
      refine jl rfl rfl rfl rfl (fun _ _ => qW (vs := [(0, _), (1, _)]) (cells := [_, _, _, _]) rfl rfl) ?_
      refine jF rfl ?_
      refine kE (us := #[_, _, _, _]) (cs' := [_, _, _, _]) (S' := [_, _]) 0 (fun w => Tryz.sizeOf159 w) rfl rfl rfl rfl rfl rfl rfl ?_
      refine jo (fun w hh => hh.sel [1] [0] 0 (by decide) (by decide) rfl rfl rfl) ?_
      refine jG ?_
      exact jj b_2 (trivial) ((.cons rfl (.cons rfl (.cons rfl (.cons rfl .nil))))) (fun w hh => hh.sel [1, 0] [0] 0 (by decide) (by decide) rfl rfl rfl)
    exact K5
  intro bt hj
  refine ja ?_
  refine jh ?_
  refine jg ?_
  refine jA (fun w => Tryz.zeroValue102 w) rfl (fun bp h10 => ?_)
  refine ju ?_
  refine ja ?_
  refine jh ?_
  refine jg ?_
  refine jc rfl rfl rfl (fun _ _ => k5 (u := #[]) (u' := #[_, _, _, _, _]) rfl rfl) ?_
  refine zR (cs' := #[_]) (S' := [_, _, _]) 0 (fun w => Tryz.sizeOf102 w) rfl rfl rfl rfl rfl rfl rfl ?_
  refine ju ?_
  refine ja ?_
  refine jg ?_
  refine jc rfl rfl rfl (fun w hh => jL (Tryz.isAgg102 w) rfl (hh.cell 0 rfl rfl)) ?_
  refine jae (ι := Bool × γ × Cells) (ret := fun z => .bool z.1) (H' := fun z w' => (ToOK nf [] z.2.2 ∧ if z.1 = true then St (0 + (putL cells.toNat reach s.at_ nf []).length) z.2.1 else Sp z.2.1) ∧ HV w0 M [toO bt s z.2.2, (bp, .cells #[putF b1 by_ bt bs bp] 102 (0, 0)), (by_, .cells #[.func (.yield l) #[] #[]] 216 (0, 0))] [FRm (Y z.2.1 ++ X0)] ro w') rfl rfl rfl rfl rfl rfl rfl (fun a w => Tryz.call162 a w) (fun w hh => ?_) ?_
  · exact put_ok Y St Sp l _ w0 M ro X0 b1 bd bs bt bp by_ cells v1 v3 v4 fq rq nf fc rn rc reach s hrn hrq hok hrd hy nf [] ⟨-1, -1, -1⟩ g0 0 w (by simp) ToOK.start (Seg.all _) h0 (hh.sel [2, 0, 1] [0] 0 (by decide) (by decide) rfl rfl rfl)
  intro ⟨b, g2, c2⟩
  refine Zs (fun w hh => hh.1) (fun hs2 => ?_)
  refine G.pre ?_ (fun w hh => hh.2)
  obtain ⟨_, hs2⟩ := hs2
  simp only at hs2
  refine ju ?_
  refine ja2 rfl (fun w hh => .nil) (fun w hh => ⟨_, rfl, g2, ?_, ?_⟩)
  · cases b with
    | true => exact .inl (by simpa using hs2)
    | false => exact .inr hs2
  · have h9 := hh
    simp only [HV, vbl, VR.bl, FRm, vown, List.nil_append, List.append_nil] at h9
    exact h9.dropN 3 rfl
theorem it_next (w0 : World) (M : List Nat) (ro : List Sg) (b1 bd bs : Nat) (cells : Int) (v1 v3 v4 : Value) (fq rq : Option Addr) (nf fc rn rc : Nat) (fords reach : List Int) (s : State)
    (hfn : fords.length = nf) (hrn : reach.length = rn) (hrq : AOK rn rq) (hok : nextOK cells reach (fords.length : Int) s) :
    ItX Tryz.prog 161 [ptr bs 0, ptr b1 0] ((nextL cells reach (fords.length : Int) s).map encS) w0 M ro (RdN b1 bd bs cells v1 v3 v4 fq rq nf fc rn rc reach s) := by
  subst hfn
  exact it_next0 w0 M ro b1 bd bs cells v1 v3 v4 fq rq _ fc rn rc reach s hrn hrq hok
end Go.Proofs.Wb

namespace Go.Proofs.Wb
open Go Go.Fw Go.Gx Go.Sb
set_option maxRecDepth 100000
theorem jaQ : Tryz.prog.eqGuardType Tryz.prog.depth 159 = false := by decide +kernel
theorem jaL : Tryz.prog.stoodInHeld 159 = false := by decide +kernel
theorem jau (x y : State) (w : World) : (Op.equalIn 10000 159 (.agg (RSta.cells x).toArray) (.agg (RSta.cells y).toArray)).run Tryz.prog w = .ok (decide (x = y)) w := by
  have h := equal_structA (P := Tryz.prog) (xs := (RSta.cells x).toArray) (ys := (RSta.cells y).toArray) Tryz.underlying159 jaL (.int rfl (fun w => Tryz.isAgg3 w) ⟨_, Tryz.underlying3⟩ rfl rfl (.arr (us := [x.at_.c0, x.at_.c1, x.at_.c2]) (vs := [y.at_.c0, y.at_.c1, y.at_.c2]) rfl (fun w => Tryz.isAgg157 w) (fun w => Tryz.sizeOf157 w) rfl rfl rfl rfl Tryz.underlying157 (fun w => Tryz.sizeOf3 w) (fun w => Tryz.isAgg3 w) Tryz.underlying3 .nil)) w
  rw [h]
  congr 1
  obtain ⟨x0, x1, x2, x3⟩ := x
  obtain ⟨y0, y1, y2, y3⟩ := y
  rw [Bool.eq_iff_iff]
  simp only [Bool.and_eq_true, decide_eq_true_eq, State.mk.injEq, Cells.mk.injEq, List.cons.injEq, and_true]
theorem zG : KeyOK Tryz.prog 159 (kR RSta) := KeyOK.rowA RSta (fun w => Tryz.runUnderlying159 w) (fun x => (.int (fun w => Tryz.isAgg3 w) (fun w => Tryz.runUnderlying3 w) rfl (.arr (us := [x.at_.c0, x.at_.c1, x.at_.c2]) (fun w => Tryz.isAgg157 w) (fun w => Tryz.sizeOf157 w) rfl rfl (fun w => Tryz.runUnderlying157 w) (fun w => Tryz.sizeOf3 w) (fun w => Tryz.isAgg3 w) (fun w => Tryz.runUnderlying3 w) .nil))) jau (fun x => by obtain ⟨a, b, c, d⟩ := x; simp [RSta, Instr.sameBits])
end Go.Proofs.Wb

namespace Go.Gx
open Go Go.Fw
def frm (L : List (Nat × Obj)) : VR := ⟨0, [], [], none, L⟩
section
variable {n : Nat} {ds : List Deferred} {e : EnvL} {P : Program} {Q : Exit → Act → World → Prop} {w0 : World} {M : List Nat} {S : List (Nat × Obj)} {vs : List VR} {ro : List Sg}
theorem jaw {α σ β ι ι' : Type} (L : List α) (enc : α → Value) {f : α → σ → Option (σ ⊕ β)} {s0 : σ} {o : σ ⊕ β} (hN : iterX f L s0 = some o) (pl : σ → ι → Prop) (mo : σ → ι → List (Nat × Obj)) (mv : σ → ι → List VR) (pl' : β → ι' → Prop) (mo' : β → ι' → List (Nat × Obj)) (mv' : β → ι' → List VR)
    (l0 : ι) (h0 : pl s0 l0) (hw0 : ∀ w, HV w0 M S vs ro w → HV w0 M (mo s0 l0) (mv s0 l0) ro w)
    (rd : World → Prop) (hrd : ∀ s l w, pl s l → HV w0 M (mo s l) (mv s l) ro w → rd w) (hrdR : ∀ b l w, pl' b l → HV w0 M (mo' b l) (mv' b l) ro w → rd w) {g : Operand} {p : Nat} {assign body : Code} {gf : FuncId} {cap : Array Value} {e1 : α → Nat → EnvL} (oa : α → Obj)
    (hit : ItX P gf cap.toList (L.map enc) w0 M ro rd) (hg : ev e g = some (.func (.func gf) #[] cap)) (hcall : ∀ args w, (callFunc gf args).run P w = .ok (.enter gf args) w) (hpn : Nat.blt p n = true)
    (ha : ∀ (x : α) (lr : Nat) (L : List (Nat × Obj)) (X : Act → World → Prop), (∀ b, G n [] (e1 x b) (HV w0 M [(b, oa x)] [frm L] ro) X) → G n [] ((p, enc x) :: e) (HV w0 M [] [frm L] ro) (assign.wpIn (fw (some lr)) 0 P (thenQ X (fun _ _ _ => False))))
    (hb : ∀ x s r l lr w1 b, pl s l → f x s = some r → (∀ b, r = .inr b → o = .inr b) → G n [] (e1 x b) (HV w1 (keys ((b, oa x) :: mo s l) (mv s l)) ((b, oa x) :: mo s l) (mv s l) ro) (body.wpIn (fw (some lr)) 0 P (bodyX w1 (keys ((b, oa x) :: mo s l) (mv s l)) r pl mo mv pl' mo' mv')))
    (next : ∀ s l D, o = .inl s → pl s l → G n (Go.Fw.mark D :: ds) e (HV w0 M ((D, .deferred (some [])) :: mo s l) (mv s l) ro) (Q .normal))
    (nextR : ∀ b l D, o = .inr b → pl' b l → G n (Go.Fw.mark D :: ds) e (HV w0 M ((D, .deferred (some [])) :: mo' b l) (mv' b l) ro) (Q .ret)) :
    G n ds e (HV w0 M S vs ro) ((Code.rangeFunc g #[p] assign body).wpIn (fw none) 0 P Q) := by
  refine G.pre (H' := HV w0 M (mo s0 l0) (mv s0 l0) ro) ?_ hw0
  intro a w he hh
  refine wpIn_rangeFunc ?_
  intro fn _
  have hgv := he.eval hg
  have hh0 : HS w0 M (mo s0 l0 ++ vbl (mv s0 l0)) ro w := hh
  have h1 := hh0.alloc (.deferred (some []))
  have h2 := h1.alloc (lrec fn a.tmps #[p] assign body w.heap.size .ready none)
  have hsz : (w.alloc (.deferred (some []))).heap.size = w.heap.size + 1 := by simp
  rw [hsz] at h2
  generalize hD : w.heap.size = D at *
  have hD0 : w0.heap.size ≤ D := by rw [← hD]; exact hh0.size
  refine ⟨D + 1, [Go.Fw.mark D], _, { target := .fn (.func gf) cap, args := #[.func (.yield (D + 1)) #[] #[]] }, (w.alloc (.deferred (some []))).alloc (lrec fn a.tmps #[p] assign body D .ready none), gf, #[.func (.yield (D + 1)) #[] #[]] ++ cap, (w.alloc (.deferred (some []))).alloc (lrec fn a.tmps #[p] assign body D .ready none), (by rw [← hD]; exact run_enterLoop_outer fn a.tmps #[p] assign body), ?_, fun _ _ => trivial, ?_, fun h => by simp [fw] at h, ?_⟩
  · subst hD
    simp only [resolve, hgv]
    simp [Deferred.ofValue, Act.eval]
    rfl
  · simp [invoke, hcall]
  have key := hit (γ := (σ × ι) ⊕ (β × ι')) (fun c => match c with
      | .inl (s, l) => (D + 1, lrec fn a.tmps #[p] assign body D .ready none) :: (D, .deferred (some [])) :: (mo s l ++ vbl (mv s l))
      | .inr (b, l) => (D + 1, lrec fn a.tmps #[p] assign body D .done (some .ret)) :: (D, .deferred (some [])) :: (mo' b l ++ vbl (mv' b l)))
    (fun k c => match c with
      | .inl (s, l) => iterX f (L.take k) s0 = some (.inl s) ∧ pl s l
      | .inr _ => False)
    (fun c => match c with
      | .inl _ => False
      | .inr (b, l) => o = .inr b ∧ pl' b l) (D + 1)
    (fun k c X w hS hX => by
      cases c with
      | inr c => exact hS.elim
      | inl c =>
        exact hrd c.1 c.2 w hS.2 (hX.drop (List.Sublist.cons _ (List.Sublist.cons _ (List.sublist_append_left _ _)))))
    (fun c X w hS hX => by
      cases c with
      | inl c => exact hS.elim
      | inr c =>
        exact hrdR c.1 c.2 w hS.2 (hX.drop (List.Sublist.cons _ (List.Sublist.cons _ (List.sublist_append_left _ _)))))
    (fun j v c X w hv hS hX => ?_) (.inl (s0, l0)) ⟨by simp [iterX], h0⟩ _ [] (by simpa using h2)
  · have hargs : ([Value.func (.yield (D + 1)) #[] #[]] ++ cap.toList).toArray = #[.func (.yield (D + 1)) #[] #[]] ++ cap := by apply Array.toList_inj.1; simp
    rw [hargs] at key
    refine callsIn_fw.2 (key.mono ?_)
    rintro en w' ⟨v, rfl, c, hc, hx⟩
    simp only [List.append_nil] at hx
    cases c with
    | inl c =>
      obtain ⟨s, l⟩ := c
      rcases hc with ⟨hc1, hc2⟩ | hc
      · rw [List.length_map, List.take_length, hN] at hc1
        simp only [Option.some.injEq] at hc1
        refine ⟨none, _, run_endLoop (hx.get 0 rfl) (by simp), ?_⟩
        have hfin := (hx.put 0 (lrec fn a.tmps #[p] assign body D .exhausted none) rfl rfl).dropN 1 rfl
        exact next s l D hc1 hc2 ⟨a.tmps, [Go.Fw.mark D] ++ a.defers⟩ _ ⟨he.size, by simp [he.defs], he.get⟩ hfin
      · exact hc.elim
    | inr c =>
      obtain ⟨b, l⟩ := c
      rcases hc with hc | ⟨hc1, hc2⟩
      · exact hc.elim
      · refine ⟨some .ret, _, run_endLoop (hx.get 0 rfl) (by simp), ?_⟩
        have hfin := (hx.put 0 (lrec fn a.tmps #[p] assign body D .exhausted (some .ret)) rfl rfl).dropN 1 rfl
        exact wpIn_ret (nextR b l D hc1 hc2 ⟨a.tmps, [Go.Fw.mark D] ++ a.defers⟩ _ ⟨he.size, by simp [he.defs], he.get⟩ hfin)
  · cases c with
    | inr c => exact hS.elim
    | inl c =>
    obtain ⟨s, l⟩ := c
    obtain ⟨hS1, hS2⟩ := hS
    rw [List.getElem?_map, Option.map_eq_some_iff] at hv
    obtain ⟨x, hx, rfl⟩ := hv
    obtain ⟨r, hr1, hr2, hr3⟩ := iterX_step hN hx hS1
    have hl := hX.get 0 rfl
    refine ⟨fn, _, assign, body, run_yield (P := P) (args := #[enc x]) hl (by simp), ?_⟩
    refine roundIn_of_wpIn (F := fw none) trivial ?_
    rw [← thenQ_eq]
    have hE' : Env n [] ((p, enc x) :: e) ⟨(#[p].zip #[enc x]).foldl (fun t (y : Nat × Value) => t.setIfInBounds y.1 y.2) a.tmps, []⟩ := by
      have hz := yenv_ok (n := n) [p] [enc x] e a.tmps rfl (by intro q hq; simp at hq; subst hq; simpa using hpn) ⟨he.size, rfl, he.get⟩
      simpa [yenv] using hz
    have hX0 : HV w0 M [] [frm ((D + 1, lrec fn a.tmps #[p] assign body D .ready none) :: (D, .deferred (some [])) :: (mo s l ++ vbl (mv s l)) ++ X)] ro w := by
      simpa [HV, vbl, VR.bl, frm, vown] using hX
    refine ha x _ _ _ (fun b => ?_) _ w hE' hX0
    intro a1 w1 he1 hh1
    have hh1' : HS w0 M ((b, oa x) :: (D + 1, lrec fn a.tmps #[p] assign body D .ready none) :: (D, .deferred (some [])) :: ((mo s l ++ vbl (mv s l)) ++ X)) ro w1 := by
      simpa [HV, vbl, VR.bl, frm, vown] using hh1
    have hl1 := hh1'.get 1 rfl
    refine ⟨_, run_beginRound hl1 rfl, ?_⟩
    have hbusy := hh1'.put 1 (lrec fn a.tmps #[p] assign body D .busy none) rfl rfl
    obtain ⟨w2, hw2⟩ : ∃ w2, w2 = w1.putObj (D + 1) (lrec fn a.tmps #[p] assign body D .busy none) := ⟨_, rfl⟩
    rw [← hw2] at hbusy
    show Code.wpIn (fw (some (D + 1))) 0 P body _ a1 (w1.putObj (D + 1) (lrec fn a.tmps #[p] assign body D .busy none))
    rw [← hw2]
    have hh2 : HS w0 M ((b, oa x) :: ((mo s l ++ vbl (mv s l)) ++ ((D + 1, lrec fn a.tmps #[p] assign body D .busy none) :: (D, .deferred (some [])) :: X))) ro w2 := HS.perm hbusy (by
      show ((b, oa x) :: (D + 1, lrec fn a.tmps #[p] assign body D .busy none) :: (D, Obj.deferred (some [])) :: ((mo s l ++ vbl (mv s l)) ++ X)).Perm _
      exact List.Perm.cons _ (List.perm_middle.trans (List.Perm.cons _ List.perm_middle)).symm)
    have hh3 : HV w0 M (((b, oa x) :: mo s l) ++ ((D + 1, lrec fn a.tmps #[p] assign body D .busy none) :: (D, .deferred (some [])) :: X)) (mv s l ++ []) ro w2 := HS.perm hh2 (by
      simp only [List.append_nil, List.cons_append]
      refine List.Perm.cons _ ?_
      rw [List.append_assoc, List.append_assoc]
      exact List.Perm.append_left _ List.perm_append_comm)
    have hc := HV.callee (S0 := (b, oa x) :: mo s l) (vs0 := mv s l) (ro0 := ro) hh3 (fun t ht => hh3.rsepM ht)
    refine Go.wpIn_mono (hb x s r l _ w2 b hS2 hr1 hr3 a1 w2 he1 hc) ?_
    have back : ∀ (S1 : List (Nat × Obj)) (vs1 : List VR) (w3 : World), HV w2 (keys ((b, oa x) :: mo s l) (mv s l)) S1 vs1 [] w3 → HS w0 M ((D + 1, lrec fn a.tmps #[p] assign body D .busy none) :: (D, .deferred (some [])) :: ((S1 ++ vbl vs1) ++ X)) ro w3 := fun S1 vs1 w3 hv' => by
      have hb2 := HV.back hh3 hv'
      refine HS.perm hb2 ?_
      simp only [List.append_nil]
      rw [List.append_assoc]
      refine (List.Perm.append_left _ List.perm_append_comm).trans ?_
      rw [← List.append_assoc]
      exact (List.perm_middle.trans (List.Perm.cons _ List.perm_middle))
    rintro ex a2 w3 (⟨rfl, s', l', rfl, hp', hv'⟩ | ⟨rfl, b', l', rfl, hp', hv'⟩)
    · have hb3 := back _ _ _ hv'
      refine ⟨_, _, run_endRound none (hb3.get 0 rfl), .inl ⟨rfl, .inl (s', l'), ⟨hr2 s' rfl, hp'⟩, ?_⟩⟩
      exact hb3.put 0 (lrec fn a.tmps #[p] assign body D .ready none) rfl rfl
    · have hb3 := back _ _ _ hv'
      refine ⟨_, _, run_endRound (some .ret) (hb3.get 0 rfl), .inr ⟨rfl, .inr (b', l'), ⟨hr3 b' rfl, hp'⟩, ?_⟩⟩
      exact hb3.put 0 (lrec fn a.tmps #[p] assign body D .done (some .ret)) rfl rfl
theorem Q5 {α σ ι : Type} (L : List α) (enc : α → Value) {f : α → σ → Option σ} {s0 : σ} {o : σ} (hN : iterL f L s0 = some o) (pl : σ → ι → Prop) (mo : σ → ι → List (Nat × Obj)) (mv : σ → ι → List VR)
    (l0 : ι) (h0 : pl s0 l0) (hw0 : ∀ w, HV w0 M S vs ro w → HV w0 M (mo s0 l0) (mv s0 l0) ro w)
    (rd : World → Prop) (hrd : ∀ s l w, pl s l → HV w0 M (mo s l) (mv s l) ro w → rd w) {g : Operand} {p : Nat} {assign body : Code} {gf : FuncId} {cap : Array Value} {e1 : α → Nat → EnvL} (oa : α → Obj)
    (hit : ItX P gf cap.toList (L.map enc) w0 M ro rd) (hg : ev e g = some (.func (.func gf) #[] cap)) (hcall : ∀ args w, (callFunc gf args).run P w = .ok (.enter gf args) w) (hpn : Nat.blt p n = true)
    (ha : ∀ (x : α) (lr : Nat) (L : List (Nat × Obj)) (X : Act → World → Prop), (∀ b, G n [] (e1 x b) (HV w0 M [(b, oa x)] [frm L] ro) X) → G n [] ((p, enc x) :: e) (HV w0 M [] [frm L] ro) (assign.wpIn (fw (some lr)) 0 P (thenQ X (fun _ _ _ => False))))
    (hb : ∀ x s r l lr w1 b, pl s l → f x s = some r → G n [] (e1 x b) (HV w1 (keys ((b, oa x) :: mo s l) (mv s l)) ((b, oa x) :: mo s l) (mv s l) ro) (body.wpIn (fw (some lr)) 0 P (bodyL w1 (keys ((b, oa x) :: mo s l) (mv s l)) r pl mo mv)))
    (next : ∀ l D, pl o l → G n (Go.Fw.mark D :: ds) e (HV w0 M ((D, .deferred (some [])) :: mo o l) (mv o l) ro) (Q .normal)) :
    G n ds e (HV w0 M S vs ro) ((Code.rangeFunc g #[p] assign body).wpIn (fw none) 0 P Q) := by
  refine jaw (β := Empty) (ι' := Unit) (f := fun x s => (f x s).bind fun s' => some (.inl s')) (s0 := s0) (o := .inl o) L enc (by rw [iterX_L, hN]; rfl) pl mo mv (fun _ _ => False) (fun _ _ => []) (fun _ _ => []) l0 h0 hw0 rd hrd (fun _ _ _ h => h.elim) oa hit hg hcall hpn ha ?_ ?_ (fun _ _ _ _ h => h.elim)
  · intro x s r l lr w1 b hp hf _
    cases hfs : f x s with
    | none => rw [hfs] at hf; simp at hf
    | some s' =>
      rw [hfs] at hf
      simp only [Option.bind_some, Option.some.injEq] at hf
      subst hf
      refine (hb x s s' l lr w1 b hp hfs).mono (fun a w h => Go.wpIn_mono h ?_)
      rintro ex a2 w2 ⟨rfl, s2, l2, rfl, h2, h3⟩
      exact .inl ⟨rfl, s', l2, rfl, h2, h3⟩
  · intro s l D ho hp
    injection ho with ho
    subst ho
    exact next l D hp
end
end Go.Gx

namespace Go.Gx
open Go Go.Fw
section
variable {P : Program} {e : EnvL} {w : World} {dst : Option Nat} {ty : TypeId} {pos : String} {after : Array Edge} {g : Option (Nat × Bool)}
end
section
variable {w0 : World} {M : List Nat} {S : List (Nat × Obj)} {vs : List VR} {ro : List Sg}
end
end Go.Gx
namespace Go.Gx
open Go Go.Fw
section
variable {P : Program} {e : EnvL} {w : World} {dst : Option Nat} {ty : TypeId} {pos : String} {after : Array Edge} {g : Option (Nat × Bool)}
theorem jaV {t u E : TypeId} {x y : Operand} {a : Addr} {n c : Nat} (hu : (underlying t).run P w = .ok (.slice E) w) (hx : ev e x = some (.slice (some a) n c)) (hy : ev e y = some (.slice none 0 0)) :
    Val P e w ⟨dst, .binOp .eql t x y u, ty, pos, after, g⟩ (.bool false) := fun n' ds ac he => by
  have h2 : (eqGuard .eql t x y (.slice (some a) n c) (.slice none 0 0)).run P w = .ok () w := rfl
  have h4 : (binOp .eql t (.slice (some a) n c) (.slice none 0 0)).run P w = .ok (.bool false) w := by
    simp only [binOp_eql_sl, Sem.run_bind, run_eqNil hu, Result.andThen_ok, Sem.run_pure]
    rfl
  simp only [execOp, he.eval hx, he.eval hy, Sem.run_bind, h2, Result.andThen_ok, h4, Sem.run_pure]
theorem jaY {t u E : TypeId} {x y : Operand} {n c : Nat} (hu : (underlying t).run P w = .ok (.slice E) w) (hx : ev e x = some (.slice none n c)) (hy : ev e y = some (.slice none 0 0)) :
    Val P e w ⟨dst, .binOp .eql t x y u, ty, pos, after, g⟩ (.bool true) := fun n' ds ac he => by
  have h2 : (eqGuard .eql t x y (.slice none n c) (.slice none 0 0)).run P w = .ok () w := rfl
  have h4 : (binOp .eql t (.slice none n c) (.slice none 0 0)).run P w = .ok (.bool true) w := by
    simp only [binOp_eql_sl, Sem.run_bind, run_eqNil hu, Result.andThen_ok, Sem.run_pure]
    rfl
  simp only [execOp, he.eval hx, he.eval hy, Sem.run_bind, h2, Result.andThen_ok, h4, Sem.run_pure]
end
theorem AOK.len0 {n : Nat} (h : AOK n none) : n = 0 := by
  rcases Nat.eq_zero_or_pos n with h0 | h0
  · exact h0
  · obtain ⟨b, o, h1⟩ := h h0
    exact absurd h1 (by simp)
theorem AOK.nilL {α : Type} {l : List α} {n : Nat} (h : AOK n none) (hn : l.length = n) : l = [] := List.length_eq_zero_iff.1 (by rw [hn, h.len0])
end Go.Gx

namespace Go.Proofs.Wb
set_option maxHeartbeats 4000000
set_option maxRecDepth 100000
open Go Go.Fw Go.Gx Go.Sb
open Tryz
set_option linter.unusedVariables false
theorem QH : (Tryz.prog.info? 3).map (fun i => (i.zero, i.size, i.bytes)) = some (some (.int .i64 0), 1, 8) := by kernel_rfl
theorem ZX : (Tryz.prog.info? 22).map (fun i => (i.zero, i.size, i.bytes)) = some (some (.slice none 0 0), 1, 24) := by kernel_rfl
theorem Zw : (Tryz.prog.info? 55).map (fun i => (i.zero, i.size, i.bytes)) = some (some (.agg #[.int .i64 0, .int .i64 0, .bool false]), 3, 24) := by kernel_rfl
theorem Z8 : (Tryz.prog.info? 66).map (fun i => (i.zero, i.size, i.bytes)) = some (some (.int .i64 0), 1, 8) := by kernel_rfl
theorem Z2 : (Tryz.prog.info? 98).map (fun i => (i.zero, i.size, i.bytes)) = some (some (.agg #[.int .i64 0, .int .i64 0, .int .i64 0]), 3, 24) := by kernel_rfl
theorem jaK : (Tryz.prog.info? 155).map (fun i => (i.zero, i.size, i.bytes)) = some (some (.slice none 0 0), 1, 24) := by kernel_rfl
theorem jag : (Tryz.prog.info? 159).map (fun i => (i.zero, i.size, i.bytes)) = some (some (.agg #[.int .i64 0, .int .i64 0, .int .i64 0, .int .i64 0]), 4, 32) := by kernel_rfl
theorem jbn : (Tryz.prog.info? 55).map (fun i => i.size) = some 3 := by kernel_rfl
theorem jba : Tryz.prog.eqGuardType Tryz.prog.depth 50 = false := by decide +kernel
theorem jbb : Tryz.prog.stoodInHeld 50 = false := by decide +kernel
theorem jbf (x y : Span) (w : World) : (Op.equalIn 10000 50 (.agg (RSp.cells x).toArray) (.agg (RSp.cells y).toArray)).run Tryz.prog w = .ok (decide (x = y)) w := by
  have h := equal_struct (xs := (RSp.cells x).toArray) (ys := (RSp.cells y).toArray) underlying50 jbb (.int Y (fun w => isAgg3 w) ⟨_, underlying3⟩ Y Y (.int Y (fun w => isAgg3 w) ⟨_, underlying3⟩ Y Y .nil)) w
  rw [h]
  congr 1
  cases x; cases y
  rw [Bool.eq_iff_iff]
  simp only [Bool.and_eq_true, decide_eq_true_eq, Span.mk.injEq, and_true]
theorem jaF : Tryz.prog.eqGuardType Tryz.prog.depth 55 = false := by decide +kernel
theorem ja6 : Tryz.prog.stoodInHeld 55 = false := by decide +kernel
theorem jaW (x y : Sight) (w : World) : (Op.equalIn 10000 55 (.agg (RSi.cells x).toArray) (.agg (RSi.cells y).toArray)).run Tryz.prog w = .ok (decide (x = y)) w := by
  have h := equal_struct (xs := (RSi.cells x).toArray) (ys := (RSi.cells y).toArray) underlying55 ja6 (.int Y (fun w => isAgg3 w) ⟨_, underlying3⟩ Y Y (.int Y (fun w => isAgg3 w) ⟨_, underlying3⟩ Y Y (.bool Y (fun w => isAgg4 w) underlying4 Y Y .nil))) w
  rw [h]
  congr 1
  cases x; cases y
  rw [Bool.eq_iff_iff]
  simp only [Bool.and_eq_true, decide_eq_true_eq, Sight.mk.injEq, and_true]
structure Ka where
  r0_0 : Int
  r0_1 : Int
  r0_2 : (List Int)
  r0_3 : (List Sand)
def kC (tides0 : Int) (sights1 : (List Sight)) : Option Ka :=
 some (⟨6, tides0, [1, 4], [(⟨(⟨0, 2⟩ : Span), 1⟩ : Sand)]⟩ : Ka)
theorem qH (tides0 : Int) (sights1 : (List Sight)) (qa0 : Option Addr) (na0 ca0 : Nat) (w : World) (hw : HV w (keys [] []) [] [] [(aB qa0, aO qa0, RSi.enc sights1)] w) (hna0 : sights1.length = na0) (hqa0 : AOK na0 qa0) (hla0 : na0 ≤ ca0) {res : Ka} (hm : kC tides0 sights1 = some res) :
    Calls Tryz.prog 70 #[.int .i64 tides0, .slice qa0 na0 ca0] w (fun en w' => ∃ l : VL × VL, en = .returned (.agg #[.int .i64 res.r0_0, .int .i64 res.r0_1, sL l.1, sL l.2, .slice qa0 na0 ca0]) ∧ (VOK 1 l.1.n l.1.cap (RI.enc res.r0_2) l.1.sp l.1.q ∧ VOK 3 l.2.n l.2.cap (RSa.enc res.r0_3) l.2.sp l.2.q) ∧ HV w (keys [] []) [] [vL 3 l.1 (RI.enc res.r0_2), vL 98 l.2 (RSa.enc res.r0_3)] [] w') := by
  unfold kC at hm
  refine yd func70 Y ntmps70 Y (e := [(0, _), (1, _)]) Y hw (jt ?_)
  refine jA (fun w => zeroValue26 w) Y (fun b h3 => ?_)
  refine qs (jk Y Y ?_)
  refine q4 RI [1, 4] (ps := [(0, _), (1, _)]) (cells := [_, _]) (fun w => runUnderlying22 w) (fun w => sizeOf3 w) (fun w => zeroValue3 w) Y Y Y Y Y Y Y Y (fun L h4 => ?_)
  refine jc Y Y Y (fun _ _ => qW (vs := [(0, _), (1, _)]) (cells := [_, _]) Y Y) (jc Y Y Y (fun _ _ => qW (vs := [(0, _), (1, _)]) (cells := [_, _, _]) Y Y) ?_)
  refine q4 RSa [(⟨(⟨0, 2⟩ : Span), 1⟩ : Sand)] (ps := [(0, _)]) (cells := [_, _, _]) (fun w => runUnderlying23 w) (fun w => sizeOf98 w) (fun w => zeroValue98 w) Y Y Y Y Y Y Y Y (fun L_1 h5 => ?_)
  refine jk Y Y (jc Y Y Y (fun _ _ => qW (vs := [(0, _), (1, _), (2, _), (3, _), (4, _)]) (cells := [_, _, _, _, _]) Y Y) (kE (us := #[_, _, _, _, _]) (cs' := [_, _, _, _, _]) (S' := [_]) 0 (fun w => sizeOf26 w) Y Y Y Y Y Y Y (jq (jz ?_))))
  obtain rfl := sj hm
  refine jn Y (fun w hh => (.cell Y (loadVar_agg (vs := [_, _, _, _, _]) (isAgg26 _) (sizeOf26 _) (hh.cells 0 Y Y)) .nil)) (fun w hh => ⟨(L, L_1), rfl, ⟨h4, h5⟩, hh.se [] [1, 0] 1 Y Y Y rfl⟩)
def qw (n0 : Int) (lo1 : Int) (hi2 : Int) : Option Bool :=
 (if lo1 ≤ n0 then
 (some (decide (n0 ≤ hi2))) else
 (some false)).bind fun o =>
 some o
theorem JA (n0 : Int) (lo1 : Int) (hi2 : Int)  (w : World) (hw : HV w (keys [] []) [] [] [] w)  {res : Bool} (hm : qw n0 lo1 hi2 = some res) :
    Calls Tryz.prog 106 #[.int .i64 n0, .int .i64 lo1, .int .i64 hi2] w (fun en w' => ∃ l : Unit, en = .returned (.bool res) ∧ (True) ∧ HV w (keys [] []) [] [] [] w') := by
  unfold qw at hm
  refine yd func106 Y ntmps106 Y (e := [(0, _), (1, _), (2, _)]) Y hw (jt (jp Y Y (jq (jh ?_))))
  obtain ⟨o, h1, h2⟩ := bindO hm
  refine jI (ι := Unit) (fun l => True) (fun l => [(6, .bool o)]) (fun l => []) (fun l => []) ?_ ?_
  ·replace hm := h1
   refine jg (jk Y Y (jk Y Y (jc Y Y Y (fun _ _ => YI Y Y) (jk Y Y ?_))))
   refine jQ 10 Y (fun h3 => ?_) (fun h3 => ?_)
   ·replace hm := ifD h3 hm
    refine jb Y Y (jk Y Y (jb Y Y (jk Y Y (jb Y Y (jc Y Y Y (fun _ _ => Zo Y Y) (yx Y Y Y (jp Y Y ?_)))))))
    refine ju ?_
    obtain rfl := sj hm
    exact jj () (trivial) (sE Y) (fun w hh => hh)
   replace hm := ifE h3 hm
   refine g_k Y Y Y Y (g_k Y Y Y Y (g_k Y Y Y Y (y4 Y Y Y (jp Y Y (ju ?_)))))
   obtain rfl := sj hm
   exact jj () (trivial) (sE Y) (fun w hh => hh)
  intro l hj
  replace hm := h2
  refine ja (jz ?_)
  obtain rfl := sj hm
  refine jn Y (fun w hh => (.tmp Y .nil)) (fun w hh => ⟨(), rfl, trivial, hh⟩)
def J6 (s0 : Sand) : Option Bool :=
 (qw s0.reach 1 2).bind fun t5 =>
 some t5
theorem YY (s0 : Sand)  (w : World) (hw : HV w (keys [] []) [] [] [] w)  {res : Bool} (hm : J6 s0 = some res) :
    Calls Tryz.prog 133 #[.agg #[.int .i64 s0.span.lo, .int .i64 s0.span.hi, .int .i64 s0.reach]] w (fun en w' => ∃ l : Unit, en = .returned (.bool res) ∧ (True) ∧ HV w (keys [] []) [] [] [] w') := by
  unfold J6 at hm
  refine yd func133 Y ntmps133 Y (e := [(0, _)]) Y hw (jt ?_)
  refine jP Y Y (fun b h1 => ?_)
  refine jp Y Y (qs (qT 2 runUnderlying98 Y sizeOf3 Y Y (qq 0 isAgg3 Y Y Y Y ?_)))
  obtain ⟨t5, h2, hm⟩ := bindO hm
  refine jd [] [] Y Y Y Y Y Y Y call106 (fun w hh => JA s0.reach 1 2 w (HV.callee (S0 := []) (vs0 := []) hh roN)  h2) (fun l h3 => ?_)
  refine jp Y Y (jq (jz ?_))
  obtain rfl := sj hm
  refine jn Y (fun w hh => (.tmp Y .nil)) (fun w hh => ⟨(), rfl, trivial, hh.se [] [] 0 Y Y Y rfl⟩)
def kJ (x0 : Sand) : Option Bool :=
 (J6 x0).bind fun t6 =>
 some (!t6)
theorem KV (x0 : Sand) (rb : Nat) (w : World) (hw : HV w (keys [] []) [] [] [(rb, 0, [.func (.func 133) #[] #[]])] w)  {res : Bool} (hm : kJ x0 = some res) :
    Calls Tryz.prog 175 #[.agg #[.int .i64 x0.span.lo, .int .i64 x0.span.hi, .int .i64 x0.reach], ptr rb 0] w (fun en w' => ∃ l : Unit, en = .returned (.bool res) ∧ (True) ∧ HV w (keys [] []) [] [] [] w') := by
  unfold kJ at hm
  refine yd func175 Y ntmps175 Y (e := [(0, _), (1, _)]) Y hw (jt ?_)
  refine jP Y Y (fun b h1 => ?_)
  refine jp Y Y (qs (jc Y Y Y (fun w hh => jL (isAgg188 w) Y (segCell (hh.seg 0 Y) 0 Y)) (Jp [_, _, _] 0 isAgg98 sizeOf98 Y Y Y Y ?_)))
  obtain ⟨t6, h2, hm⟩ := bindO hm
  refine jd [] [] Y Y Y Y Y Y Y call133 (fun w hh => YY x0 w (HV.callee (S0 := []) (vs0 := []) hh roN)  h2) (fun l h3 => ?_)
  refine jc Y Y Y (fun _ _ => ze Y) (jp Y Y (jq (jz ?_)))
  obtain rfl := sj hm
  refine jn Y (fun w hh => (.tmp Y .nil)) (fun w hh => ⟨(), rfl, trivial, hh.se [] [] 1 Y Y Y rfl⟩)
def k8 (s0 : (List Sand)) (s : Int) : Option (Int ⊕ (Unit ⊕ Int)) :=
 if s < (s0.length : Int) then
 ((ix s0 s).bind fun t14 =>
 (kJ (⟨(⟨t14.span.lo, t14.span.hi⟩ : Span), t14.reach⟩ : Sand)).bind fun t16 =>
 if t16 = true then
 (some (.inr (.inr s))) else
 ((addc s 1).bind fun t18 =>
 some (.inl t18))) else
 (some (.inr (.inl ())))
def kw (s0 : (List Sand)) : Option Int :=
 (iterM FU (k8 s0) 0).bind fun o =>
 oc o (fun j => some (-1)) (fun r_1 => some r_1)
theorem Ke (s0 : (List Sand)) (qa0 : Option Addr) (na0 ca0 : Nat) (rb : Nat) (w : World) (hw : HV w (keys [] []) [] [] [(aB qa0, aO qa0, RSa.enc s0), (rb, 0, [.func (.func 133) #[] #[]])] w) (hna0 : s0.length = na0) (hqa0 : AOK na0 qa0) (hla0 : na0 ≤ ca0)  {res : Int} (hm : kw s0 = some res) :
    Calls Tryz.prog 202 #[.slice qa0 na0 ca0, .func (.func 175) #[] #[ptr rb 0]] w (fun en w' => ∃ l : Unit, en = .returned (.int .i64 res) ∧ (True) ∧ HV w (keys [] []) [] [] [] w') := by
  unfold kw at hm
  refine yd func202 Y ntmps202 Y (e := [(0, _), (1, _)]) Y hw (jt (jp Y Y (jq (jh (jt (jk Y Y (jc Y Y Y (fun w _ => jR hna0 (runUnderlying23 w) Y) ?_)))))))
  refine jk Y Y (jq ?_)
  obtain ⟨o, h1, h2⟩ := bindO hm
  refine jI (ι := Unit) (fun j => o = .inl j) (fun j => []) (fun j => []) (fun j => []) ?_ ?_
  ·replace hm := h1
   refine jm ?_
   refine jM (ι := Unit) hm (fun s l => True) (fun s l => [(0, .slice qa0 na0 ca0), (1, .func (.func 175) #[] #[ptr rb 0]), (7, .int .i64 (s0.length : Int)), (8, .int .i64 s)]) (fun s l => []) (fun s l => []) () (trivial) (sE Y) (fun w hh => hh) (fun s l r hpl hm h3 => ?_)
   unfold k8 at hm
   refine jt (Jo Y Y Y (jq (jh ?_)))
   refine jr Y (fun h4 => ?_) (fun h4 => ?_)
   ·replace hm := ifD h4 hm
    refine js (ja (jh (jm (jt (jk Y Y (jp Y Y (qs ?_)))))))
    refine jk Y Y (jk Y Y (jk Y Y ?_))
    obtain ⟨t14, h5, hm⟩ := bindO hm
    refine jc Y Y Y (fun w _ => qx h5 (runUnderlying23 w) (sizeOf98 w) Y Y hna0 hqa0) ?_
    refine jc Y Y Y (fun w hh => Jy RSa 0 [.int .i64 t14.span.lo, .int .i64 t14.span.hi, .int .i64 t14.reach] h5 (isAgg98 w) (sizeOf98 w) Y (hh.seg 0 Y) Y (Nat.add_zero _).symm) ?_
    obtain ⟨t16, h6, hm⟩ := bindO hm
    refine jd [] [] Y Y Y Y Y Y Y call175 (fun w hh => KV (⟨(⟨t14.span.lo, t14.span.hi⟩ : Span), t14.reach⟩ : Sand) rb w (HV.callee (S0 := []) (vs0 := []) hh (roR hh 1 Y roN))  h6) (fun l_1 h7 => ?_)
    refine jq ?_
    refine jr Y (fun h8 => ?_) (fun h8 => ?_)
    ·replace hm := ifT (h8) hm
     refine jt (jk Y Y (jp Y Y (jq (jz (jB (je (je ?_)))))))
     refine jB ?_
     obtain rfl := sj hm
     have hbo := h3 _ Y
     subst hbo
     refine je ?_
     replace hm := ocR h2
     refine je ?_
     obtain rfl := sj hm
     refine jn Y (fun w hh => (.tmp Y .nil)) (fun w hh => ⟨(), rfl, trivial, hh.se [] [] 2 Y Y Y rfl⟩)
    replace hm := ifN h8 hm
    refine js (jx (ja (jg ?_)))
    obtain ⟨t18, h9, hm⟩ := bindO hm
    refine JG h9 Y Y Y (jk Y Y (ju ?_))
    obtain rfl := sj hm
    refine ja ?_
    exact jC _ () Y (trivial) (sE Y) (fun w hh => hh)
   replace hm := ifE h4 hm
   refine jS (ji (ji (jD ?_)))
   obtain rfl := sj hm
   have hbo := h3 _ Y
   subst hbo
   exact jj () (Y) (.nil) (fun w hh => hh)
  intro j hj
  have h10 := hj
  subst h10
  replace hm := ocL h2
  refine ja (jt (jp Y Y (jq (jz ?_))))
  obtain rfl := sj hm
  refine jn Y (fun w hh => (.tmp Y .nil)) (fun w hh => ⟨(), rfl, trivial, hh.se [] [] 2 Y Y Y rfl⟩)
def kh (s0 : (List Sand)) : Option Bool :=
 (kw s0).bind fun t7 =>
 some (decide (0 ≤ t7))
theorem JC (s0 : (List Sand)) (qa0 : Option Addr) (na0 ca0 : Nat) (rb : Nat) (w : World) (hw : HV w (keys [] []) [] [] [(aB qa0, aO qa0, RSa.enc s0), (rb, 0, [.func (.func 133) #[] #[]])] w) (hna0 : s0.length = na0) (hqa0 : AOK na0 qa0) (hla0 : na0 ≤ ca0)  {res : Bool} (hm : kh s0 = some res) :
    Calls Tryz.prog 174 #[.slice qa0 na0 ca0, .func (.func 175) #[] #[ptr rb 0]] w (fun en w' => ∃ l : Unit, en = .returned (.bool res) ∧ (True) ∧ HV w (keys [] []) [] [] [] w') := by
  unfold kh at hm
  refine yd func174 Y ntmps174 Y (e := [(0, _), (1, _)]) Y hw (jt (jp Y Y (qs (jk Y Y (jk Y Y ?_)))))
  obtain ⟨t7, h1, hm⟩ := bindO hm
  refine jd [] [] Y Y Y Y Y Y Y call202 (fun w hh => Ke s0 qa0 na0 ca0 rb w (HV.callee (S0 := []) (vs0 := []) hh (roR hh 0 Y (roR hh 1 Y roN))) hna0 hqa0 hla0 h1) (fun l h2 => ?_)
  refine jc Y Y Y (fun _ _ => YI Y Y) (jp Y Y (jq (jz ?_)))
  obtain rfl := sj hm
  refine jn Y (fun w hh => (.tmp Y .nil)) (fun w hh => ⟨(), rfl, trivial, hh.se [] [] 2 Y Y Y rfl⟩)
def qr (l0 : (List Sand)) : Option Bool :=
 (kh l0).bind fun t7 =>
 some (!t7)
theorem Qu (l0 : (List Sand)) (qa0 : Option Addr) (na0 ca0 : Nat) (w : World) (hw : HV w (keys [] []) [] [] [(aB qa0, aO qa0, RSa.enc l0)] w) (hna0 : l0.length = na0) (hqa0 : AOK na0 qa0) (hla0 : na0 ≤ ca0) {res : Bool} (hm : qr l0 = some res) :
    Calls Tryz.prog 132 #[.slice qa0 na0 ca0, .func (.func 133) #[] #[]] w (fun en w' => ∃ l : Unit, en = .returned (.bool res) ∧ (True) ∧ HV w (keys [] []) [] [] [] w') := by
  unfold qr at hm
  refine yd func132 Y ntmps132 Y (e := [(0, _), (1, _)]) Y hw (jt ?_)
  refine jP Y Y (fun b h1 => ?_)
  refine jp Y Y (qs (jk Y Y (jc Y Y Y (fun _ _ => k5 (u := #[]) (u' := #[_]) Y Y) ?_)))
  obtain ⟨t7, h2, hm⟩ := bindO hm
  refine jd [] [] Y Y Y Y Y Y Y call174 (fun w hh => JC l0 qa0 na0 ca0 b w (HV.callee (S0 := []) (vs0 := []) hh (roR hh 0 Y (roC (bsep (hh.bseg 0 Y)) roN))) hna0 hqa0 hla0 h2) (fun l h3 => ?_)
  refine jc Y Y Y (fun _ _ => ze Y) (jp Y Y (jq (jz ?_)))
  obtain rfl := sj hm
  refine jn Y (fun w hh => (.tmp Y .nil)) (fun w hh => ⟨(), rfl, trivial, hh.se [] [] 1 Y Y Y rfl⟩)
def qk (c0 : Channel) (n1 : Int) : Option Bool :=
 (qw n1 0 c0.tides).bind fun t8 =>
 some t8
theorem Ky (c0 : Channel) (n1 : Int) (qa0 : Option Addr) (na0 ca0 : Nat) (qa1 : Option Addr) (na1 ca1 : Nat) (qa2 : Option Addr) (na2 ca2 : Nat) (w : World) (hw : HV w (keys [] []) [] [] [(aB qa0, aO qa0, RI.enc c0.fords), (aB qa1, aO qa1, RSa.enc c0.sands), (aB qa2, aO qa2, RSi.enc c0.sights)] w) (hna0 : c0.fords.length = na0) (hqa0 : AOK na0 qa0) (hla0 : na0 ≤ ca0) (hna1 : c0.sands.length = na1) (hqa1 : AOK na1 qa1) (hla1 : na1 ≤ ca1) (hna2 : c0.sights.length = na2) (hqa2 : AOK na2 qa2) (hla2 : na2 ≤ ca2) {res : Bool} (hm : qk c0 n1 = some res) :
    Calls Tryz.prog 112 #[.agg #[.int .i64 c0.cells, .int .i64 c0.tides, .slice qa0 na0 ca0, .slice qa1 na1 ca1, .slice qa2 na2 ca2], .int .i64 n1] w (fun en w' => ∃ l : Unit, en = .returned (.bool res) ∧ (True) ∧ HV w (keys [] []) [] [] [] w') := by
  unfold qk at hm
  refine yd func112 Y ntmps112 Y (e := [(0, _), (1, _)]) Y hw (jt ?_)
  refine jP Y Y (fun b h1 => ?_)
  refine jp Y Y (qs (jk Y Y (qT 1 runUnderlying26 Y sizeOf3 Y Y (qq 0 isAgg3 Y Y Y Y ?_))))
  obtain ⟨t8, h2, hm⟩ := bindO hm
  refine jd [] [] Y Y Y Y Y Y Y call106 (fun w hh => JA n1 0 c0.tides w (HV.callee (S0 := []) (vs0 := []) hh roN)  h2) (fun l h3 => ?_)
  refine jp Y Y (jq (jz ?_))
  obtain rfl := sj hm
  refine jn Y (fun w hh => (.tmp Y .nil)) (fun w hh => ⟨(), rfl, trivial, hh.se [] [] 3 Y Y Y rfl⟩)
def J2 (s0 : Sight) (a11_cells : Int) (a11_tides : Int) (a11_fords : (List Int)) (a11_sands : (List Sand)) (a11_sights : (List Sight)) : Option Bool :=
 (qk (⟨a11_cells, a11_tides, a11_fords, a11_sands, a11_sights⟩ : Channel) s0.after).bind fun t7 =>
 some t7
theorem YX (s0 : Sight) (a11_cells : Int) (a11_tides : Int) (a11_fords : (List Int)) (a11_sands : (List Sand)) (a11_sights : (List Sight)) (rb : Nat) (qa1 : Option Addr) (na1 ca1 : Nat) (qa2 : Option Addr) (na2 ca2 : Nat) (qa3 : Option Addr) (na3 ca3 : Nat) (w : World) (hw : HV w (keys [] []) [] [] [(rb, 0, [.int .i64 a11_cells, .int .i64 a11_tides, .slice qa1 na1 ca1, .slice qa2 na2 ca2, .slice qa3 na3 ca3]), (aB qa1, aO qa1, RI.enc a11_fords), (aB qa2, aO qa2, RSa.enc a11_sands), (aB qa3, aO qa3, RSi.enc a11_sights)] w)  (hna1 : a11_fords.length = na1) (hqa1 : AOK na1 qa1) (hla1 : na1 ≤ ca1) (hna2 : a11_sands.length = na2) (hqa2 : AOK na2 qa2) (hla2 : na2 ≤ ca2) (hna3 : a11_sights.length = na3) (hqa3 : AOK na3 qa3) (hla3 : na3 ≤ ca3) {res : Bool} (hm : J2 s0 a11_cells a11_tides a11_fords a11_sands a11_sights = some res) :
    Calls Tryz.prog 135 #[.agg #[.int .i64 s0.after, .int .i64 s0.cell, .bool s0.upright], ptr rb 0] w (fun en w' => ∃ l : Unit, en = .returned (.bool res) ∧ (True) ∧ HV w (keys [] []) [] [] [] w') := by
  unfold J2 at hm
  refine yd func135 Y ntmps135 Y (e := [(0, _), (1, _)]) Y hw (jt ?_)
  refine jP Y Y (fun b h1 => ?_)
  refine jp Y Y (qs (jc Y Y Y (fun w hh => jH (vs := [_, _, _, _, _]) (isAgg26 w) (sizeOf26 w) Y (segCells (hh.seg 0 Y) 0 Y)) (qT 0 runUnderlying55 Y sizeOf3 Y Y (qq 0 isAgg3 Y Y Y Y ?_))))
  obtain ⟨t7, h2, hm⟩ := bindO hm
  refine jd [] [] Y Y Y Y Y Y Y call112 (fun w hh => Ky (⟨a11_cells, a11_tides, a11_fords, a11_sands, a11_sights⟩ : Channel) s0.after qa1 na1 ca1 qa2 na2 ca2 qa3 na3 ca3 w (HV.callee (S0 := []) (vs0 := []) hh (roR hh 1 Y (roR hh 2 Y (roR hh 3 Y roN)))) hna1 hqa1 hla1 hna2 hqa2 hla2 hna3 hqa3 hla3 h2) (fun l h3 => ?_)
  refine jp Y Y (jq (jz ?_))
  obtain rfl := sj hm
  refine jn Y (fun w hh => (.tmp Y .nil)) (fun w hh => ⟨(), rfl, trivial, hh.se [] [] 4 Y Y Y rfl⟩)
def ky (x0 : Sight) (a11_c0_cells : Int) (a11_c0_tides : Int) (a11_c0_fords : (List Int)) (a11_c0_sands : (List Sand)) (a11_c0_sights : (List Sight)) : Option Bool :=
 (J2 x0 a11_c0_cells a11_c0_tides a11_c0_fords a11_c0_sands a11_c0_sights).bind fun t6 =>
 some (!t6)
theorem KT (x0 : Sight) (a11_c0_cells : Int) (a11_c0_tides : Int) (a11_c0_fords : (List Int)) (a11_c0_sands : (List Sand)) (a11_c0_sights : (List Sight)) (rb : Nat) (rb_1 : Nat) (qa2 : Option Addr) (na2 ca2 : Nat) (qa3 : Option Addr) (na3 ca3 : Nat) (qa4 : Option Addr) (na4 ca4 : Nat) (w : World) (hw : HV w (keys [] []) [] [] [(rb, 0, [.func (.func 135) #[] #[ptr rb_1 0]]), (rb_1, 0, [.int .i64 a11_c0_cells, .int .i64 a11_c0_tides, .slice qa2 na2 ca2, .slice qa3 na3 ca3, .slice qa4 na4 ca4]), (aB qa2, aO qa2, RI.enc a11_c0_fords), (aB qa3, aO qa3, RSa.enc a11_c0_sands), (aB qa4, aO qa4, RSi.enc a11_c0_sights)] w)   (hna2 : a11_c0_fords.length = na2) (hqa2 : AOK na2 qa2) (hla2 : na2 ≤ ca2) (hna3 : a11_c0_sands.length = na3) (hqa3 : AOK na3 qa3) (hla3 : na3 ≤ ca3) (hna4 : a11_c0_sights.length = na4) (hqa4 : AOK na4 qa4) (hla4 : na4 ≤ ca4) {res : Bool} (hm : ky x0 a11_c0_cells a11_c0_tides a11_c0_fords a11_c0_sands a11_c0_sights = some res) :
    Calls Tryz.prog 176 #[.agg #[.int .i64 x0.after, .int .i64 x0.cell, .bool x0.upright], ptr rb 0] w (fun en w' => ∃ l : Unit, en = .returned (.bool res) ∧ (True) ∧ HV w (keys [] []) [] [] [] w') := by
  unfold ky at hm
  refine yd func176 Y ntmps176 Y (e := [(0, _), (1, _)]) Y hw (jt ?_)
  refine jP Y Y (fun b h1 => ?_)
  refine jp Y Y (qs (jc Y Y Y (fun w hh => jL (isAgg190 w) Y (segCell (hh.seg 0 Y) 0 Y)) (Jp [_, _, _] 0 isAgg55 sizeOf55 Y Y Y Y ?_)))
  obtain ⟨t6, h2, hm⟩ := bindO hm
  refine jd [] [] Y Y Y Y Y Y Y call135 (fun w hh => YX x0 a11_c0_cells a11_c0_tides a11_c0_fords a11_c0_sands a11_c0_sights rb_1 qa2 na2 ca2 qa3 na3 ca3 qa4 na4 ca4 w (HV.callee (S0 := []) (vs0 := []) hh (roR hh 1 Y (roR hh 2 Y (roR hh 3 Y (roR hh 4 Y roN))))) hna2 hqa2 hla2 hna3 hqa3 hla3 hna4 hqa4 hla4 h2) (fun l h3 => ?_)
  refine jc Y Y Y (fun _ _ => ze Y) (jp Y Y (jq (jz ?_)))
  obtain rfl := sj hm
  refine jn Y (fun w hh => (.tmp Y .nil)) (fun w hh => ⟨(), rfl, trivial, hh.se [] [] 5 Y Y Y rfl⟩)
def kO (s0 : (List Sight)) (f1_c0_c0_cells : Int) (f1_c0_c0_tides : Int) (f1_c0_c0_fords : (List Int)) (f1_c0_c0_sands : (List Sand)) (f1_c0_c0_sights : (List Sight)) (s : Int) : Option (Int ⊕ (Unit ⊕ Int)) :=
 if s < (s0.length : Int) then
 ((ix s0 s).bind fun t14 =>
 (ky (⟨t14.after, t14.cell, t14.upright⟩ : Sight) f1_c0_c0_cells f1_c0_c0_tides f1_c0_c0_fords f1_c0_c0_sands f1_c0_c0_sights).bind fun t16 =>
 if t16 = true then
 (some (.inr (.inr s))) else
 ((addc s 1).bind fun t18 =>
 some (.inl t18))) else
 (some (.inr (.inl ())))
def kj (s0 : (List Sight)) (f1_c0_c0_cells : Int) (f1_c0_c0_tides : Int) (f1_c0_c0_fords : (List Int)) (f1_c0_c0_sands : (List Sand)) (f1_c0_c0_sights : (List Sight)) : Option Int :=
 (iterM FU (kO s0 f1_c0_c0_cells f1_c0_c0_tides f1_c0_c0_fords f1_c0_c0_sands f1_c0_c0_sights) 0).bind fun o =>
 oc o (fun j => some (-1)) (fun r_1 => some r_1)
theorem JS (s0 : (List Sight)) (f1_c0_c0_cells : Int) (f1_c0_c0_tides : Int) (f1_c0_c0_fords : (List Int)) (f1_c0_c0_sands : (List Sand)) (f1_c0_c0_sights : (List Sight)) (qa0 : Option Addr) (na0 ca0 : Nat) (rb : Nat) (rb_1 : Nat) (qa3 : Option Addr) (na3 ca3 : Nat) (qa4 : Option Addr) (na4 ca4 : Nat) (qa5 : Option Addr) (na5 ca5 : Nat) (w : World) (hw : HV w (keys [] []) [] [] [(aB qa0, aO qa0, RSi.enc s0), (rb, 0, [.func (.func 135) #[] #[ptr rb_1 0]]), (rb_1, 0, [.int .i64 f1_c0_c0_cells, .int .i64 f1_c0_c0_tides, .slice qa3 na3 ca3, .slice qa4 na4 ca4, .slice qa5 na5 ca5]), (aB qa3, aO qa3, RI.enc f1_c0_c0_fords), (aB qa4, aO qa4, RSa.enc f1_c0_c0_sands), (aB qa5, aO qa5, RSi.enc f1_c0_c0_sights)] w) (hna0 : s0.length = na0) (hqa0 : AOK na0 qa0) (hla0 : na0 ≤ ca0)   (hna3 : f1_c0_c0_fords.length = na3) (hqa3 : AOK na3 qa3) (hla3 : na3 ≤ ca3) (hna4 : f1_c0_c0_sands.length = na4) (hqa4 : AOK na4 qa4) (hla4 : na4 ≤ ca4) (hna5 : f1_c0_c0_sights.length = na5) (hqa5 : AOK na5 qa5) (hla5 : na5 ≤ ca5) {res : Int} (hm : kj s0 f1_c0_c0_cells f1_c0_c0_tides f1_c0_c0_fords f1_c0_c0_sands f1_c0_c0_sights = some res) :
    Calls Tryz.prog 183 #[.slice qa0 na0 ca0, .func (.func 176) #[] #[ptr rb 0]] w (fun en w' => ∃ l : Unit, en = .returned (.int .i64 res) ∧ (True) ∧ HV w (keys [] []) [] [] [] w') := by
  unfold kj at hm
  refine yd func183 Y ntmps183 Y (e := [(0, _), (1, _)]) Y hw (jt (jp Y Y (jq (jh (jt (jk Y Y (jc Y Y Y (fun w _ => jR hna0 (runUnderlying24 w) Y) ?_)))))))
  refine jk Y Y (jq ?_)
  obtain ⟨o, h1, h2⟩ := bindO hm
  refine jI (ι := Unit) (fun j => o = .inl j) (fun j => []) (fun j => []) (fun j => []) ?_ ?_
  ·replace hm := h1
   refine jm ?_
   refine jM (ι := Unit) hm (fun s l => True) (fun s l => [(0, .slice qa0 na0 ca0), (1, .func (.func 176) #[] #[ptr rb 0]), (7, .int .i64 (s0.length : Int)), (8, .int .i64 s)]) (fun s l => []) (fun s l => []) () (trivial) (sE Y) (fun w hh => hh) (fun s l r hpl hm h3 => ?_)
   unfold kO at hm
   refine jt (Jo Y Y Y (jq (jh ?_)))
   refine jr Y (fun h4 => ?_) (fun h4 => ?_)
   ·replace hm := ifD h4 hm
    refine js (ja (jh (jm (jt (jk Y Y (jp Y Y (qs ?_)))))))
    refine jk Y Y (jk Y Y (jk Y Y ?_))
    obtain ⟨t14, h5, hm⟩ := bindO hm
    refine jc Y Y Y (fun w _ => qx h5 (runUnderlying24 w) (sizeOf55 w) Y Y hna0 hqa0) ?_
    refine jc Y Y Y (fun w hh => Jy RSi 0 [.int .i64 t14.after, .int .i64 t14.cell, .bool t14.upright] h5 (isAgg55 w) (sizeOf55 w) Y (hh.seg 0 Y) Y (Nat.add_zero _).symm) ?_
    obtain ⟨t16, h6, hm⟩ := bindO hm
    refine jd [] [] Y Y Y Y Y Y Y call176 (fun w hh => KT (⟨t14.after, t14.cell, t14.upright⟩ : Sight) f1_c0_c0_cells f1_c0_c0_tides f1_c0_c0_fords f1_c0_c0_sands f1_c0_c0_sights rb rb_1 qa3 na3 ca3 qa4 na4 ca4 qa5 na5 ca5 w (HV.callee (S0 := []) (vs0 := []) hh (roR hh 1 Y (roR hh 2 Y (roR hh 3 Y (roR hh 4 Y (roR hh 5 Y roN)))))) hna3 hqa3 hla3 hna4 hqa4 hla4 hna5 hqa5 hla5 h6) (fun l_1 h7 => ?_)
    refine jq ?_
    refine jr Y (fun h8 => ?_) (fun h8 => ?_)
    ·replace hm := ifT (h8) hm
     refine jt (jk Y Y (jp Y Y (jq (jz (jB (je (je ?_)))))))
     refine jB ?_
     obtain rfl := sj hm
     have hbo := h3 _ Y
     subst hbo
     refine je ?_
     replace hm := ocR h2
     refine je ?_
     obtain rfl := sj hm
     refine jn Y (fun w hh => (.tmp Y .nil)) (fun w hh => ⟨(), rfl, trivial, hh.se [] [] 6 Y Y Y rfl⟩)
    replace hm := ifN h8 hm
    refine js (jx (ja (jg ?_)))
    obtain ⟨t18, h9, hm⟩ := bindO hm
    refine JG h9 Y Y Y (jk Y Y (ju ?_))
    obtain rfl := sj hm
    refine ja ?_
    exact jC _ () Y (trivial) (sE Y) (fun w hh => hh)
   replace hm := ifE h4 hm
   refine jS (ji (ji (jD ?_)))
   obtain rfl := sj hm
   have hbo := h3 _ Y
   subst hbo
   exact jj () (Y) (.nil) (fun w hh => hh)
  intro j hj
  have h10 := hj
  subst h10
  replace hm := ocL h2
  refine ja (jt (jp Y Y (jq (jz ?_))))
  obtain rfl := sj hm
  refine jn Y (fun w hh => (.tmp Y .nil)) (fun w hh => ⟨(), rfl, trivial, hh.se [] [] 6 Y Y Y rfl⟩)
def j8 (s0 : (List Sight)) (f1_c0_c0_cells : Int) (f1_c0_c0_tides : Int) (f1_c0_c0_fords : (List Int)) (f1_c0_c0_sands : (List Sand)) (f1_c0_c0_sights : (List Sight)) : Option Bool :=
 (kj s0 f1_c0_c0_cells f1_c0_c0_tides f1_c0_c0_fords f1_c0_c0_sands f1_c0_c0_sights).bind fun t7 =>
 some (decide (0 ≤ t7))
theorem Jm (s0 : (List Sight)) (f1_c0_c0_cells : Int) (f1_c0_c0_tides : Int) (f1_c0_c0_fords : (List Int)) (f1_c0_c0_sands : (List Sand)) (f1_c0_c0_sights : (List Sight)) (qa0 : Option Addr) (na0 ca0 : Nat) (rb : Nat) (rb_1 : Nat) (qa3 : Option Addr) (na3 ca3 : Nat) (qa4 : Option Addr) (na4 ca4 : Nat) (qa5 : Option Addr) (na5 ca5 : Nat) (w : World) (hw : HV w (keys [] []) [] [] [(aB qa0, aO qa0, RSi.enc s0), (rb, 0, [.func (.func 135) #[] #[ptr rb_1 0]]), (rb_1, 0, [.int .i64 f1_c0_c0_cells, .int .i64 f1_c0_c0_tides, .slice qa3 na3 ca3, .slice qa4 na4 ca4, .slice qa5 na5 ca5]), (aB qa3, aO qa3, RI.enc f1_c0_c0_fords), (aB qa4, aO qa4, RSa.enc f1_c0_c0_sands), (aB qa5, aO qa5, RSi.enc f1_c0_c0_sights)] w) (hna0 : s0.length = na0) (hqa0 : AOK na0 qa0) (hla0 : na0 ≤ ca0)   (hna3 : f1_c0_c0_fords.length = na3) (hqa3 : AOK na3 qa3) (hla3 : na3 ≤ ca3) (hna4 : f1_c0_c0_sands.length = na4) (hqa4 : AOK na4 qa4) (hla4 : na4 ≤ ca4) (hna5 : f1_c0_c0_sights.length = na5) (hqa5 : AOK na5 qa5) (hla5 : na5 ≤ ca5) {res : Bool} (hm : j8 s0 f1_c0_c0_cells f1_c0_c0_tides f1_c0_c0_fords f1_c0_c0_sands f1_c0_c0_sights = some res) :
    Calls Tryz.prog 150 #[.slice qa0 na0 ca0, .func (.func 176) #[] #[ptr rb 0]] w (fun en w' => ∃ l : Unit, en = .returned (.bool res) ∧ (True) ∧ HV w (keys [] []) [] [] [] w') := by
  unfold j8 at hm
  refine yd func150 Y ntmps150 Y (e := [(0, _), (1, _)]) Y hw (jt (jp Y Y (qs (jk Y Y (jk Y Y ?_)))))
  obtain ⟨t7, h1, hm⟩ := bindO hm
  refine jd [] [] Y Y Y Y Y Y Y call183 (fun w hh => JS s0 f1_c0_c0_cells f1_c0_c0_tides f1_c0_c0_fords f1_c0_c0_sands f1_c0_c0_sights qa0 na0 ca0 rb rb_1 qa3 na3 ca3 qa4 na4 ca4 qa5 na5 ca5 w (HV.callee (S0 := []) (vs0 := []) hh (roR hh 0 Y (roR hh 1 Y (roR hh 2 Y (roR hh 3 Y (roR hh 4 Y (roR hh 5 Y roN))))))) hna0 hqa0 hla0 hna3 hqa3 hla3 hna4 hqa4 hla4 hna5 hqa5 hla5 h1) (fun l h2 => ?_)
  refine jc Y Y Y (fun _ _ => YI Y Y) (jp Y Y (jq (jz ?_)))
  obtain rfl := sj hm
  refine jn Y (fun w hh => (.tmp Y .nil)) (fun w hh => ⟨(), rfl, trivial, hh.se [] [] 6 Y Y Y rfl⟩)
def qd (l0 : (List Sight)) (holds1_c0_cells : Int) (holds1_c0_tides : Int) (holds1_c0_fords : (List Int)) (holds1_c0_sands : (List Sand)) (holds1_c0_sights : (List Sight)) : Option Bool :=
 (j8 l0 holds1_c0_cells holds1_c0_tides holds1_c0_fords holds1_c0_sands holds1_c0_sights).bind fun t7 =>
 some (!t7)
theorem Qb (l0 : (List Sight)) (holds1_c0_cells : Int) (holds1_c0_tides : Int) (holds1_c0_fords : (List Int)) (holds1_c0_sands : (List Sand)) (holds1_c0_sights : (List Sight)) (qa0 : Option Addr) (na0 ca0 : Nat) (rb : Nat) (qa2 : Option Addr) (na2 ca2 : Nat) (qa3 : Option Addr) (na3 ca3 : Nat) (qa4 : Option Addr) (na4 ca4 : Nat) (w : World) (hw : HV w (keys [] []) [] [] [(aB qa0, aO qa0, RSi.enc l0), (rb, 0, [.int .i64 holds1_c0_cells, .int .i64 holds1_c0_tides, .slice qa2 na2 ca2, .slice qa3 na3 ca3, .slice qa4 na4 ca4]), (aB qa2, aO qa2, RI.enc holds1_c0_fords), (aB qa3, aO qa3, RSa.enc holds1_c0_sands), (aB qa4, aO qa4, RSi.enc holds1_c0_sights)] w) (hna0 : l0.length = na0) (hqa0 : AOK na0 qa0) (hla0 : na0 ≤ ca0)  (hna2 : holds1_c0_fords.length = na2) (hqa2 : AOK na2 qa2) (hla2 : na2 ≤ ca2) (hna3 : holds1_c0_sands.length = na3) (hqa3 : AOK na3 qa3) (hla3 : na3 ≤ ca3) (hna4 : holds1_c0_sights.length = na4) (hqa4 : AOK na4 qa4) (hla4 : na4 ≤ ca4) {res : Bool} (hm : qd l0 holds1_c0_cells holds1_c0_tides holds1_c0_fords holds1_c0_sands holds1_c0_sights = some res) :
    Calls Tryz.prog 134 #[.slice qa0 na0 ca0, .func (.func 135) #[] #[ptr rb 0]] w (fun en w' => ∃ l : Unit, en = .returned (.bool res) ∧ (True) ∧ HV w (keys [] []) [] [] [] w') := by
  unfold qd at hm
  refine yd func134 Y ntmps134 Y (e := [(0, _), (1, _)]) Y hw (jt ?_)
  refine jP Y Y (fun b h1 => ?_)
  refine jp Y Y (qs (jk Y Y (jc Y Y Y (fun _ _ => k5 (u := #[]) (u' := #[_]) Y Y) ?_)))
  obtain ⟨t7, h2, hm⟩ := bindO hm
  refine jd [] [] Y Y Y Y Y Y Y call150 (fun w hh => Jm l0 holds1_c0_cells holds1_c0_tides holds1_c0_fords holds1_c0_sands holds1_c0_sights qa0 na0 ca0 b rb qa2 na2 ca2 qa3 na3 ca3 qa4 na4 ca4 w (HV.callee (S0 := []) (vs0 := []) hh (roR hh 0 Y (roC (bsep (hh.bseg 0 Y)) (roR hh 1 Y (roR hh 2 Y (roR hh 3 Y (roR hh 4 Y roN))))))) hna0 hqa0 hla0 hna2 hqa2 hla2 hna3 hqa3 hla3 hna4 hqa4 hla4 h2) (fun l h3 => ?_)
  refine jc Y Y Y (fun _ _ => ze Y) (jp Y Y (jq (jz ?_)))
  obtain rfl := sj hm
  refine jn Y (fun w hh => (.tmp Y .nil)) (fun w hh => ⟨(), rfl, trivial, hh.se [] [] 5 Y Y Y rfl⟩)
def kt (c0 : Channel) (n1 : Int) : Option Bool :=
 (subc c0.cells 1).bind fun t8 =>
 (qw n1 0 t8).bind fun t9 =>
 some t9
theorem zr (c0 : Channel) (n1 : Int) (qa0 : Option Addr) (na0 ca0 : Nat) (qa1 : Option Addr) (na1 ca1 : Nat) (qa2 : Option Addr) (na2 ca2 : Nat) (w : World) (hw : HV w (keys [] []) [] [] [(aB qa0, aO qa0, RI.enc c0.fords), (aB qa1, aO qa1, RSa.enc c0.sands), (aB qa2, aO qa2, RSi.enc c0.sights)] w) (hna0 : c0.fords.length = na0) (hqa0 : AOK na0 qa0) (hla0 : na0 ≤ ca0) (hna1 : c0.sands.length = na1) (hqa1 : AOK na1 qa1) (hla1 : na1 ≤ ca1) (hna2 : c0.sights.length = na2) (hqa2 : AOK na2 qa2) (hla2 : na2 ≤ ca2) {res : Bool} (hm : kt c0 n1 = some res) :
    Calls Tryz.prog 131 #[.agg #[.int .i64 c0.cells, .int .i64 c0.tides, .slice qa0 na0 ca0, .slice qa1 na1 ca1, .slice qa2 na2 ca2], .int .i64 n1] w (fun en w' => ∃ l : Unit, en = .returned (.bool res) ∧ (True) ∧ HV w (keys [] []) [] [] [] w') := by
  unfold kt at hm
  refine yd func131 Y ntmps131 Y (e := [(0, _), (1, _)]) Y hw (jt ?_)
  refine jP Y Y (fun b h1 => ?_)
  refine jp Y Y (qs (jk Y Y (qT 0 runUnderlying26 Y sizeOf3 Y Y (qq 0 isAgg3 Y Y Y Y ?_))))
  obtain ⟨t8, h2, hm⟩ := bindO hm
  refine jc Y Y Y (fun _ _ => yX h2 Y Y) ?_
  obtain ⟨t9, h3, hm⟩ := bindO hm
  refine jd [] [] Y Y Y Y Y Y Y call106 (fun w hh => JA n1 0 t8 w (HV.callee (S0 := []) (vs0 := []) hh roN)  h3) (fun l h4 => ?_)
  refine jp Y Y (jq (jz ?_))
  obtain rfl := sj hm
  refine jn Y (fun w hh => (.tmp Y .nil)) (fun w hh => ⟨(), rfl, trivial, hh.se [] [] 3 Y Y Y rfl⟩)
def yI (x0 : Int) (a11_f0 : Channel) : Option Bool :=
 (kt a11_f0 x0).bind fun t6 =>
 some (!t6)
theorem Q9 (x0 : Int) (a11_f0 : Channel) (rb : Nat) (qa1 : Option Addr) (na1 ca1 : Nat) (qa2 : Option Addr) (na2 ca2 : Nat) (qa3 : Option Addr) (na3 ca3 : Nat) (w : World) (hw : HV w (keys [] []) [] [] [(rb, 0, [.func (.func 131) #[.agg #[.int .i64 a11_f0.cells, .int .i64 a11_f0.tides, .slice qa1 na1 ca1, .slice qa2 na2 ca2, .slice qa3 na3 ca3]] #[]]), (aB qa1, aO qa1, RI.enc a11_f0.fords), (aB qa2, aO qa2, RSa.enc a11_f0.sands), (aB qa3, aO qa3, RSi.enc a11_f0.sights)] w)  (hna1 : a11_f0.fords.length = na1) (hqa1 : AOK na1 qa1) (hla1 : na1 ≤ ca1) (hna2 : a11_f0.sands.length = na2) (hqa2 : AOK na2 qa2) (hla2 : na2 ≤ ca2) (hna3 : a11_f0.sights.length = na3) (hqa3 : AOK na3 qa3) (hla3 : na3 ≤ ca3) {res : Bool} (hm : yI x0 a11_f0 = some res) :
    Calls Tryz.prog 170 #[.int .i64 x0, ptr rb 0] w (fun en w' => ∃ l : Unit, en = .returned (.bool res) ∧ (True) ∧ HV w (keys [] []) [] [] [] w') := by
  unfold yI at hm
  refine yd func170 Y ntmps170 Y (e := [(0, _), (1, _)]) Y hw (jt (jp Y Y (qs (jc Y Y Y (fun w hh => jL (isAgg102 w) Y (segCell (hh.seg 0 Y) 0 Y)) (jk Y Y ?_)))))
  obtain ⟨t6, h1, hm⟩ := bindO hm
  refine jd [] [] Y Y Y Y Y Y Y call131 (fun w hh => zr a11_f0 x0 qa1 na1 ca1 qa2 na2 ca2 qa3 na3 ca3 w (HV.callee (S0 := []) (vs0 := []) hh (roR hh 1 Y (roR hh 2 Y (roR hh 3 Y roN)))) hna1 hqa1 hla1 hna2 hqa2 hla2 hna3 hqa3 hla3 h1) (fun l h2 => ?_)
  refine jc Y Y Y (fun _ _ => ze Y) (jp Y Y (jq (jz ?_)))
  obtain rfl := sj hm
  refine jn Y (fun w hh => (.tmp Y .nil)) (fun w hh => ⟨(), rfl, trivial, hh.se [] [] 4 Y Y Y rfl⟩)
def zQ (s0 : (List Int)) (f1_c0_f0 : Channel) (s : Int) : Option (Int ⊕ (Unit ⊕ Int)) :=
 if s < (s0.length : Int) then
 ((ix s0 s).bind fun t14 =>
 (yI t14 f1_c0_f0).bind fun t16 =>
 if t16 = true then
 (some (.inr (.inr s))) else
 ((addc s 1).bind fun t18 =>
 some (.inl t18))) else
 (some (.inr (.inl ())))
def zA (s0 : (List Int)) (f1_c0_f0 : Channel) : Option Int :=
 (iterM FU (zQ s0 f1_c0_f0) 0).bind fun o =>
 oc o (fun j => some (-1)) (fun r_1 => some r_1)
theorem QV (s0 : (List Int)) (f1_c0_f0 : Channel) (qa0 : Option Addr) (na0 ca0 : Nat) (rb : Nat) (qa2 : Option Addr) (na2 ca2 : Nat) (qa3 : Option Addr) (na3 ca3 : Nat) (qa4 : Option Addr) (na4 ca4 : Nat) (w : World) (hw : HV w (keys [] []) [] [] [(aB qa0, aO qa0, RI.enc s0), (rb, 0, [.func (.func 131) #[.agg #[.int .i64 f1_c0_f0.cells, .int .i64 f1_c0_f0.tides, .slice qa2 na2 ca2, .slice qa3 na3 ca3, .slice qa4 na4 ca4]] #[]]), (aB qa2, aO qa2, RI.enc f1_c0_f0.fords), (aB qa3, aO qa3, RSa.enc f1_c0_f0.sands), (aB qa4, aO qa4, RSi.enc f1_c0_f0.sights)] w) (hna0 : s0.length = na0) (hqa0 : AOK na0 qa0) (hla0 : na0 ≤ ca0)  (hna2 : f1_c0_f0.fords.length = na2) (hqa2 : AOK na2 qa2) (hla2 : na2 ≤ ca2) (hna3 : f1_c0_f0.sands.length = na3) (hqa3 : AOK na3 qa3) (hla3 : na3 ≤ ca3) (hna4 : f1_c0_f0.sights.length = na4) (hqa4 : AOK na4 qa4) (hla4 : na4 ≤ ca4) {res : Int} (hm : zA s0 f1_c0_f0 = some res) :
    Calls Tryz.prog 148 #[.slice qa0 na0 ca0, .func (.func 170) #[] #[ptr rb 0]] w (fun en w' => ∃ l : Unit, en = .returned (.int .i64 res) ∧ (True) ∧ HV w (keys [] []) [] [] [] w') := by
  unfold zA at hm
  refine yd func148 Y ntmps148 Y (e := [(0, _), (1, _)]) Y hw (jt (jp Y Y (jq (jh (jt (jk Y Y (jc Y Y Y (fun w _ => jR hna0 (runUnderlying22 w) Y) ?_)))))))
  refine jk Y Y (jq ?_)
  obtain ⟨o, h1, h2⟩ := bindO hm
  refine jI (ι := Unit) (fun j => o = .inl j) (fun j => []) (fun j => []) (fun j => []) ?_ ?_
  ·replace hm := h1
   refine jm ?_
   refine jM (ι := Unit) hm (fun s l => True) (fun s l => [(0, .slice qa0 na0 ca0), (1, .func (.func 170) #[] #[ptr rb 0]), (7, .int .i64 (s0.length : Int)), (8, .int .i64 s)]) (fun s l => []) (fun s l => []) () (trivial) (sE Y) (fun w hh => hh) (fun s l r hpl hm h3 => ?_)
   unfold zQ at hm
   refine jt (Jo Y Y Y (jq (jh ?_)))
   refine jr Y (fun h4 => ?_) (fun h4 => ?_)
   ·replace hm := ifD h4 hm
    refine js (ja (jh (jm (jt (jk Y Y (jp Y Y (qs ?_)))))))
    refine jk Y Y (jk Y Y (jk Y Y ?_))
    obtain ⟨t14, h5, hm⟩ := bindO hm
    refine jc Y Y Y (fun w _ => qx h5 (runUnderlying22 w) (sizeOf3 w) Y Y hna0 hqa0) (jc Y Y Y (fun w hh => ka RI 0 h5 (isAgg3 w) Y (hh.seg 0 Y) Y (Nat.add_zero _).symm) ?_)
    obtain ⟨t16, h6, hm⟩ := bindO hm
    refine jd [] [] Y Y Y Y Y Y Y call170 (fun w hh => Q9 t14 f1_c0_f0 rb qa2 na2 ca2 qa3 na3 ca3 qa4 na4 ca4 w (HV.callee (S0 := []) (vs0 := []) hh (roR hh 1 Y (roR hh 2 Y (roR hh 3 Y (roR hh 4 Y roN))))) hna2 hqa2 hla2 hna3 hqa3 hla3 hna4 hqa4 hla4 h6) (fun l_1 h7 => ?_)
    refine jq ?_
    refine jr Y (fun h8 => ?_) (fun h8 => ?_)
    ·replace hm := ifT (h8) hm
     refine jt (jk Y Y (jp Y Y (jq (jz (jB (je (je ?_)))))))
     refine jB ?_
     obtain rfl := sj hm
     have hbo := h3 _ Y
     subst hbo
     refine je ?_
     replace hm := ocR h2
     refine je ?_
     obtain rfl := sj hm
     refine jn Y (fun w hh => (.tmp Y .nil)) (fun w hh => ⟨(), rfl, trivial, hh.se [] [] 5 Y Y Y rfl⟩)
    replace hm := ifN h8 hm
    refine js (jx (ja (jg ?_)))
    obtain ⟨t18, h9, hm⟩ := bindO hm
    refine JG h9 Y Y Y (jk Y Y (ju ?_))
    obtain rfl := sj hm
    refine ja ?_
    exact jC _ () Y (trivial) (sE Y) (fun w hh => hh)
   replace hm := ifE h4 hm
   refine jS (ji (ji (jD ?_)))
   obtain rfl := sj hm
   have hbo := h3 _ Y
   subst hbo
   exact jj () (Y) (.nil) (fun w hh => hh)
  intro j hj
  have h10 := hj
  subst h10
  replace hm := ocL h2
  refine ja (jt (jp Y Y (jq (jz ?_))))
  obtain rfl := sj hm
  refine jn Y (fun w hh => (.tmp Y .nil)) (fun w hh => ⟨(), rfl, trivial, hh.se [] [] 5 Y Y Y rfl⟩)
def yD (s0 : (List Int)) (f1_c0_f0 : Channel) : Option Bool :=
 (zA s0 f1_c0_f0).bind fun t7 =>
 some (decide (0 ≤ t7))
theorem QB (s0 : (List Int)) (f1_c0_f0 : Channel) (qa0 : Option Addr) (na0 ca0 : Nat) (rb : Nat) (qa2 : Option Addr) (na2 ca2 : Nat) (qa3 : Option Addr) (na3 ca3 : Nat) (qa4 : Option Addr) (na4 ca4 : Nat) (w : World) (hw : HV w (keys [] []) [] [] [(aB qa0, aO qa0, RI.enc s0), (rb, 0, [.func (.func 131) #[.agg #[.int .i64 f1_c0_f0.cells, .int .i64 f1_c0_f0.tides, .slice qa2 na2 ca2, .slice qa3 na3 ca3, .slice qa4 na4 ca4]] #[]]), (aB qa2, aO qa2, RI.enc f1_c0_f0.fords), (aB qa3, aO qa3, RSa.enc f1_c0_f0.sands), (aB qa4, aO qa4, RSi.enc f1_c0_f0.sights)] w) (hna0 : s0.length = na0) (hqa0 : AOK na0 qa0) (hla0 : na0 ≤ ca0)  (hna2 : f1_c0_f0.fords.length = na2) (hqa2 : AOK na2 qa2) (hla2 : na2 ≤ ca2) (hna3 : f1_c0_f0.sands.length = na3) (hqa3 : AOK na3 qa3) (hla3 : na3 ≤ ca3) (hna4 : f1_c0_f0.sights.length = na4) (hqa4 : AOK na4 qa4) (hla4 : na4 ≤ ca4) {res : Bool} (hm : yD s0 f1_c0_f0 = some res) :
    Calls Tryz.prog 65 #[.slice qa0 na0 ca0, .func (.func 170) #[] #[ptr rb 0]] w (fun en w' => ∃ l : Unit, en = .returned (.bool res) ∧ (True) ∧ HV w (keys [] []) [] [] [] w') := by
  unfold yD at hm
  refine yd func65 Y ntmps65 Y (e := [(0, _), (1, _)]) Y hw (jt (jp Y Y (qs (jk Y Y (jk Y Y ?_)))))
  obtain ⟨t7, h1, hm⟩ := bindO hm
  refine jd [] [] Y Y Y Y Y Y Y call148 (fun w hh => QV s0 f1_c0_f0 qa0 na0 ca0 rb qa2 na2 ca2 qa3 na3 ca3 qa4 na4 ca4 w (HV.callee (S0 := []) (vs0 := []) hh (roR hh 0 Y (roR hh 1 Y (roR hh 2 Y (roR hh 3 Y (roR hh 4 Y roN)))))) hna0 hqa0 hla0 hna2 hqa2 hla2 hna3 hqa3 hla3 hna4 hqa4 hla4 h1) (fun l h2 => ?_)
  refine jc Y Y Y (fun _ _ => YI Y Y) (jp Y Y (jq (jz ?_)))
  obtain rfl := sj hm
  refine jn Y (fun w hh => (.tmp Y .nil)) (fun w hh => ⟨(), rfl, trivial, hh.se [] [] 5 Y Y Y rfl⟩)
def zq (l0 : (List Int)) (holds1_f0 : Channel) : Option Bool :=
 (yD l0 holds1_f0).bind fun t7 =>
 some (!t7)
theorem YG (l0 : (List Int)) (holds1_f0 : Channel) (qa0 : Option Addr) (na0 ca0 : Nat) (qa1 : Option Addr) (na1 ca1 : Nat) (qa2 : Option Addr) (na2 ca2 : Nat) (qa3 : Option Addr) (na3 ca3 : Nat) (w : World) (hw : HV w (keys [] []) [] [] [(aB qa0, aO qa0, RI.enc l0), (aB qa1, aO qa1, RI.enc holds1_f0.fords), (aB qa2, aO qa2, RSa.enc holds1_f0.sands), (aB qa3, aO qa3, RSi.enc holds1_f0.sights)] w) (hna0 : l0.length = na0) (hqa0 : AOK na0 qa0) (hla0 : na0 ≤ ca0) (hna1 : holds1_f0.fords.length = na1) (hqa1 : AOK na1 qa1) (hla1 : na1 ≤ ca1) (hna2 : holds1_f0.sands.length = na2) (hqa2 : AOK na2 qa2) (hla2 : na2 ≤ ca2) (hna3 : holds1_f0.sights.length = na3) (hqa3 : AOK na3 qa3) (hla3 : na3 ≤ ca3) {res : Bool} (hm : zq l0 holds1_f0 = some res) :
    Calls Tryz.prog 119 #[.slice qa0 na0 ca0, .func (.func 131) #[.agg #[.int .i64 holds1_f0.cells, .int .i64 holds1_f0.tides, .slice qa1 na1 ca1, .slice qa2 na2 ca2, .slice qa3 na3 ca3]] #[]] w (fun en w' => ∃ l : Unit, en = .returned (.bool res) ∧ (True) ∧ HV w (keys [] []) [] [] [] w') := by
  unfold zq at hm
  refine yd func119 Y ntmps119 Y (e := [(0, _), (1, _)]) Y hw (jt ?_)
  refine jP Y Y (fun b h1 => ?_)
  refine jp Y Y (qs (jk Y Y (jc Y Y Y (fun _ _ => k5 (u := #[]) (u' := #[_]) Y Y) ?_)))
  obtain ⟨t7, h2, hm⟩ := bindO hm
  refine jd [] [] Y Y Y Y Y Y Y call65 (fun w hh => QB l0 holds1_f0 qa0 na0 ca0 b qa1 na1 ca1 qa2 na2 ca2 qa3 na3 ca3 w (HV.callee (S0 := []) (vs0 := []) hh (roR hh 0 Y (roC (bsep (hh.bseg 0 Y)) (roR hh 1 Y (roR hh 2 Y (roR hh 3 Y roN)))))) hna0 hqa0 hla0 hna1 hqa1 hla1 hna2 hqa2 hla2 hna3 hqa3 hla3 h2) (fun l h3 => ?_)
  refine jc Y Y Y (fun _ _ => ze Y) (jp Y Y (jq (jz ?_)))
  obtain rfl := sj hm
  refine jn Y (fun w hh => (.tmp Y .nil)) (fun w hh => ⟨(), rfl, trivial, hh.se [] [] 4 Y Y Y rfl⟩)
def J5 (s0 : Sand) (a11_f0 : Channel) : Option Bool :=
 ((kt a11_f0 s0.span.lo).bind fun t8 =>
 if t8 = true then
 ((kt a11_f0 s0.span.hi).bind fun t14 =>
 some t14) else
 (some false)).bind fun o =>
 some o
theorem YS (s0 : Sand) (a11_f0 : Channel) (rb : Nat) (qa1 : Option Addr) (na1 ca1 : Nat) (qa2 : Option Addr) (na2 ca2 : Nat) (qa3 : Option Addr) (na3 ca3 : Nat) (w : World) (hw : HV w (keys [] []) [] [] [(rb, 0, [.func (.func 131) #[.agg #[.int .i64 a11_f0.cells, .int .i64 a11_f0.tides, .slice qa1 na1 ca1, .slice qa2 na2 ca2, .slice qa3 na3 ca3]] #[]]), (aB qa1, aO qa1, RI.enc a11_f0.fords), (aB qa2, aO qa2, RSa.enc a11_f0.sands), (aB qa3, aO qa3, RSi.enc a11_f0.sights)] w)  (hna1 : a11_f0.fords.length = na1) (hqa1 : AOK na1 qa1) (hla1 : na1 ≤ ca1) (hna2 : a11_f0.sands.length = na2) (hqa2 : AOK na2 qa2) (hla2 : na2 ≤ ca2) (hna3 : a11_f0.sights.length = na3) (hqa3 : AOK na3 qa3) (hla3 : na3 ≤ ca3) {res : Bool} (hm : J5 s0 a11_f0 = some res) :
    Calls Tryz.prog 136 #[.agg #[.int .i64 s0.span.lo, .int .i64 s0.span.hi, .int .i64 s0.reach], ptr rb 0] w (fun en w' => ∃ l : Unit, en = .returned (.bool res) ∧ (True) ∧ HV w (keys [] []) [] [] [] w') := by
  unfold J5 at hm
  refine yd func136 Y ntmps136 Y (e := [(0, _), (1, _)]) Y hw (jt ?_)
  refine jP Y Y (fun b h1 => ?_)
  refine jp Y Y (jq (jh ?_))
  obtain ⟨o, h2, h3⟩ := bindO hm
  refine jI (ι := Unit) (fun l => True) (fun l => [(3, .bool o)]) (fun l => [kc b #[.int .i64 s0.span.lo, .int .i64 s0.span.hi, .int .i64 s0.reach] 98]) (fun l => []) ?_ ?_
  ·replace hm := h2
   refine jg (jc Y Y Y (fun w hh => jL (isAgg102 w) Y (segCell (hh.seg 0 Y) 0 Y)) (qT 0 runUnderlying98 Y sizeOf50 Y Y (qT 0 runUnderlying50 Y sizeOf3 Y Y (qq 0 isAgg3 Y Y Y Y ?_))))
   obtain ⟨t8, h4, hm⟩ := bindO hm
   refine jd [] [] Y Y Y Y Y Y Y call131 (fun w hh => zr a11_f0 s0.span.lo qa1 na1 ca1 qa2 na2 ca2 qa3 na3 ca3 w (HV.callee (S0 := []) (vs0 := []) hh (roR hh 1 Y (roR hh 2 Y (roR hh 3 Y roN)))) hna1 hqa1 hla1 hna2 hqa2 hla2 hna3 hqa3 hla3 h4) (fun l_1 h5 => ?_)
   refine jk Y Y ?_
   refine jQ 9 Y (fun h6 => ?_) (fun h6 => ?_)
   ·replace hm := ifT (h6) hm
    refine jb Y Y (jc Y Y Y (fun w hh => jL (isAgg102 w) Y (segCell (hh.seg 0 Y) 0 Y)) (jb Y Y (qT 0 runUnderlying98 Y sizeOf50 Y Y (jb Y Y (qT 1 runUnderlying50 Y sizeOf3 Y Y (jb Y Y (qq 0 isAgg3 Y Y Y Y ?_)))))))
    refine jb Y Y ?_
    obtain ⟨t14, h7, hm⟩ := bindO hm
    refine jd [] [] Y Y Y Y Y Y Y call131 (fun w hh => zr a11_f0 s0.span.hi qa1 na1 ca1 qa2 na2 ca2 qa3 na3 ca3 w (HV.callee (S0 := []) (vs0 := []) hh (roR hh 1 Y (roR hh 2 Y (roR hh 3 Y roN)))) hna1 hqa1 hla1 hna2 hqa2 hla2 hna3 hqa3 hla3 h7) (fun l_2 h8 => ?_)
    refine yx Y Y Y (jp Y Y (ju ?_))
    obtain rfl := sj hm
    exact jj () (trivial) (sE Y) (fun w hh => hh)
   replace hm := ifN h6 hm
   refine g_k Y Y Y Y (g_k Y Y Y Y (g_k Y Y Y Y (g_k Y Y Y Y (g_k Y Y Y Y (y4 Y Y Y (jp Y Y (ju ?_)))))))
   obtain rfl := sj hm
   exact jj () (trivial) (sE Y) (fun w hh => hh)
  intro l hj
  replace hm := h3
  refine ja (jz ?_)
  obtain rfl := sj hm
  refine jn Y (fun w hh => (.tmp Y .nil)) (fun w hh => ⟨(), rfl, trivial, hh.se [] [] 4 Y Y Y rfl⟩)
def kr (x0 : Sand) (a11_c0_f0 : Channel) : Option Bool :=
 (J5 x0 a11_c0_f0).bind fun t6 =>
 some (!t6)
theorem KP (x0 : Sand) (a11_c0_f0 : Channel) (rb : Nat) (rb_1 : Nat) (qa2 : Option Addr) (na2 ca2 : Nat) (qa3 : Option Addr) (na3 ca3 : Nat) (qa4 : Option Addr) (na4 ca4 : Nat) (w : World) (hw : HV w (keys [] []) [] [] [(rb, 0, [.func (.func 136) #[] #[ptr rb_1 0]]), (rb_1, 0, [.func (.func 131) #[.agg #[.int .i64 a11_c0_f0.cells, .int .i64 a11_c0_f0.tides, .slice qa2 na2 ca2, .slice qa3 na3 ca3, .slice qa4 na4 ca4]] #[]]), (aB qa2, aO qa2, RI.enc a11_c0_f0.fords), (aB qa3, aO qa3, RSa.enc a11_c0_f0.sands), (aB qa4, aO qa4, RSi.enc a11_c0_f0.sights)] w)   (hna2 : a11_c0_f0.fords.length = na2) (hqa2 : AOK na2 qa2) (hla2 : na2 ≤ ca2) (hna3 : a11_c0_f0.sands.length = na3) (hqa3 : AOK na3 qa3) (hla3 : na3 ≤ ca3) (hna4 : a11_c0_f0.sights.length = na4) (hqa4 : AOK na4 qa4) (hla4 : na4 ≤ ca4) {res : Bool} (hm : kr x0 a11_c0_f0 = some res) :
    Calls Tryz.prog 175 #[.agg #[.int .i64 x0.span.lo, .int .i64 x0.span.hi, .int .i64 x0.reach], ptr rb 0] w (fun en w' => ∃ l : Unit, en = .returned (.bool res) ∧ (True) ∧ HV w (keys [] []) [] [] [] w') := by
  unfold kr at hm
  refine yd func175 Y ntmps175 Y (e := [(0, _), (1, _)]) Y hw (jt ?_)
  refine jP Y Y (fun b h1 => ?_)
  refine jp Y Y (qs (jc Y Y Y (fun w hh => jL (isAgg188 w) Y (segCell (hh.seg 0 Y) 0 Y)) (Jp [_, _, _] 0 isAgg98 sizeOf98 Y Y Y Y ?_)))
  obtain ⟨t6, h2, hm⟩ := bindO hm
  refine jd [] [] Y Y Y Y Y Y Y call136 (fun w hh => YS x0 a11_c0_f0 rb_1 qa2 na2 ca2 qa3 na3 ca3 qa4 na4 ca4 w (HV.callee (S0 := []) (vs0 := []) hh (roR hh 1 Y (roR hh 2 Y (roR hh 3 Y (roR hh 4 Y roN))))) hna2 hqa2 hla2 hna3 hqa3 hla3 hna4 hqa4 hla4 h2) (fun l h3 => ?_)
  refine jc Y Y Y (fun _ _ => ze Y) (jp Y Y (jq (jz ?_)))
  obtain rfl := sj hm
  refine jn Y (fun w hh => (.tmp Y .nil)) (fun w hh => ⟨(), rfl, trivial, hh.se [] [] 5 Y Y Y rfl⟩)
def kM (s0 : (List Sand)) (f1_c0_c0_f0 : Channel) (s : Int) : Option (Int ⊕ (Unit ⊕ Int)) :=
 if s < (s0.length : Int) then
 ((ix s0 s).bind fun t14 =>
 (kr (⟨(⟨t14.span.lo, t14.span.hi⟩ : Span), t14.reach⟩ : Sand) f1_c0_c0_f0).bind fun t16 =>
 if t16 = true then
 (some (.inr (.inr s))) else
 ((addc s 1).bind fun t18 =>
 some (.inl t18))) else
 (some (.inr (.inl ())))
def ki (s0 : (List Sand)) (f1_c0_c0_f0 : Channel) : Option Int :=
 (iterM FU (kM s0 f1_c0_c0_f0) 0).bind fun o =>
 oc o (fun j => some (-1)) (fun r_1 => some r_1)
theorem JP (s0 : (List Sand)) (f1_c0_c0_f0 : Channel) (qa0 : Option Addr) (na0 ca0 : Nat) (rb : Nat) (rb_1 : Nat) (qa3 : Option Addr) (na3 ca3 : Nat) (qa4 : Option Addr) (na4 ca4 : Nat) (qa5 : Option Addr) (na5 ca5 : Nat) (w : World) (hw : HV w (keys [] []) [] [] [(aB qa0, aO qa0, RSa.enc s0), (rb, 0, [.func (.func 136) #[] #[ptr rb_1 0]]), (rb_1, 0, [.func (.func 131) #[.agg #[.int .i64 f1_c0_c0_f0.cells, .int .i64 f1_c0_c0_f0.tides, .slice qa3 na3 ca3, .slice qa4 na4 ca4, .slice qa5 na5 ca5]] #[]]), (aB qa3, aO qa3, RI.enc f1_c0_c0_f0.fords), (aB qa4, aO qa4, RSa.enc f1_c0_c0_f0.sands), (aB qa5, aO qa5, RSi.enc f1_c0_c0_f0.sights)] w) (hna0 : s0.length = na0) (hqa0 : AOK na0 qa0) (hla0 : na0 ≤ ca0)   (hna3 : f1_c0_c0_f0.fords.length = na3) (hqa3 : AOK na3 qa3) (hla3 : na3 ≤ ca3) (hna4 : f1_c0_c0_f0.sands.length = na4) (hqa4 : AOK na4 qa4) (hla4 : na4 ≤ ca4) (hna5 : f1_c0_c0_f0.sights.length = na5) (hqa5 : AOK na5 qa5) (hla5 : na5 ≤ ca5) {res : Int} (hm : ki s0 f1_c0_c0_f0 = some res) :
    Calls Tryz.prog 202 #[.slice qa0 na0 ca0, .func (.func 175) #[] #[ptr rb 0]] w (fun en w' => ∃ l : Unit, en = .returned (.int .i64 res) ∧ (True) ∧ HV w (keys [] []) [] [] [] w') := by
  unfold ki at hm
  refine yd func202 Y ntmps202 Y (e := [(0, _), (1, _)]) Y hw (jt (jp Y Y (jq (jh (jt (jk Y Y (jc Y Y Y (fun w _ => jR hna0 (runUnderlying23 w) Y) ?_)))))))
  refine jk Y Y (jq ?_)
  obtain ⟨o, h1, h2⟩ := bindO hm
  refine jI (ι := Unit) (fun j => o = .inl j) (fun j => []) (fun j => []) (fun j => []) ?_ ?_
  ·replace hm := h1
   refine jm ?_
   refine jM (ι := Unit) hm (fun s l => True) (fun s l => [(0, .slice qa0 na0 ca0), (1, .func (.func 175) #[] #[ptr rb 0]), (7, .int .i64 (s0.length : Int)), (8, .int .i64 s)]) (fun s l => []) (fun s l => []) () (trivial) (sE Y) (fun w hh => hh) (fun s l r hpl hm h3 => ?_)
   unfold kM at hm
   refine jt (Jo Y Y Y (jq (jh ?_)))
   refine jr Y (fun h4 => ?_) (fun h4 => ?_)
   ·replace hm := ifD h4 hm
    refine js (ja (jh (jm (jt (jk Y Y (jp Y Y (qs ?_)))))))
    refine jk Y Y (jk Y Y (jk Y Y ?_))
    obtain ⟨t14, h5, hm⟩ := bindO hm
    refine jc Y Y Y (fun w _ => qx h5 (runUnderlying23 w) (sizeOf98 w) Y Y hna0 hqa0) ?_
    refine jc Y Y Y (fun w hh => Jy RSa 0 [.int .i64 t14.span.lo, .int .i64 t14.span.hi, .int .i64 t14.reach] h5 (isAgg98 w) (sizeOf98 w) Y (hh.seg 0 Y) Y (Nat.add_zero _).symm) ?_
    obtain ⟨t16, h6, hm⟩ := bindO hm
    refine jd [] [] Y Y Y Y Y Y Y call175 (fun w hh => KP (⟨(⟨t14.span.lo, t14.span.hi⟩ : Span), t14.reach⟩ : Sand) f1_c0_c0_f0 rb rb_1 qa3 na3 ca3 qa4 na4 ca4 qa5 na5 ca5 w (HV.callee (S0 := []) (vs0 := []) hh (roR hh 1 Y (roR hh 2 Y (roR hh 3 Y (roR hh 4 Y (roR hh 5 Y roN)))))) hna3 hqa3 hla3 hna4 hqa4 hla4 hna5 hqa5 hla5 h6) (fun l_1 h7 => ?_)
    refine jq ?_
    refine jr Y (fun h8 => ?_) (fun h8 => ?_)
    ·replace hm := ifT (h8) hm
     refine jt (jk Y Y (jp Y Y (jq (jz (jB (je (je ?_)))))))
     refine jB ?_
     obtain rfl := sj hm
     have hbo := h3 _ Y
     subst hbo
     refine je ?_
     replace hm := ocR h2
     refine je ?_
     obtain rfl := sj hm
     refine jn Y (fun w hh => (.tmp Y .nil)) (fun w hh => ⟨(), rfl, trivial, hh.se [] [] 6 Y Y Y rfl⟩)
    replace hm := ifN h8 hm
    refine js (jx (ja (jg ?_)))
    obtain ⟨t18, h9, hm⟩ := bindO hm
    refine JG h9 Y Y Y (jk Y Y (ju ?_))
    obtain rfl := sj hm
    refine ja ?_
    exact jC _ () Y (trivial) (sE Y) (fun w hh => hh)
   replace hm := ifE h4 hm
   refine jS (ji (ji (jD ?_)))
   obtain rfl := sj hm
   have hbo := h3 _ Y
   subst hbo
   exact jj () (Y) (.nil) (fun w hh => hh)
  intro j hj
  have h10 := hj
  subst h10
  replace hm := ocL h2
  refine ja (jt (jp Y Y (jq (jz ?_))))
  obtain rfl := sj hm
  refine jn Y (fun w hh => (.tmp Y .nil)) (fun w hh => ⟨(), rfl, trivial, hh.se [] [] 6 Y Y Y rfl⟩)
def j6 (s0 : (List Sand)) (f1_c0_c0_f0 : Channel) : Option Bool :=
 (ki s0 f1_c0_c0_f0).bind fun t7 =>
 some (decide (0 ≤ t7))
theorem Jk (s0 : (List Sand)) (f1_c0_c0_f0 : Channel) (qa0 : Option Addr) (na0 ca0 : Nat) (rb : Nat) (rb_1 : Nat) (qa3 : Option Addr) (na3 ca3 : Nat) (qa4 : Option Addr) (na4 ca4 : Nat) (qa5 : Option Addr) (na5 ca5 : Nat) (w : World) (hw : HV w (keys [] []) [] [] [(aB qa0, aO qa0, RSa.enc s0), (rb, 0, [.func (.func 136) #[] #[ptr rb_1 0]]), (rb_1, 0, [.func (.func 131) #[.agg #[.int .i64 f1_c0_c0_f0.cells, .int .i64 f1_c0_c0_f0.tides, .slice qa3 na3 ca3, .slice qa4 na4 ca4, .slice qa5 na5 ca5]] #[]]), (aB qa3, aO qa3, RI.enc f1_c0_c0_f0.fords), (aB qa4, aO qa4, RSa.enc f1_c0_c0_f0.sands), (aB qa5, aO qa5, RSi.enc f1_c0_c0_f0.sights)] w) (hna0 : s0.length = na0) (hqa0 : AOK na0 qa0) (hla0 : na0 ≤ ca0)   (hna3 : f1_c0_c0_f0.fords.length = na3) (hqa3 : AOK na3 qa3) (hla3 : na3 ≤ ca3) (hna4 : f1_c0_c0_f0.sands.length = na4) (hqa4 : AOK na4 qa4) (hla4 : na4 ≤ ca4) (hna5 : f1_c0_c0_f0.sights.length = na5) (hqa5 : AOK na5 qa5) (hla5 : na5 ≤ ca5) {res : Bool} (hm : j6 s0 f1_c0_c0_f0 = some res) :
    Calls Tryz.prog 174 #[.slice qa0 na0 ca0, .func (.func 175) #[] #[ptr rb 0]] w (fun en w' => ∃ l : Unit, en = .returned (.bool res) ∧ (True) ∧ HV w (keys [] []) [] [] [] w') := by
  unfold j6 at hm
  refine yd func174 Y ntmps174 Y (e := [(0, _), (1, _)]) Y hw (jt (jp Y Y (qs (jk Y Y (jk Y Y ?_)))))
  obtain ⟨t7, h1, hm⟩ := bindO hm
  refine jd [] [] Y Y Y Y Y Y Y call202 (fun w hh => JP s0 f1_c0_c0_f0 qa0 na0 ca0 rb rb_1 qa3 na3 ca3 qa4 na4 ca4 qa5 na5 ca5 w (HV.callee (S0 := []) (vs0 := []) hh (roR hh 0 Y (roR hh 1 Y (roR hh 2 Y (roR hh 3 Y (roR hh 4 Y (roR hh 5 Y roN))))))) hna0 hqa0 hla0 hna3 hqa3 hla3 hna4 hqa4 hla4 hna5 hqa5 hla5 h1) (fun l h2 => ?_)
  refine jc Y Y Y (fun _ _ => YI Y Y) (jp Y Y (jq (jz ?_)))
  obtain rfl := sj hm
  refine jn Y (fun w hh => (.tmp Y .nil)) (fun w hh => ⟨(), rfl, trivial, hh.se [] [] 6 Y Y Y rfl⟩)
def kW (l0 : (List Sand)) (holds1_c0_f0 : Channel) : Option Bool :=
 (j6 l0 holds1_c0_f0).bind fun t7 =>
 some (!t7)
theorem K7 (l0 : (List Sand)) (holds1_c0_f0 : Channel) (qa0 : Option Addr) (na0 ca0 : Nat) (rb : Nat) (qa2 : Option Addr) (na2 ca2 : Nat) (qa3 : Option Addr) (na3 ca3 : Nat) (qa4 : Option Addr) (na4 ca4 : Nat) (w : World) (hw : HV w (keys [] []) [] [] [(aB qa0, aO qa0, RSa.enc l0), (rb, 0, [.func (.func 131) #[.agg #[.int .i64 holds1_c0_f0.cells, .int .i64 holds1_c0_f0.tides, .slice qa2 na2 ca2, .slice qa3 na3 ca3, .slice qa4 na4 ca4]] #[]]), (aB qa2, aO qa2, RI.enc holds1_c0_f0.fords), (aB qa3, aO qa3, RSa.enc holds1_c0_f0.sands), (aB qa4, aO qa4, RSi.enc holds1_c0_f0.sights)] w) (hna0 : l0.length = na0) (hqa0 : AOK na0 qa0) (hla0 : na0 ≤ ca0)  (hna2 : holds1_c0_f0.fords.length = na2) (hqa2 : AOK na2 qa2) (hla2 : na2 ≤ ca2) (hna3 : holds1_c0_f0.sands.length = na3) (hqa3 : AOK na3 qa3) (hla3 : na3 ≤ ca3) (hna4 : holds1_c0_f0.sights.length = na4) (hqa4 : AOK na4 qa4) (hla4 : na4 ≤ ca4) {res : Bool} (hm : kW l0 holds1_c0_f0 = some res) :
    Calls Tryz.prog 132 #[.slice qa0 na0 ca0, .func (.func 136) #[] #[ptr rb 0]] w (fun en w' => ∃ l : Unit, en = .returned (.bool res) ∧ (True) ∧ HV w (keys [] []) [] [] [] w') := by
  unfold kW at hm
  refine yd func132 Y ntmps132 Y (e := [(0, _), (1, _)]) Y hw (jt ?_)
  refine jP Y Y (fun b h1 => ?_)
  refine jp Y Y (qs (jk Y Y (jc Y Y Y (fun _ _ => k5 (u := #[]) (u' := #[_]) Y Y) ?_)))
  obtain ⟨t7, h2, hm⟩ := bindO hm
  refine jd [] [] Y Y Y Y Y Y Y call174 (fun w hh => Jk l0 holds1_c0_f0 qa0 na0 ca0 b rb qa2 na2 ca2 qa3 na3 ca3 qa4 na4 ca4 w (HV.callee (S0 := []) (vs0 := []) hh (roR hh 0 Y (roC (bsep (hh.bseg 0 Y)) (roR hh 1 Y (roR hh 2 Y (roR hh 3 Y (roR hh 4 Y roN))))))) hna0 hqa0 hla0 hna2 hqa2 hla2 hna3 hqa3 hla3 hna4 hqa4 hla4 h2) (fun l h3 => ?_)
  refine jc Y Y Y (fun _ _ => ze Y) (jp Y Y (jq (jz ?_)))
  obtain rfl := sj hm
  refine jn Y (fun w hh => (.tmp Y .nil)) (fun w hh => ⟨(), rfl, trivial, hh.se [] [] 5 Y Y Y rfl⟩)
def J3 (s0 : Sight) (a11_f0 : Channel) : Option Bool :=
 (kt a11_f0 s0.cell).bind fun t7 =>
 some t7
theorem YU (s0 : Sight) (a11_f0 : Channel) (rb : Nat) (qa1 : Option Addr) (na1 ca1 : Nat) (qa2 : Option Addr) (na2 ca2 : Nat) (qa3 : Option Addr) (na3 ca3 : Nat) (w : World) (hw : HV w (keys [] []) [] [] [(rb, 0, [.func (.func 131) #[.agg #[.int .i64 a11_f0.cells, .int .i64 a11_f0.tides, .slice qa1 na1 ca1, .slice qa2 na2 ca2, .slice qa3 na3 ca3]] #[]]), (aB qa1, aO qa1, RI.enc a11_f0.fords), (aB qa2, aO qa2, RSa.enc a11_f0.sands), (aB qa3, aO qa3, RSi.enc a11_f0.sights)] w)  (hna1 : a11_f0.fords.length = na1) (hqa1 : AOK na1 qa1) (hla1 : na1 ≤ ca1) (hna2 : a11_f0.sands.length = na2) (hqa2 : AOK na2 qa2) (hla2 : na2 ≤ ca2) (hna3 : a11_f0.sights.length = na3) (hqa3 : AOK na3 qa3) (hla3 : na3 ≤ ca3) {res : Bool} (hm : J3 s0 a11_f0 = some res) :
    Calls Tryz.prog 137 #[.agg #[.int .i64 s0.after, .int .i64 s0.cell, .bool s0.upright], ptr rb 0] w (fun en w' => ∃ l : Unit, en = .returned (.bool res) ∧ (True) ∧ HV w (keys [] []) [] [] [] w') := by
  unfold J3 at hm
  refine yd func137 Y ntmps137 Y (e := [(0, _), (1, _)]) Y hw (jt ?_)
  refine jP Y Y (fun b h1 => ?_)
  refine jp Y Y (qs (jc Y Y Y (fun w hh => jL (isAgg102 w) Y (segCell (hh.seg 0 Y) 0 Y)) (qT 1 runUnderlying55 Y sizeOf3 Y Y (qq 0 isAgg3 Y Y Y Y ?_))))
  obtain ⟨t7, h2, hm⟩ := bindO hm
  refine jd [] [] Y Y Y Y Y Y Y call131 (fun w hh => zr a11_f0 s0.cell qa1 na1 ca1 qa2 na2 ca2 qa3 na3 ca3 w (HV.callee (S0 := []) (vs0 := []) hh (roR hh 1 Y (roR hh 2 Y (roR hh 3 Y roN)))) hna1 hqa1 hla1 hna2 hqa2 hla2 hna3 hqa3 hla3 h2) (fun l h3 => ?_)
  refine jp Y Y (jq (jz ?_))
  obtain rfl := sj hm
  refine jn Y (fun w hh => (.tmp Y .nil)) (fun w hh => ⟨(), rfl, trivial, hh.se [] [] 4 Y Y Y rfl⟩)
def kn (x0 : Sight) (a11_c0_f0 : Channel) : Option Bool :=
 (J3 x0 a11_c0_f0).bind fun t6 =>
 some (!t6)
theorem KB (x0 : Sight) (a11_c0_f0 : Channel) (rb : Nat) (rb_1 : Nat) (qa2 : Option Addr) (na2 ca2 : Nat) (qa3 : Option Addr) (na3 ca3 : Nat) (qa4 : Option Addr) (na4 ca4 : Nat) (w : World) (hw : HV w (keys [] []) [] [] [(rb, 0, [.func (.func 137) #[] #[ptr rb_1 0]]), (rb_1, 0, [.func (.func 131) #[.agg #[.int .i64 a11_c0_f0.cells, .int .i64 a11_c0_f0.tides, .slice qa2 na2 ca2, .slice qa3 na3 ca3, .slice qa4 na4 ca4]] #[]]), (aB qa2, aO qa2, RI.enc a11_c0_f0.fords), (aB qa3, aO qa3, RSa.enc a11_c0_f0.sands), (aB qa4, aO qa4, RSi.enc a11_c0_f0.sights)] w)   (hna2 : a11_c0_f0.fords.length = na2) (hqa2 : AOK na2 qa2) (hla2 : na2 ≤ ca2) (hna3 : a11_c0_f0.sands.length = na3) (hqa3 : AOK na3 qa3) (hla3 : na3 ≤ ca3) (hna4 : a11_c0_f0.sights.length = na4) (hqa4 : AOK na4 qa4) (hla4 : na4 ≤ ca4) {res : Bool} (hm : kn x0 a11_c0_f0 = some res) :
    Calls Tryz.prog 176 #[.agg #[.int .i64 x0.after, .int .i64 x0.cell, .bool x0.upright], ptr rb 0] w (fun en w' => ∃ l : Unit, en = .returned (.bool res) ∧ (True) ∧ HV w (keys [] []) [] [] [] w') := by
  unfold kn at hm
  refine yd func176 Y ntmps176 Y (e := [(0, _), (1, _)]) Y hw (jt ?_)
  refine jP Y Y (fun b h1 => ?_)
  refine jp Y Y (qs (jc Y Y Y (fun w hh => jL (isAgg190 w) Y (segCell (hh.seg 0 Y) 0 Y)) (Jp [_, _, _] 0 isAgg55 sizeOf55 Y Y Y Y ?_)))
  obtain ⟨t6, h2, hm⟩ := bindO hm
  refine jd [] [] Y Y Y Y Y Y Y call137 (fun w hh => YU x0 a11_c0_f0 rb_1 qa2 na2 ca2 qa3 na3 ca3 qa4 na4 ca4 w (HV.callee (S0 := []) (vs0 := []) hh (roR hh 1 Y (roR hh 2 Y (roR hh 3 Y (roR hh 4 Y roN))))) hna2 hqa2 hla2 hna3 hqa3 hla3 hna4 hqa4 hla4 h2) (fun l h3 => ?_)
  refine jc Y Y Y (fun _ _ => ze Y) (jp Y Y (jq (jz ?_)))
  obtain rfl := sj hm
  refine jn Y (fun w hh => (.tmp Y .nil)) (fun w hh => ⟨(), rfl, trivial, hh.se [] [] 5 Y Y Y rfl⟩)
def kz (s0 : (List Sight)) (f1_c0_c0_f0 : Channel) (s : Int) : Option (Int ⊕ (Unit ⊕ Int)) :=
 if s < (s0.length : Int) then
 ((ix s0 s).bind fun t14 =>
 (kn (⟨t14.after, t14.cell, t14.upright⟩ : Sight) f1_c0_c0_f0).bind fun t16 =>
 if t16 = true then
 (some (.inr (.inr s))) else
 ((addc s 1).bind fun t18 =>
 some (.inl t18))) else
 (some (.inr (.inl ())))
def kd (s0 : (List Sight)) (f1_c0_c0_f0 : Channel) : Option Int :=
 (iterM FU (kz s0 f1_c0_c0_f0) 0).bind fun o =>
 oc o (fun j => some (-1)) (fun r_1 => some r_1)
theorem Jx (s0 : (List Sight)) (f1_c0_c0_f0 : Channel) (qa0 : Option Addr) (na0 ca0 : Nat) (rb : Nat) (rb_1 : Nat) (qa3 : Option Addr) (na3 ca3 : Nat) (qa4 : Option Addr) (na4 ca4 : Nat) (qa5 : Option Addr) (na5 ca5 : Nat) (w : World) (hw : HV w (keys [] []) [] [] [(aB qa0, aO qa0, RSi.enc s0), (rb, 0, [.func (.func 137) #[] #[ptr rb_1 0]]), (rb_1, 0, [.func (.func 131) #[.agg #[.int .i64 f1_c0_c0_f0.cells, .int .i64 f1_c0_c0_f0.tides, .slice qa3 na3 ca3, .slice qa4 na4 ca4, .slice qa5 na5 ca5]] #[]]), (aB qa3, aO qa3, RI.enc f1_c0_c0_f0.fords), (aB qa4, aO qa4, RSa.enc f1_c0_c0_f0.sands), (aB qa5, aO qa5, RSi.enc f1_c0_c0_f0.sights)] w) (hna0 : s0.length = na0) (hqa0 : AOK na0 qa0) (hla0 : na0 ≤ ca0)   (hna3 : f1_c0_c0_f0.fords.length = na3) (hqa3 : AOK na3 qa3) (hla3 : na3 ≤ ca3) (hna4 : f1_c0_c0_f0.sands.length = na4) (hqa4 : AOK na4 qa4) (hla4 : na4 ≤ ca4) (hna5 : f1_c0_c0_f0.sights.length = na5) (hqa5 : AOK na5 qa5) (hla5 : na5 ≤ ca5) {res : Int} (hm : kd s0 f1_c0_c0_f0 = some res) :
    Calls Tryz.prog 183 #[.slice qa0 na0 ca0, .func (.func 176) #[] #[ptr rb 0]] w (fun en w' => ∃ l : Unit, en = .returned (.int .i64 res) ∧ (True) ∧ HV w (keys [] []) [] [] [] w') := by
  unfold kd at hm
  refine yd func183 Y ntmps183 Y (e := [(0, _), (1, _)]) Y hw (jt (jp Y Y (jq (jh (jt (jk Y Y (jc Y Y Y (fun w _ => jR hna0 (runUnderlying24 w) Y) ?_)))))))
  refine jk Y Y (jq ?_)
  obtain ⟨o, h1, h2⟩ := bindO hm
  refine jI (ι := Unit) (fun j => o = .inl j) (fun j => []) (fun j => []) (fun j => []) ?_ ?_
  ·replace hm := h1
   refine jm ?_
   refine jM (ι := Unit) hm (fun s l => True) (fun s l => [(0, .slice qa0 na0 ca0), (1, .func (.func 176) #[] #[ptr rb 0]), (7, .int .i64 (s0.length : Int)), (8, .int .i64 s)]) (fun s l => []) (fun s l => []) () (trivial) (sE Y) (fun w hh => hh) (fun s l r hpl hm h3 => ?_)
   unfold kz at hm
   refine jt (Jo Y Y Y (jq (jh ?_)))
   refine jr Y (fun h4 => ?_) (fun h4 => ?_)
   ·replace hm := ifD h4 hm
    refine js (ja (jh (jm (jt (jk Y Y (jp Y Y (qs ?_)))))))
    refine jk Y Y (jk Y Y (jk Y Y ?_))
    obtain ⟨t14, h5, hm⟩ := bindO hm
    refine jc Y Y Y (fun w _ => qx h5 (runUnderlying24 w) (sizeOf55 w) Y Y hna0 hqa0) ?_
    refine jc Y Y Y (fun w hh => Jy RSi 0 [.int .i64 t14.after, .int .i64 t14.cell, .bool t14.upright] h5 (isAgg55 w) (sizeOf55 w) Y (hh.seg 0 Y) Y (Nat.add_zero _).symm) ?_
    obtain ⟨t16, h6, hm⟩ := bindO hm
    refine jd [] [] Y Y Y Y Y Y Y call176 (fun w hh => KB (⟨t14.after, t14.cell, t14.upright⟩ : Sight) f1_c0_c0_f0 rb rb_1 qa3 na3 ca3 qa4 na4 ca4 qa5 na5 ca5 w (HV.callee (S0 := []) (vs0 := []) hh (roR hh 1 Y (roR hh 2 Y (roR hh 3 Y (roR hh 4 Y (roR hh 5 Y roN)))))) hna3 hqa3 hla3 hna4 hqa4 hla4 hna5 hqa5 hla5 h6) (fun l_1 h7 => ?_)
    refine jq ?_
    refine jr Y (fun h8 => ?_) (fun h8 => ?_)
    ·replace hm := ifT (h8) hm
     refine jt (jk Y Y (jp Y Y (jq (jz (jB (je (je ?_)))))))
     refine jB ?_
     obtain rfl := sj hm
     have hbo := h3 _ Y
     subst hbo
     refine je ?_
     replace hm := ocR h2
     refine je ?_
     obtain rfl := sj hm
     refine jn Y (fun w hh => (.tmp Y .nil)) (fun w hh => ⟨(), rfl, trivial, hh.se [] [] 6 Y Y Y rfl⟩)
    replace hm := ifN h8 hm
    refine js (jx (ja (jg ?_)))
    obtain ⟨t18, h9, hm⟩ := bindO hm
    refine JG h9 Y Y Y (jk Y Y (ju ?_))
    obtain rfl := sj hm
    refine ja ?_
    exact jC _ () Y (trivial) (sE Y) (fun w hh => hh)
   replace hm := ifE h4 hm
   refine jS (ji (ji (jD ?_)))
   obtain rfl := sj hm
   have hbo := h3 _ Y
   subst hbo
   exact jj () (Y) (.nil) (fun w hh => hh)
  intro j hj
  have h10 := hj
  subst h10
  replace hm := ocL h2
  refine ja (jt (jp Y Y (jq (jz ?_))))
  obtain rfl := sj hm
  refine jn Y (fun w hh => (.tmp Y .nil)) (fun w hh => ⟨(), rfl, trivial, hh.se [] [] 6 Y Y Y rfl⟩)
def jY (s0 : (List Sight)) (f1_c0_c0_f0 : Channel) : Option Bool :=
 (kd s0 f1_c0_c0_f0).bind fun t7 =>
 some (decide (0 ≤ t7))
theorem z7 (s0 : (List Sight)) (f1_c0_c0_f0 : Channel) (qa0 : Option Addr) (na0 ca0 : Nat) (rb : Nat) (rb_1 : Nat) (qa3 : Option Addr) (na3 ca3 : Nat) (qa4 : Option Addr) (na4 ca4 : Nat) (qa5 : Option Addr) (na5 ca5 : Nat) (w : World) (hw : HV w (keys [] []) [] [] [(aB qa0, aO qa0, RSi.enc s0), (rb, 0, [.func (.func 137) #[] #[ptr rb_1 0]]), (rb_1, 0, [.func (.func 131) #[.agg #[.int .i64 f1_c0_c0_f0.cells, .int .i64 f1_c0_c0_f0.tides, .slice qa3 na3 ca3, .slice qa4 na4 ca4, .slice qa5 na5 ca5]] #[]]), (aB qa3, aO qa3, RI.enc f1_c0_c0_f0.fords), (aB qa4, aO qa4, RSa.enc f1_c0_c0_f0.sands), (aB qa5, aO qa5, RSi.enc f1_c0_c0_f0.sights)] w) (hna0 : s0.length = na0) (hqa0 : AOK na0 qa0) (hla0 : na0 ≤ ca0)   (hna3 : f1_c0_c0_f0.fords.length = na3) (hqa3 : AOK na3 qa3) (hla3 : na3 ≤ ca3) (hna4 : f1_c0_c0_f0.sands.length = na4) (hqa4 : AOK na4 qa4) (hla4 : na4 ≤ ca4) (hna5 : f1_c0_c0_f0.sights.length = na5) (hqa5 : AOK na5 qa5) (hla5 : na5 ≤ ca5) {res : Bool} (hm : jY s0 f1_c0_c0_f0 = some res) :
    Calls Tryz.prog 150 #[.slice qa0 na0 ca0, .func (.func 176) #[] #[ptr rb 0]] w (fun en w' => ∃ l : Unit, en = .returned (.bool res) ∧ (True) ∧ HV w (keys [] []) [] [] [] w') := by
  unfold jY at hm
  refine yd func150 Y ntmps150 Y (e := [(0, _), (1, _)]) Y hw (jt (jp Y Y (qs (jk Y Y (jk Y Y ?_)))))
  obtain ⟨t7, h1, hm⟩ := bindO hm
  refine jd [] [] Y Y Y Y Y Y Y call183 (fun w hh => Jx s0 f1_c0_c0_f0 qa0 na0 ca0 rb rb_1 qa3 na3 ca3 qa4 na4 ca4 qa5 na5 ca5 w (HV.callee (S0 := []) (vs0 := []) hh (roR hh 0 Y (roR hh 1 Y (roR hh 2 Y (roR hh 3 Y (roR hh 4 Y (roR hh 5 Y roN))))))) hna0 hqa0 hla0 hna3 hqa3 hla3 hna4 hqa4 hla4 hna5 hqa5 hla5 h1) (fun l h2 => ?_)
  refine jc Y Y Y (fun _ _ => YI Y Y) (jp Y Y (jq (jz ?_)))
  obtain rfl := sj hm
  refine jn Y (fun w hh => (.tmp Y .nil)) (fun w hh => ⟨(), rfl, trivial, hh.se [] [] 6 Y Y Y rfl⟩)
def kL (l0 : (List Sight)) (holds1_c0_f0 : Channel) : Option Bool :=
 (jY l0 holds1_c0_f0).bind fun t7 =>
 some (!t7)
theorem KW (l0 : (List Sight)) (holds1_c0_f0 : Channel) (qa0 : Option Addr) (na0 ca0 : Nat) (rb : Nat) (qa2 : Option Addr) (na2 ca2 : Nat) (qa3 : Option Addr) (na3 ca3 : Nat) (qa4 : Option Addr) (na4 ca4 : Nat) (w : World) (hw : HV w (keys [] []) [] [] [(aB qa0, aO qa0, RSi.enc l0), (rb, 0, [.func (.func 131) #[.agg #[.int .i64 holds1_c0_f0.cells, .int .i64 holds1_c0_f0.tides, .slice qa2 na2 ca2, .slice qa3 na3 ca3, .slice qa4 na4 ca4]] #[]]), (aB qa2, aO qa2, RI.enc holds1_c0_f0.fords), (aB qa3, aO qa3, RSa.enc holds1_c0_f0.sands), (aB qa4, aO qa4, RSi.enc holds1_c0_f0.sights)] w) (hna0 : l0.length = na0) (hqa0 : AOK na0 qa0) (hla0 : na0 ≤ ca0)  (hna2 : holds1_c0_f0.fords.length = na2) (hqa2 : AOK na2 qa2) (hla2 : na2 ≤ ca2) (hna3 : holds1_c0_f0.sands.length = na3) (hqa3 : AOK na3 qa3) (hla3 : na3 ≤ ca3) (hna4 : holds1_c0_f0.sights.length = na4) (hqa4 : AOK na4 qa4) (hla4 : na4 ≤ ca4) {res : Bool} (hm : kL l0 holds1_c0_f0 = some res) :
    Calls Tryz.prog 134 #[.slice qa0 na0 ca0, .func (.func 137) #[] #[ptr rb 0]] w (fun en w' => ∃ l : Unit, en = .returned (.bool res) ∧ (True) ∧ HV w (keys [] []) [] [] [] w') := by
  unfold kL at hm
  refine yd func134 Y ntmps134 Y (e := [(0, _), (1, _)]) Y hw (jt ?_)
  refine jP Y Y (fun b h1 => ?_)
  refine jp Y Y (qs (jk Y Y (jc Y Y Y (fun _ _ => k5 (u := #[]) (u' := #[_]) Y Y) ?_)))
  obtain ⟨t7, h2, hm⟩ := bindO hm
  refine jd [] [] Y Y Y Y Y Y Y call150 (fun w hh => z7 l0 holds1_c0_f0 qa0 na0 ca0 b rb qa2 na2 ca2 qa3 na3 ca3 qa4 na4 ca4 w (HV.callee (S0 := []) (vs0 := []) hh (roR hh 0 Y (roC (bsep (hh.bseg 0 Y)) (roR hh 1 Y (roR hh 2 Y (roR hh 3 Y (roR hh 4 Y roN))))))) hna0 hqa0 hla0 hna2 hqa2 hla2 hna3 hqa3 hla3 hna4 hqa4 hla4 h2) (fun l h3 => ?_)
  refine jc Y Y Y (fun _ _ => ze Y) (jp Y Y (jq (jz ?_)))
  obtain rfl := sj hm
  refine jn Y (fun w hh => (.tmp Y .nil)) (fun w hh => ⟨(), rfl, trivial, hh.se [] [] 5 Y Y Y rfl⟩)
def Jz (x0 : Int) : Option Bool :=
 some (!decide (x0 = x0))
theorem Q0 (x0 : Int)  (w : World) (hw : HV w (keys [] []) [] [] [] w)  {res : Bool} (hm : Jz x0 = some res) :
    Calls Tryz.prog 224 #[.int .i64 x0] w (fun en w' => ∃ l : Unit, en = .returned (.bool res) ∧ (True) ∧ HV w (keys [] []) [] [] [] w') := by
  unfold Jz at hm
  refine yd func224 Y ntmps224 Y (e := [(0, _)]) Y hw (jt (jp Y Y (qs (jk Y Y (jk Y Y (jc Y Y Y (fun _ _ => Jr Y Y) (jp Y Y ?_)))))))
  refine jq (jz ?_)
  obtain rfl := sj hm
  refine jn Y (fun w hh => (.tmp Y .nil)) (fun w hh => ⟨(), rfl, trivial, hh⟩)
def JX (x0 : Int) (y1 : Int) : Option Bool :=
 ((Jz x0).bind fun t6 =>
 if t6 = true then
 ((Jz y1).bind fun t9 =>
 if (!t9) = true then
 (some true) else
 (some (decide (x0 < y1)))) else
 (some (decide (x0 < y1)))).bind fun o =>
 some o
theorem Zk (x0 : Int) (y1 : Int)  (w : World) (hw : HV w (keys [] []) [] [] [] w)  {res : Bool} (hm : JX x0 y1 = some res) :
    Calls Tryz.prog 197 #[.int .i64 x0, .int .i64 y1] w (fun en w' => ∃ l : Unit, en = .returned (.bool res) ∧ (True) ∧ HV w (keys [] []) [] [] [] w') := by
  unfold JX at hm
  refine yd func197 Y ntmps197 Y (e := [(0, _), (1, _)]) Y hw (jt (jp Y Y (jq (jh ?_))))
  obtain ⟨o, h1, h2⟩ := bindO hm
  refine jI (ι := Unit) (fun l => True) (fun l => [(4, .bool o)]) (fun l => []) (fun l => []) ?_ ?_
  ·replace hm := h1
   refine jg (jk Y Y ?_)
   obtain ⟨t6, h3, hm⟩ := bindO hm
   refine jd [] [] Y Y Y Y Y Y Y call224 (fun w hh => Q0 x0 w (HV.callee (S0 := []) (vs0 := []) hh roN)  h3) (fun l_1 h4 => ?_)
   refine jk Y Y ?_
   refine jQ 7 Y (fun h5 => ?_) (fun h5 => ?_)
   ·replace hm := ifT (h5) hm
    refine jb Y Y (jk Y Y (jb Y Y ?_))
    obtain ⟨t9, h6, hm⟩ := bindO hm
    refine jd [] [] Y Y Y Y Y Y Y call224 (fun w hh => Q0 y1 w (HV.callee (S0 := []) (vs0 := []) hh roN)  h6) (fun l_2 h7 => ?_)
    refine jb Y Y (jc Y Y Y (fun _ _ => ze Y) (yx Y Y Y (jk Y Y ?_)))
    refine jQ 12 Y (fun h8 => ?_) (fun h8 => ?_)
    ·replace hm := ifT (h8) hm
     refine g_k Y Y Y Y (g_k Y Y Y Y (g_k Y Y Y Y (yx Y Y Y (jp Y Y (ju ?_)))))
     obtain rfl := sj hm
     exact jj () (trivial) (sE Y) (fun w hh => hh)
    replace hm := ifN h8 hm
    refine jb Y Y (jk Y Y (jb Y Y (jk Y Y (jb Y Y (Jo Y Y Y (y4 Y Y Y (jp Y Y ?_)))))))
    refine ju ?_
    obtain rfl := sj hm
    exact jj () (trivial) (sE Y) (fun w hh => hh)
   replace hm := ifN h5 hm
   refine g_k Y Y Y Y (g_k Y Y Y Y (g_k Y Y Y Y (y4 Y Y Y (jk Y Y (jb Y Y (jk Y Y (jb Y Y ?_)))))))
   refine jk Y Y (jb Y Y (Jo Y Y Y (y4 Y Y Y (jp Y Y (ju ?_)))))
   obtain rfl := sj hm
   exact jj () (trivial) (sE Y) (fun w hh => hh)
  intro l hj
  replace hm := h2
  refine ja (jz ?_)
  obtain rfl := sj hm
  refine jn Y (fun w hh => (.tmp Y .nil)) (fun w hh => ⟨(), rfl, trivial, hh⟩)
def qX (x0 : (List Int)) (s : Int) : Option (Int ⊕ (Unit ⊕ Bool)) :=
 if 0 < s then
 ((ix x0 s).bind fun t13 =>
 (subc s 1).bind fun t17 =>
 (ix x0 t17).bind fun t18 =>
 (JX t13 t18).bind fun t20 =>
 if t20 = true then
 (some (.inr (.inr false))) else
 ((subc s 1).bind fun t10 =>
 some (.inl t10))) else
 (some (.inr (.inl ())))
def yN (x0 : (List Int)) : Option Bool :=
 (subc (x0.length : Int) 1).bind fun t6 =>
 (iterM FU (qX x0) t6).bind fun o =>
 oc o (fun j => some true) (fun r_1 => some r_1)
theorem Q8 (x0 : (List Int)) (qa0 : Option Addr) (na0 ca0 : Nat) (w : World) (hw : HV w (keys [] []) [] [] [(aB qa0, aO qa0, RI.enc x0)] w) (hna0 : x0.length = na0) (hqa0 : AOK na0 qa0) (hla0 : na0 ≤ ca0) {res : Bool} (hm : yN x0 = some res) :
    Calls Tryz.prog 177 #[.slice qa0 na0 ca0] w (fun en w' => ∃ l : Unit, en = .returned (.bool res) ∧ (True) ∧ HV w (keys [] []) [] [] [] w') := by
  unfold yN at hm
  refine yd func177 Y ntmps177 Y (e := [(0, _)]) Y hw (jt (jp Y Y (jq (jh (jt (jk Y Y (jc Y Y Y (fun w _ => jR hna0 (runUnderlying22 w) Y) ?_)))))))
  obtain ⟨t6, h1, hm⟩ := bindO hm
  refine jc Y Y Y (fun _ _ => yX h1 Y Y) (jp Y Y (jq ?_))
  obtain ⟨o, h2, h3⟩ := bindO hm
  refine jI (ι := Unit) (fun j => o = .inl j) (fun j => []) (fun j => []) (fun j => []) ?_ ?_
  ·replace hm := h2
   refine jm ?_
   refine jM (ι := Unit) hm (fun s l => True) (fun s l => [(0, .slice qa0 na0 ca0), (3, .int .i64 s)]) (fun s l => []) (fun s l => []) () (trivial) (sE Y) (fun w hh => hh) (fun s l r hpl hm h4 => ?_)
   unfold qX at hm
   refine jh (jt (jk Y Y (jc Y Y Y (fun _ _ => Qz Y Y) (jq ?_))))
   refine jr Y (fun h5 => ?_) (fun h5 => ?_)
   ·replace hm := ifD h5 hm
    refine js (ja (jh (jm (jh ?_))))
    refine j5 none (.free 0 (.free 1 (.free 2 (.hoist 3 (.free 4 (.free 5 (.free 6 (.free 7 (.hoist 8 (.one 9 .done)))))))))) _ Y (by decide +kernel) (fun w k hh => hh.draw k) (fun w hh => hh) ?_
    refine k9 Y Y Y (k9 Y Y Y ?_)
    obtain ⟨t13, h6, hm⟩ := bindO hm
    refine jl Y Y Y Y (fun w _ => qx h6 (runUnderlying22 w) (sizeOf3 w) Y Y hna0 hqa0) (jw Y Y Y Y (fun w hh => ka RI 0 h6 (isAgg3 w) Y (hh.seg 0 Y) Y (Nat.add_zero _).symm) (k9 Y Y Y (k9 Y Y Y ?_)))
    obtain ⟨t17, h7, hm⟩ := bindO hm
    refine jl Y Y Y Y (fun _ _ => yX h7 Y Y) ?_
    obtain ⟨t18, h8, hm⟩ := bindO hm
    refine jl Y Y Y Y (fun w _ => qx h8 (runUnderlying22 w) (sizeOf3 w) Y Y hna0 hqa0) (jw Y Y Y Y (fun w hh => ka RI 0 h8 (isAgg3 w) Y (hh.seg 0 Y) Y (Nat.add_zero _).symm) (jF Y ?_))
    obtain ⟨t20, h9, hm⟩ := bindO hm
    refine jd [] [] Y Y Y Y Y Y Y call197 (fun w hh => Zk t13 t18 w (HV.callee (S0 := []) (vs0 := []) hh roN)  h9) (fun l_1 h10 => ?_)
    refine jo (fun w hh => hh) (jG (ja ?_))
    refine jr Y (fun h11 => ?_) (fun h11 => ?_)
    ·replace hm := ifT (h11) hm
     refine jt (jp Y Y (jq (jz (jB (je (je (jB ?_)))))))
     obtain rfl := sj hm
     have hbo := h4 _ Y
     subst hbo
     refine je ?_
     replace hm := ocR h3
     refine je ?_
     obtain rfl := sj hm
     refine jn Y (fun w hh => (.tmp Y .nil)) (fun w hh => ⟨(), rfl, trivial, hh.se [] [] 1 Y Y Y rfl⟩)
    replace hm := ifN h11 hm
    refine js (jx (ja (jg (jk Y Y ?_))))
    obtain ⟨t10, h12, hm⟩ := bindO hm
    refine jc Y Y Y (fun _ _ => yX h12 Y Y) (jp Y Y (ju ?_))
    obtain rfl := sj hm
    refine ja ?_
    exact jC _ () Y (trivial) (sE Y) (fun w hh => hh)
   replace hm := ifE h5 hm
   refine jS (ji (ji (jD ?_)))
   obtain rfl := sj hm
   have hbo := h4 _ Y
   subst hbo
   exact jj () (Y) (.nil) (fun w hh => hh)
  intro j hj
  have h13 := hj
  subst h13
  replace hm := ocL h3
  refine ja (jt (jp Y Y (jq (jz ?_))))
  obtain rfl := sj hm
  refine jn Y (fun w hh => (.tmp Y .nil)) (fun w hh => ⟨(), rfl, trivial, hh.se [] [] 1 Y Y Y rfl⟩)
def qa (s0 : (List Int)) : Option (List Int) :=
 (appc 8 [] s0).bind fun t7 =>
 some t7
theorem yb (s0 : (List Int)) (qa0 : Option Addr) (na0 ca0 : Nat) (w : World) (hw : HV w (keys [] []) [] [] [(aB qa0, aO qa0, RI.enc s0)] w) (hna0 : s0.length = na0) (hqa0 : AOK na0 qa0) (hla0 : na0 ≤ ca0) {res : (List Int)} (hm : qa s0 = some res) :
    Calls Tryz.prog 74 #[.slice qa0 na0 ca0] w (fun en w' => ∃ l : VL, en = .returned (sL l) ∧ (VOK 1 l.n l.cap (RI.enc res) l.sp l.q) ∧ HV w (keys [] []) [] [vL 3 l (RI.enc res)] [] w') := by
  unfold qa at hm
  refine yd func74 Y ntmps74 Y (e := [(0, _)]) Y hw (jt (jc Y Y Y (fun _ _ => yq Y) (jq (jh (jt (jk Y Y ?_))))))
  cases qa0 with
  | none =>
    obtain rfl : s0 = [] := AOK.nilL hqa0 hna0
    refine jc Y Y Y (fun w _ => jaY (runUnderlying22 w) Y Y) (jq (KG Y Y (jt (jc Y Y Y (fun _ _ => yq Y) (jq (jz (je ?_)))))))
    obtain rfl := sj hm
    refine JY 3 ?_
    exact jn Y (fun w hh => (.tmp Y .nil)) (fun w hh => ⟨vl0, rfl, VOK.nil, hh.se [] [0] 1 Y Y Y rfl⟩)
  | some a0 =>
   refine jc Y Y Y (fun w _ => jaV (runUnderlying22 w) Y Y) (jq (KE Y Y (js (ja (jt ?_)))))
   refine jaD RI (fun w => runUnderlying22 w) (fun w => sizeOf3 w) Y Y (fun L h3 => ?_)
   refine jk Y Y ?_
   obtain ⟨t7, h4, hm⟩ := bindO hm
   refine Js RI 0 h4 underlying22 QH Y Y Y Y Y h3 Y Y hna0 hqa0 (fun w hh => (hh.seg 0 Y)) Y (fun L_1 h5 h5n => ?_)
   refine k3 (S' := []) (vs' := [_]) [] [0] 0 Y Y Y Y (jp Y Y (jq (jz ?_)))
   obtain rfl := sj hm
   refine jn Y (fun w hh => (.tmp Y .nil)) (fun w hh => ⟨L_1, rfl, h5, hh.se [] [0] 1 Y Y Y rfl⟩)
def Jt (l0 : (List Int)) : Option Bool :=
 ((yN l0).bind fun t4 =>
 if t4 = true then
 ((qa l0).bind fun t7 =>
 (zo t7).bind fun t8 =>
 some (decide ((t8.length : Int) = (l0.length : Int)))) else
 (some false)).bind fun o =>
 some o
theorem Zf (l0 : (List Int)) (qa0 : Option Addr) (na0 ca0 : Nat) (w : World) (hw : HV w (keys [] []) [] [] [(aB qa0, aO qa0, RI.enc l0)] w) (hna0 : l0.length = na0) (hqa0 : AOK na0 qa0) (hla0 : na0 ≤ ca0) {res : Bool} (hm : Jt l0 = some res) :
    Calls Tryz.prog 138 #[.slice qa0 na0 ca0] w (fun en w' => ∃ l : Unit, en = .returned (.bool res) ∧ (True) ∧ HV w (keys [] []) [] [] [] w') := by
  unfold Jt at hm
  refine yd func138 Y ntmps138 Y (e := [(0, _)]) Y hw (jt (jp Y Y (jq (jh ?_))))
  obtain ⟨o, h1, h2⟩ := bindO hm
  refine jI (ι := Unit) (fun l => True) (fun l => [(2, .bool o)]) (fun l => []) (fun l => []) ?_ ?_
  ·replace hm := h1
   refine jg (jk Y Y ?_)
   obtain ⟨t4, h3, hm⟩ := bindO hm
   refine jd [] [] Y Y Y Y Y Y Y call177 (fun w hh => Q8 l0 qa0 na0 ca0 w (HV.callee (S0 := []) (vs0 := []) hh (roR hh 0 Y roN)) hna0 hqa0 hla0 h3) (fun l_1 h4 => ?_)
   refine jk Y Y ?_
   refine jQ 5 Y (fun h5 => ?_) (fun h5 => ?_)
   ·replace hm := ifT (h5) hm
    refine jb Y Y (jk Y Y (jb Y Y ?_))
    obtain ⟨t7, h6, hm⟩ := bindO hm
    refine jd [] [] Y Y Y Y Y Y Y call74 (fun w hh => yb l0 qa0 na0 ca0 w (HV.callee (S0 := []) (vs0 := []) hh (roR hh 0 Y roN)) hna0 hqa0 hla0 h6) (fun l_2 h7 => ?_)
    have h8 := h7
    refine k3 (S' := []) (vs' := [_]) [] [0] 0 Y Y Y Y (jb Y Y ?_)
    obtain ⟨t8, h9, hm⟩ := bindO hm
    refine jd [] [_] Y Y Y Y Y Y Y call114 (fun w hh => QF t7 ⟨l_2.q, l_2.n, l_2.cap, l_2.sp⟩ w (HV.callee (S0 := []) (vs0 := [_]) hh roN) h8 h9) (fun l_3 h10 => ?_)
    have h11 := h10
    refine k3 (S' := []) (vs' := [_]) [] [0] 0 Y Y Y Y (jb Y Y (jc Y Y Y (fun w _ => Jh (vlen RI h11 Y) (runUnderlying22 w) Y) (jb Y Y (jk Y Y (jb Y Y (jc Y Y Y (fun w _ => jR hna0 (runUnderlying22 w) Y) (jb Y Y ?_)))))))
    refine jc Y Y Y (fun _ _ => Ju Y Y) (yx Y Y Y (jp Y Y (ju ?_)))
    obtain rfl := sj hm
    exact jj () (trivial) (sE Y) (hsE [] [] 0 Y Y Y Y)
   replace hm := ifN h5 hm
   refine g_k Y Y Y Y (g_k Y Y Y Y (g_k Y Y Y Y (g_k Y Y Y Y (g_k Y Y Y Y (g_k Y Y Y Y (g_k Y Y Y Y (y4 Y Y Y ?_)))))))
   refine jp Y Y (ju ?_)
   obtain rfl := sj hm
   exact jj () (trivial) (sE Y) (fun w hh => hh)
  intro l hj
  replace hm := h2
  refine ja (jz ?_)
  obtain rfl := sj hm
  refine jn Y (fun w hh => (.tmp Y .nil)) (fun w hh => ⟨(), rfl, trivial, hh.se [] [] 1 Y Y Y rfl⟩)
def J7 (s0 : Sand) : Option Bool :=
 some (decide (s0.span.lo ≤ s0.span.hi))
theorem YV (s0 : Sand)  (w : World) (hw : HV w (keys [] []) [] [] [] w)  {res : Bool} (hm : J7 s0 = some res) :
    Calls Tryz.prog 139 #[.agg #[.int .i64 s0.span.lo, .int .i64 s0.span.hi, .int .i64 s0.reach]] w (fun en w' => ∃ l : Unit, en = .returned (.bool res) ∧ (True) ∧ HV w (keys [] []) [] [] [] w') := by
  unfold J7 at hm
  refine yd func139 Y ntmps139 Y (e := [(0, _)]) Y hw (jt ?_)
  refine jP Y Y (fun b h1 => ?_)
  refine jp Y Y (qs (qT 0 runUnderlying98 Y sizeOf50 Y Y (qT 0 runUnderlying50 Y sizeOf3 Y Y (qq 0 isAgg3 Y Y Y Y (qT 0 runUnderlying98 Y sizeOf50 Y Y (qT 1 runUnderlying50 Y sizeOf3 Y Y (qq 0 isAgg3 Y Y Y Y ?_)))))))
  refine jc Y Y Y (fun _ _ => Zo Y Y) (jp Y Y (jq (jz ?_)))
  obtain rfl := sj hm
  refine jn Y (fun w hh => (.tmp Y .nil)) (fun w hh => ⟨(), rfl, trivial, hh.se [] [] 0 Y Y Y rfl⟩)
def kq (x0 : Sand) : Option Bool :=
 (J7 x0).bind fun t6 =>
 some (!t6)
theorem KL (x0 : Sand) (rb : Nat) (w : World) (hw : HV w (keys [] []) [] [] [(rb, 0, [.func (.func 139) #[] #[]])] w)  {res : Bool} (hm : kq x0 = some res) :
    Calls Tryz.prog 175 #[.agg #[.int .i64 x0.span.lo, .int .i64 x0.span.hi, .int .i64 x0.reach], ptr rb 0] w (fun en w' => ∃ l : Unit, en = .returned (.bool res) ∧ (True) ∧ HV w (keys [] []) [] [] [] w') := by
  unfold kq at hm
  refine yd func175 Y ntmps175 Y (e := [(0, _), (1, _)]) Y hw (jt ?_)
  refine jP Y Y (fun b h1 => ?_)
  refine jp Y Y (qs (jc Y Y Y (fun w hh => jL (isAgg188 w) Y (segCell (hh.seg 0 Y) 0 Y)) (Jp [_, _, _] 0 isAgg98 sizeOf98 Y Y Y Y ?_)))
  obtain ⟨t6, h2, hm⟩ := bindO hm
  refine jd [] [] Y Y Y Y Y Y Y call139 (fun w hh => YV x0 w (HV.callee (S0 := []) (vs0 := []) hh roN)  h2) (fun l h3 => ?_)
  refine jc Y Y Y (fun _ _ => ze Y) (jp Y Y (jq (jz ?_)))
  obtain rfl := sj hm
  refine jn Y (fun w hh => (.tmp Y .nil)) (fun w hh => ⟨(), rfl, trivial, hh.se [] [] 1 Y Y Y rfl⟩)
def kN (s0 : (List Sand)) (s : Int) : Option (Int ⊕ (Unit ⊕ Int)) :=
 if s < (s0.length : Int) then
 ((ix s0 s).bind fun t14 =>
 (kq (⟨(⟨t14.span.lo, t14.span.hi⟩ : Span), t14.reach⟩ : Sand)).bind fun t16 =>
 if t16 = true then
 (some (.inr (.inr s))) else
 ((addc s 1).bind fun t18 =>
 some (.inl t18))) else
 (some (.inr (.inl ())))
def kl (s0 : (List Sand)) : Option Int :=
 (iterM FU (kN s0) 0).bind fun o =>
 oc o (fun j => some (-1)) (fun r_1 => some r_1)
theorem JQ (s0 : (List Sand)) (qa0 : Option Addr) (na0 ca0 : Nat) (rb : Nat) (w : World) (hw : HV w (keys [] []) [] [] [(aB qa0, aO qa0, RSa.enc s0), (rb, 0, [.func (.func 139) #[] #[]])] w) (hna0 : s0.length = na0) (hqa0 : AOK na0 qa0) (hla0 : na0 ≤ ca0)  {res : Int} (hm : kl s0 = some res) :
    Calls Tryz.prog 202 #[.slice qa0 na0 ca0, .func (.func 175) #[] #[ptr rb 0]] w (fun en w' => ∃ l : Unit, en = .returned (.int .i64 res) ∧ (True) ∧ HV w (keys [] []) [] [] [] w') := by
  unfold kl at hm
  refine yd func202 Y ntmps202 Y (e := [(0, _), (1, _)]) Y hw (jt (jp Y Y (jq (jh (jt (jk Y Y (jc Y Y Y (fun w _ => jR hna0 (runUnderlying23 w) Y) ?_)))))))
  refine jk Y Y (jq ?_)
  obtain ⟨o, h1, h2⟩ := bindO hm
  refine jI (ι := Unit) (fun j => o = .inl j) (fun j => []) (fun j => []) (fun j => []) ?_ ?_
  ·replace hm := h1
   refine jm ?_
   refine jM (ι := Unit) hm (fun s l => True) (fun s l => [(0, .slice qa0 na0 ca0), (1, .func (.func 175) #[] #[ptr rb 0]), (7, .int .i64 (s0.length : Int)), (8, .int .i64 s)]) (fun s l => []) (fun s l => []) () (trivial) (sE Y) (fun w hh => hh) (fun s l r hpl hm h3 => ?_)
   unfold kN at hm
   refine jt (Jo Y Y Y (jq (jh ?_)))
   refine jr Y (fun h4 => ?_) (fun h4 => ?_)
   ·replace hm := ifD h4 hm
    refine js (ja (jh (jm (jt (jk Y Y (jp Y Y (qs ?_)))))))
    refine jk Y Y (jk Y Y (jk Y Y ?_))
    obtain ⟨t14, h5, hm⟩ := bindO hm
    refine jc Y Y Y (fun w _ => qx h5 (runUnderlying23 w) (sizeOf98 w) Y Y hna0 hqa0) ?_
    refine jc Y Y Y (fun w hh => Jy RSa 0 [.int .i64 t14.span.lo, .int .i64 t14.span.hi, .int .i64 t14.reach] h5 (isAgg98 w) (sizeOf98 w) Y (hh.seg 0 Y) Y (Nat.add_zero _).symm) ?_
    obtain ⟨t16, h6, hm⟩ := bindO hm
    refine jd [] [] Y Y Y Y Y Y Y call175 (fun w hh => KL (⟨(⟨t14.span.lo, t14.span.hi⟩ : Span), t14.reach⟩ : Sand) rb w (HV.callee (S0 := []) (vs0 := []) hh (roR hh 1 Y roN))  h6) (fun l_1 h7 => ?_)
    refine jq ?_
    refine jr Y (fun h8 => ?_) (fun h8 => ?_)
    ·replace hm := ifT (h8) hm
     refine jt (jk Y Y (jp Y Y (jq (jz (jB (je (je ?_)))))))
     refine jB ?_
     obtain rfl := sj hm
     have hbo := h3 _ Y
     subst hbo
     refine je ?_
     replace hm := ocR h2
     refine je ?_
     obtain rfl := sj hm
     refine jn Y (fun w hh => (.tmp Y .nil)) (fun w hh => ⟨(), rfl, trivial, hh.se [] [] 2 Y Y Y rfl⟩)
    replace hm := ifN h8 hm
    refine js (jx (ja (jg ?_)))
    obtain ⟨t18, h9, hm⟩ := bindO hm
    refine JG h9 Y Y Y (jk Y Y (ju ?_))
    obtain rfl := sj hm
    refine ja ?_
    exact jC _ () Y (trivial) (sE Y) (fun w hh => hh)
   replace hm := ifE h4 hm
   refine jS (ji (ji (jD ?_)))
   obtain rfl := sj hm
   have hbo := h3 _ Y
   subst hbo
   exact jj () (Y) (.nil) (fun w hh => hh)
  intro j hj
  have h10 := hj
  subst h10
  replace hm := ocL h2
  refine ja (jt (jp Y Y (jq (jz ?_))))
  obtain rfl := sj hm
  refine jn Y (fun w hh => (.tmp Y .nil)) (fun w hh => ⟨(), rfl, trivial, hh.se [] [] 2 Y Y Y rfl⟩)
def j7 (s0 : (List Sand)) : Option Bool :=
 (kl s0).bind fun t7 =>
 some (decide (0 ≤ t7))
theorem Jl (s0 : (List Sand)) (qa0 : Option Addr) (na0 ca0 : Nat) (rb : Nat) (w : World) (hw : HV w (keys [] []) [] [] [(aB qa0, aO qa0, RSa.enc s0), (rb, 0, [.func (.func 139) #[] #[]])] w) (hna0 : s0.length = na0) (hqa0 : AOK na0 qa0) (hla0 : na0 ≤ ca0)  {res : Bool} (hm : j7 s0 = some res) :
    Calls Tryz.prog 174 #[.slice qa0 na0 ca0, .func (.func 175) #[] #[ptr rb 0]] w (fun en w' => ∃ l : Unit, en = .returned (.bool res) ∧ (True) ∧ HV w (keys [] []) [] [] [] w') := by
  unfold j7 at hm
  refine yd func174 Y ntmps174 Y (e := [(0, _), (1, _)]) Y hw (jt (jp Y Y (qs (jk Y Y (jk Y Y ?_)))))
  obtain ⟨t7, h1, hm⟩ := bindO hm
  refine jd [] [] Y Y Y Y Y Y Y call202 (fun w hh => JQ s0 qa0 na0 ca0 rb w (HV.callee (S0 := []) (vs0 := []) hh (roR hh 0 Y (roR hh 1 Y roN))) hna0 hqa0 hla0 h1) (fun l h2 => ?_)
  refine jc Y Y Y (fun _ _ => YI Y Y) (jp Y Y (jq (jz ?_)))
  obtain rfl := sj hm
  refine jn Y (fun w hh => (.tmp Y .nil)) (fun w hh => ⟨(), rfl, trivial, hh.se [] [] 2 Y Y Y rfl⟩)
def kT (l0 : (List Sand)) : Option Bool :=
 (j7 l0).bind fun t7 =>
 some (!t7)
theorem K2 (l0 : (List Sand)) (qa0 : Option Addr) (na0 ca0 : Nat) (w : World) (hw : HV w (keys [] []) [] [] [(aB qa0, aO qa0, RSa.enc l0)] w) (hna0 : l0.length = na0) (hqa0 : AOK na0 qa0) (hla0 : na0 ≤ ca0) {res : Bool} (hm : kT l0 = some res) :
    Calls Tryz.prog 132 #[.slice qa0 na0 ca0, .func (.func 139) #[] #[]] w (fun en w' => ∃ l : Unit, en = .returned (.bool res) ∧ (True) ∧ HV w (keys [] []) [] [] [] w') := by
  unfold kT at hm
  refine yd func132 Y ntmps132 Y (e := [(0, _), (1, _)]) Y hw (jt ?_)
  refine jP Y Y (fun b h1 => ?_)
  refine jp Y Y (qs (jk Y Y (jc Y Y Y (fun _ _ => k5 (u := #[]) (u' := #[_]) Y Y) ?_)))
  obtain ⟨t7, h2, hm⟩ := bindO hm
  refine jd [] [] Y Y Y Y Y Y Y call174 (fun w hh => Jl l0 qa0 na0 ca0 b w (HV.callee (S0 := []) (vs0 := []) hh (roR hh 0 Y (roC (bsep (hh.bseg 0 Y)) roN))) hna0 hqa0 hla0 h2) (fun l h3 => ?_)
  refine jc Y Y Y (fun _ _ => ze Y) (jp Y Y (jq (jz ?_)))
  obtain rfl := sj hm
  refine jn Y (fun w hh => (.tmp Y .nil)) (fun w hh => ⟨(), rfl, trivial, hh.se [] [] 1 Y Y Y rfl⟩)
def zE (c0 : Channel) : Option Int :=
 ((qw c0.cells 2 10).bind fun t9 =>
 if (!t9) = true then
 (some true) else
 ((qw c0.tides 0 4).bind fun t14 =>
 if (!t14) = true then
 (some true) else
 ((qw (c0.fords.length : Int) 1 3).bind fun t21 =>
 if (!t21) = true then
 (some true) else
 (if 4 < (c0.sands.length : Int) then
 (some true) else
 (some (decide (8 < (c0.sights.length : Int)))))))).bind fun o =>
 if o = true then
 (some 2) else
 (((qr c0.sands).bind fun t39 =>
 if (!t39) = true then
 (some true) else
 ((qd c0.sights c0.cells c0.tides c0.fords c0.sands c0.sights).bind fun t45 =>
 some (!t45))).bind fun o_1 =>
 if o_1 = true then
 (some 3) else
 (((zq c0.fords c0).bind fun t52 =>
 if (!t52) = true then
 (some true) else
 ((kW c0.sands c0).bind fun t58 =>
 if (!t58) = true then
 (some true) else
 ((kL c0.sights c0).bind fun t65 =>
 some (!t65)))).bind fun o_2 =>
 if o_2 = true then
 (some 1) else
 (((Jt c0.fords).bind fun t71 =>
 if (!t71) = true then
 (some true) else
 ((kT c0.sands).bind fun t76 =>
 some (!t76))).bind fun o_3 =>
 if o_3 = true then
 (some 4) else
 (some 0))))
theorem Qs (c0 : Channel) (qa0 : Option Addr) (na0 ca0 : Nat) (qa1 : Option Addr) (na1 ca1 : Nat) (qa2 : Option Addr) (na2 ca2 : Nat) (w : World) (hw : HV w (keys [] []) [] [] [(aB qa0, aO qa0, RI.enc c0.fords), (aB qa1, aO qa1, RSa.enc c0.sands), (aB qa2, aO qa2, RSi.enc c0.sights)] w) (hna0 : c0.fords.length = na0) (hqa0 : AOK na0 qa0) (hla0 : na0 ≤ ca0) (hna1 : c0.sands.length = na1) (hqa1 : AOK na1 qa1) (hla1 : na1 ≤ ca1) (hna2 : c0.sights.length = na2) (hqa2 : AOK na2 qa2) (hla2 : na2 ≤ ca2) {res : Int} (hm : zE c0 = some res) :
    Calls Tryz.prog 55 #[.agg #[.int .i64 c0.cells, .int .i64 c0.tides, .slice qa0 na0 ca0, .slice qa1 na1 ca1, .slice qa2 na2 ca2]] w (fun en w' => ∃ l : Unit, en = .returned (.int .i64 res) ∧ (True) ∧ HV w (keys [] []) [] [] [] w') := by
  unfold zE at hm
  refine yd func55 Y ntmps55 Y (e := [(0, _)]) Y hw (jt ?_)
  refine jP Y Y (fun b h1 => ?_)
  refine jp Y Y (qs (Jp [_, _, _, _, _] 0 isAgg26 sizeOf26 Y Y Y Y (jc Y Y Y (fun _ _ => k5 (u := #[_]) (u' := #[]) Y Y) ?_)))
  refine jA (fun w => zeroValue102 w) Y (fun b_1 h2 => ?_)
  refine zR (cs' := #[_]) (S' := [_, _]) 0 (fun w => sizeOf102 w) Y Y Y Y Y Y Y (jq (jh (jm (jh ?_))))
  obtain ⟨o, h3, h4⟩ := bindO hm
  refine jI (ι := Unit) (fun l => True) (fun l => [(1, ptr b 0), (3, ptr b_1 0), (6, .bool o)]) (fun l => [(b_1, .cells #[.func (.func 131) #[.agg #[.int .i64 c0.cells, .int .i64 c0.tides, .slice qa0 na0 ca0, .slice qa1 na1 ca1, .slice qa2 na2 ca2]] #[]] 102 (0, 0)), kc b #[.int .i64 c0.cells, .int .i64 c0.tides, .slice qa0 na0 ca0, .slice qa1 na1 ca1, .slice qa2 na2 ca2] 26]) (fun l => []) ?_ ?_
  ·replace hm := h3
   refine jg (qT 0 runUnderlying26 Y sizeOf3 Y Y (qq 1 isAgg3 Y Y Y Y ?_))
   obtain ⟨t9, h5, hm⟩ := bindO hm
   refine jd [] [] Y Y Y Y Y Y Y call106 (fun w hh => JA c0.cells 2 10 w (HV.callee (S0 := []) (vs0 := []) hh roN)  h5) (fun l_1 h6 => ?_)
   refine jc Y Y Y (fun _ _ => ze Y) (jk Y Y ?_)
   refine jQ 11 Y (fun h7 => ?_) (fun h7 => ?_)
   ·replace hm := ifT (h7) hm
    refine g_k Y Y Y Y (g_k Y Y Y Y (g_k Y Y Y Y (g_k Y Y Y Y (yx Y Y Y (jk Y Y (g_k Y Y Y Y (g_k Y Y Y Y ?_)))))))
    refine g_k Y Y Y Y (g_k Y Y Y Y (g_k Y Y Y Y (yx Y Y Y (jk Y Y (g_k Y Y Y Y (g_k Y Y Y Y (g_k Y Y Y Y ?_)))))))
    refine g_k Y Y Y Y (yx Y Y Y (jk Y Y (g_k Y Y Y Y (g_k Y Y Y Y (g_k Y Y Y Y (g_k Y Y Y Y (yx Y Y Y ?_)))))))
    refine jp Y Y (ju ?_)
    obtain rfl := sj hm
    exact jj () (trivial) (sE Y) (fun w hh => hh)
   replace hm := ifN h7 hm
   refine jb Y Y (qT 1 runUnderlying26 Y sizeOf3 Y Y (jb Y Y (qq 1 isAgg3 Y Y Y Y (jb Y Y ?_))))
   obtain ⟨t14, h8, hm⟩ := bindO hm
   refine jd [] [] Y Y Y Y Y Y Y call106 (fun w hh => JA c0.tides 0 4 w (HV.callee (S0 := []) (vs0 := []) hh roN)  h8) (fun l_2 h9 => ?_)
   refine jb Y Y (jc Y Y Y (fun _ _ => ze Y) (y4 Y Y Y (jk Y Y ?_)))
   refine jQ 17 Y (fun h10 => ?_) (fun h10 => ?_)
   ·replace hm := ifT (h10) hm
    refine g_k Y Y Y Y (g_k Y Y Y Y (g_k Y Y Y Y (g_k Y Y Y Y (g_k Y Y Y Y (yx Y Y Y (jk Y Y (g_k Y Y Y Y ?_)))))))
    refine g_k Y Y Y Y (g_k Y Y Y Y (g_k Y Y Y Y (yx Y Y Y (jk Y Y (g_k Y Y Y Y (g_k Y Y Y Y (g_k Y Y Y Y ?_)))))))
    refine g_k Y Y Y Y (yx Y Y Y (jp Y Y (ju ?_)))
    obtain rfl := sj hm
    exact jj () (trivial) (sE Y) (fun w hh => hh)
   replace hm := ifN h10 hm
   refine jb Y Y (qT 2 runUnderlying26 Y sizeOf22 Y Y (jb Y Y (qq 1 isAgg22 Y Y Y Y (jb Y Y (jc Y Y Y (fun w _ => jR hna0 (runUnderlying22 w) Y) (jb Y Y ?_))))))
   obtain ⟨t21, h11, hm⟩ := bindO hm
   refine jd [] [] Y Y Y Y Y Y Y call106 (fun w hh => JA (c0.fords.length : Int) 1 3 w (HV.callee (S0 := []) (vs0 := []) hh roN)  h11) (fun l_3 h12 => ?_)
   refine jb Y Y (jc Y Y Y (fun _ _ => ze Y) (y4 Y Y Y (jk Y Y ?_)))
   refine jQ 24 Y (fun h13 => ?_) (fun h13 => ?_)
   ·replace hm := ifT (h13) hm
    refine g_k Y Y Y Y (g_k Y Y Y Y (g_k Y Y Y Y (g_k Y Y Y Y (yx Y Y Y (jk Y Y (g_k Y Y Y Y (g_k Y Y Y Y ?_)))))))
    refine g_k Y Y Y Y (g_k Y Y Y Y (yx Y Y Y (jp Y Y (ju ?_))))
    obtain rfl := sj hm
    exact jj () (trivial) (sE Y) (fun w hh => hh)
   replace hm := ifN h13 hm
   refine jb Y Y (qT 3 runUnderlying26 Y sizeOf23 Y Y (jb Y Y (qq 1 isAgg23 Y Y Y Y (jb Y Y (jc Y Y Y (fun w _ => jR hna1 (runUnderlying23 w) Y) (jb Y Y (jc Y Y Y (fun _ _ => Qz Y Y) ?_)))))))
   refine y4 Y Y Y (jk Y Y ?_)
   refine jQ 30 Y (fun h14 => ?_) (fun h14 => ?_)
   ·replace hm := ifD h14 hm
    refine g_k Y Y Y Y (g_k Y Y Y Y (g_k Y Y Y Y (g_k Y Y Y Y (yx Y Y Y (jp Y Y (ju ?_))))))
    obtain rfl := sj hm
    exact jj () (trivial) (sE Y) (fun w hh => hh)
   replace hm := ifE h14 hm
   refine jb Y Y (qT 4 runUnderlying26 Y sizeOf24 Y Y (jb Y Y (qq 1 isAgg24 Y Y Y Y (jb Y Y (jc Y Y Y (fun w _ => jR hna2 (runUnderlying24 w) Y) (jb Y Y (jc Y Y Y (fun _ _ => Qz Y Y) ?_)))))))
   refine y4 Y Y Y (jp Y Y (ju ?_))
   obtain rfl := sj hm
   exact jj () (trivial) (sE Y) (fun w hh => hh)
  intro l hj
  replace hm := h4
  refine ja ?_
  refine jr Y (fun h15 => ?_) (fun h15 => ?_)
  ·replace hm := ifT (h15) hm
   refine jt (jp Y Y (jq (jz (jB (je ?_)))))
   obtain rfl := sj hm
   refine jn Y (fun w hh => (.tmp Y .nil)) (fun w hh => ⟨(), rfl, trivial, hh.se [] [] 3 Y Y Y rfl⟩)
  replace hm := ifN h15 hm
  refine jh ?_
  obtain ⟨o_1, h16, h17⟩ := bindO hm
  refine jI (ι := Unit) (fun l_4 => True) (fun l_4 => [(1, ptr b 0), (3, ptr b_1 0), (36, .bool o_1)]) (fun l_4 => [(b_1, .cells #[.func (.func 131) #[.agg #[.int .i64 c0.cells, .int .i64 c0.tides, .slice qa0 na0 ca0, .slice qa1 na1 ca1, .slice qa2 na2 ca2]] #[]] 102 (0, 0)), kc b #[.int .i64 c0.cells, .int .i64 c0.tides, .slice qa0 na0 ca0, .slice qa1 na1 ca1, .slice qa2 na2 ca2] 26]) (fun l_4 => []) ?_ ?_
  ·replace hm := h16
   refine jg (qT 3 runUnderlying26 Y sizeOf23 Y Y (qq 1 isAgg23 Y Y Y Y ?_))
   obtain ⟨t39, h18, hm⟩ := bindO hm
   refine jd [] [] Y Y Y Y Y Y Y call132 (fun w hh => Qu c0.sands qa1 na1 ca1 w (HV.callee (S0 := []) (vs0 := []) hh (roR hh 1 Y roN)) hna1 hqa1 hla1 h18) (fun l_5 h19 => ?_)
   refine jc Y Y Y (fun _ _ => ze Y) (jk Y Y ?_)
   refine jQ 41 Y (fun h20 => ?_) (fun h20 => ?_)
   ·replace hm := ifT (h20) hm
    refine g_k Y Y Y Y (g_k Y Y Y Y (g_k Y Y Y Y (g_k Y Y Y Y (g_k Y Y Y Y (yx Y Y Y (jp Y Y (ju ?_)))))))
    obtain rfl := sj hm
    exact jj () (trivial) (sE Y) (fun w hh => hh)
   replace hm := ifN h20 hm
   refine jb Y Y (qT 4 runUnderlying26 Y sizeOf24 Y Y (jb Y Y (qq 1 isAgg24 Y Y Y Y (jb Y Y (jc Y Y Y (fun _ _ => k5 (u := #[]) (u' := #[_]) Y Y) (jb Y Y ?_))))))
   obtain ⟨t45, h21, hm⟩ := bindO hm
   refine jd [] [] Y Y Y Y Y Y Y call134 (fun w hh => Qb c0.sights c0.cells c0.tides c0.fords c0.sands c0.sights qa2 na2 ca2 b qa0 na0 ca0 qa1 na1 ca1 qa2 na2 ca2 w (HV.callee (S0 := []) (vs0 := []) hh (roR hh 2 Y (roC (bsep (hh.bseg 1 Y)) (roR hh 0 Y (roR hh 1 Y (roR hh 2 Y roN)))))) hna2 hqa2 hla2 hna0 hqa0 hla0 hna1 hqa1 hla1 hna2 hqa2 hla2 h21) (fun l_6 h22 => ?_)
   refine jb Y Y (jc Y Y Y (fun _ _ => ze Y) (y4 Y Y Y (jp Y Y (ju ?_))))
   obtain rfl := sj hm
   exact jj () (trivial) (sE Y) (fun w hh => hh)
  intro l_4 hj
  replace hm := h17
  refine ja ?_
  refine jr Y (fun h23 => ?_) (fun h23 => ?_)
  ·replace hm := ifT (h23) hm
   refine jt (jp Y Y (jq (jz (jB (je ?_)))))
   obtain rfl := sj hm
   refine jn Y (fun w hh => (.tmp Y .nil)) (fun w hh => ⟨(), rfl, trivial, hh.se [] [] 3 Y Y Y rfl⟩)
  replace hm := ifN h23 hm
  refine jh ?_
  obtain ⟨o_2, h24, h25⟩ := bindO hm
  refine jI (ι := Unit) (fun l_7 => True) (fun l_7 => [(1, ptr b 0), (48, .bool o_2)]) (fun l_7 => [(b_1, .cells #[.func (.func 131) #[.agg #[.int .i64 c0.cells, .int .i64 c0.tides, .slice qa0 na0 ca0, .slice qa1 na1 ca1, .slice qa2 na2 ca2]] #[]] 102 (0, 0)), kc b #[.int .i64 c0.cells, .int .i64 c0.tides, .slice qa0 na0 ca0, .slice qa1 na1 ca1, .slice qa2 na2 ca2] 26]) (fun l_7 => []) ?_ ?_
  ·replace hm := h24
   refine jg (qT 2 runUnderlying26 Y sizeOf22 Y Y (qq 1 isAgg22 Y Y Y Y (qq 0 isAgg102 Y Y Y Y ?_)))
   obtain ⟨t52, h26, hm⟩ := bindO hm
   refine jd [] [] Y Y Y Y Y Y Y call119 (fun w hh => YG c0.fords c0 qa0 na0 ca0 qa0 na0 ca0 qa1 na1 ca1 qa2 na2 ca2 w (HV.callee (S0 := []) (vs0 := []) hh (roR hh 0 Y (roR hh 0 Y (roR hh 1 Y (roR hh 2 Y roN))))) hna0 hqa0 hla0 hna0 hqa0 hla0 hna1 hqa1 hla1 hna2 hqa2 hla2 h26) (fun l_8 h27 => ?_)
   refine jc Y Y Y (fun _ _ => ze Y) (jk Y Y ?_)
   refine jQ 54 Y (fun h28 => ?_) (fun h28 => ?_)
   ·replace hm := ifT (h28) hm
    refine g_k Y Y Y Y (g_k Y Y Y Y (g_k Y Y Y Y (g_k Y Y Y Y (g_k Y Y Y Y (yx Y Y Y (jk Y Y (g_k Y Y Y Y ?_)))))))
    refine g_k Y Y Y Y (g_k Y Y Y Y (g_k Y Y Y Y (g_k Y Y Y Y (yx Y Y Y (jp Y Y (ju ?_))))))
    obtain rfl := sj hm
    exact jj () (trivial) (sE Y) (fun w hh => hh)
   replace hm := ifN h28 hm
   refine jb Y Y (qT 3 runUnderlying26 Y sizeOf23 Y Y (jb Y Y (qq 1 isAgg23 Y Y Y Y (jb Y Y (jc Y Y Y (fun _ _ => k5 (u := #[]) (u' := #[_]) Y Y) (jb Y Y ?_))))))
   obtain ⟨t58, h29, hm⟩ := bindO hm
   refine jd [] [] Y Y Y Y Y Y Y call132 (fun w hh => K7 c0.sands c0 qa1 na1 ca1 b_1 qa0 na0 ca0 qa1 na1 ca1 qa2 na2 ca2 w (HV.callee (S0 := []) (vs0 := []) hh (roR hh 1 Y (roC (bsep (hh.bseg 0 Y)) (roR hh 0 Y (roR hh 1 Y (roR hh 2 Y roN)))))) hna1 hqa1 hla1 hna0 hqa0 hla0 hna1 hqa1 hla1 hna2 hqa2 hla2 h29) (fun l_9 h30 => ?_)
   refine jb Y Y (jc Y Y Y (fun _ _ => ze Y) (y4 Y Y Y (jk Y Y ?_)))
   refine jQ 61 Y (fun h31 => ?_) (fun h31 => ?_)
   ·replace hm := ifT (h31) hm
    refine g_k Y Y Y Y (g_k Y Y Y Y (g_k Y Y Y Y (g_k Y Y Y Y (g_k Y Y Y Y (yx Y Y Y (jp Y Y (ju ?_)))))))
    obtain rfl := sj hm
    exact jj () (trivial) (sE Y) (fun w hh => hh)
   replace hm := ifN h31 hm
   refine jb Y Y (qT 4 runUnderlying26 Y sizeOf24 Y Y (jb Y Y (qq 1 isAgg24 Y Y Y Y (jb Y Y (jc Y Y Y (fun _ _ => k5 (u := #[]) (u' := #[_]) Y Y) (jb Y Y ?_))))))
   obtain ⟨t65, h32, hm⟩ := bindO hm
   refine jd [] [] Y Y Y Y Y Y Y call134 (fun w hh => KW c0.sights c0 qa2 na2 ca2 b_1 qa0 na0 ca0 qa1 na1 ca1 qa2 na2 ca2 w (HV.callee (S0 := []) (vs0 := []) hh (roR hh 2 Y (roC (bsep (hh.bseg 0 Y)) (roR hh 0 Y (roR hh 1 Y (roR hh 2 Y roN)))))) hna2 hqa2 hla2 hna0 hqa0 hla0 hna1 hqa1 hla1 hna2 hqa2 hla2 h32) (fun l_10 h33 => ?_)
   refine jb Y Y (jc Y Y Y (fun _ _ => ze Y) (y4 Y Y Y (jp Y Y (ju ?_))))
   obtain rfl := sj hm
   exact jj () (trivial) (sE Y) (fun w hh => hh)
  intro l_7 hj
  replace hm := h25
  refine ja ?_
  refine jr Y (fun h34 => ?_) (fun h34 => ?_)
  ·replace hm := ifT (h34) hm
   refine jt (jp Y Y (jq (jz (jB (je ?_)))))
   obtain rfl := sj hm
   refine jn Y (fun w hh => (.tmp Y .nil)) (fun w hh => ⟨(), rfl, trivial, hh.se [] [] 3 Y Y Y rfl⟩)
  replace hm := ifN h34 hm
  refine jh ?_
  obtain ⟨o_3, h35, h36⟩ := bindO hm
  refine jI (ι := Unit) (fun l_11 => True) (fun l_11 => [(68, .bool o_3)]) (fun l_11 => [(b_1, .cells #[.func (.func 131) #[.agg #[.int .i64 c0.cells, .int .i64 c0.tides, .slice qa0 na0 ca0, .slice qa1 na1 ca1, .slice qa2 na2 ca2]] #[]] 102 (0, 0)), kc b #[.int .i64 c0.cells, .int .i64 c0.tides, .slice qa0 na0 ca0, .slice qa1 na1 ca1, .slice qa2 na2 ca2] 26]) (fun l_11 => []) ?_ ?_
  ·replace hm := h35
   refine jg (qT 2 runUnderlying26 Y sizeOf22 Y Y (qq 1 isAgg22 Y Y Y Y ?_))
   obtain ⟨t71, h37, hm⟩ := bindO hm
   refine jd [] [] Y Y Y Y Y Y Y call138 (fun w hh => Zf c0.fords qa0 na0 ca0 w (HV.callee (S0 := []) (vs0 := []) hh (roR hh 0 Y roN)) hna0 hqa0 hla0 h37) (fun l_12 h38 => ?_)
   refine jc Y Y Y (fun _ _ => ze Y) (jk Y Y ?_)
   refine jQ 73 Y (fun h39 => ?_) (fun h39 => ?_)
   ·replace hm := ifT (h39) hm
    refine g_k Y Y Y Y (g_k Y Y Y Y (g_k Y Y Y Y (g_k Y Y Y Y (yx Y Y Y (jp Y Y (ju ?_))))))
    obtain rfl := sj hm
    exact jj () (trivial) (sE Y) (fun w hh => hh)
   replace hm := ifN h39 hm
   refine jb Y Y (qT 3 runUnderlying26 Y sizeOf23 Y Y (jb Y Y (qq 1 isAgg23 Y Y Y Y (jb Y Y ?_))))
   obtain ⟨t76, h40, hm⟩ := bindO hm
   refine jd [] [] Y Y Y Y Y Y Y call132 (fun w hh => K2 c0.sands qa1 na1 ca1 w (HV.callee (S0 := []) (vs0 := []) hh (roR hh 1 Y roN)) hna1 hqa1 hla1 h40) (fun l_13 h41 => ?_)
   refine jb Y Y (jc Y Y Y (fun _ _ => ze Y) (y4 Y Y Y (jp Y Y (ju ?_))))
   obtain rfl := sj hm
   exact jj () (trivial) (sE Y) (fun w hh => hh)
  intro l_11 hj
  replace hm := h36
  refine ja ?_
  refine jr Y (fun h42 => ?_) (fun h42 => ?_)
  ·replace hm := ifT (h42) hm
   refine jt (jp Y Y (jq (jz (jB (je ?_)))))
   obtain rfl := sj hm
   refine jn Y (fun w hh => (.tmp Y .nil)) (fun w hh => ⟨(), rfl, trivial, hh.se [] [] 3 Y Y Y rfl⟩)
  replace hm := ifN h42 hm
  refine js (jx (ja (jt (jp Y Y (jq (jz ?_))))))
  obtain rfl := sj hm
  refine jn Y (fun w hh => (.tmp Y .nil)) (fun w hh => ⟨(), rfl, trivial, hh.se [] [] 3 Y Y Y rfl⟩)
end Go.Proofs.Wb

