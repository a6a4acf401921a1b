/- What the functions that the law BranchNumbered reaches come to, and why it holds: part 2. -/
import Derived.Test.YtpjnpibgnkgnaaaGreatBranchNumbered1
import Derived.Test.YtpjnpibgnkgnaaaGreatProg
namespace Go.Fw
open Go Go.Gx
section
variable {n : Nat} {ds : List Deferred} {e : EnvL} {H : World → Prop} {P : Program} {F : Fence} {Q : Exit → Act → World → Prop} {r : Option Nat} {ops : Array Oper} {rest : List Oper} {d : Nat} {v : Value} {ty : TypeId} {pos : String} {after : Array Edge}
theorem jq {ops : Array Oper} {K : Act → World → Prop} (h : G n ds e H K) : G n ds e H (wpListIn F 0 P ops (thenQ K Q) []) := jx (ja h)
theorem jr {id : Nat} {l : List Oper} {y : Code} (h : G n ds e H (wpListIn F 0 P l.toArray (thenQ (y.wpIn F 0 P Q) Q) l)) : G n ds e H ((Code.seq (Code.region id l.toArray false) y).wpIn F 0 P Q) := ji (je h)
theorem k7 {ops : Array Oper} {id : Nat} {l : List Oper} {y : Code} {Q' : Exit → Act → World → Prop} (h : G n ds e H (wpListIn F 0 P l.toArray (thenQ (y.wpIn F 0 P Q) Q) l)) : G n ds e H (wpListIn F 0 P ops (thenQ ((Code.seq (Code.region id l.toArray false) y).wpIn F 0 P Q) Q') []) := jx (ja (ji (je h)))
theorem jg {x : Operand} (hn : Nat.blt d n = true) (hx : ev e x = some v) (h : G n ds ((d, v) :: e) H (wpListIn (fw r) 0 P ops Q rest)) : G n ds e H (wpListIn (fw r) 0 P ops Q (⟨some d, .move x, ty, pos, after, none⟩ :: rest)) := jc rfl rfl hn (fun _ _ => k8 hx) h
theorem jo {x : Operand} (hn : Nat.blt d n = true) (hx : ev e x = some v) (h : G n ds ((d, v) :: e) H (wpListIn (fw r) 0 P ops Q rest)) : G n ds e H (wpListIn (fw r) 0 P ops Q (⟨some d, .assign x, ty, pos, after, none⟩ :: rest)) := jc rfl rfl hn (fun _ _ => kM hx) h
theorem zo {x : Operand} {i : Nat} {vs : Array Value} (hn : Nat.blt d n = true) (hx : ev e x = some (.tuple vs)) (hi : vs.toList[i]? = some v) (h : G n ds ((d, v) :: e) H (wpListIn (fw r) 0 P ops Q rest)) : G n ds e H (wpListIn (fw r) 0 P ops Q (⟨some d, .extract x i, ty, pos, after, none⟩ :: rest)) := jc rfl rfl hn (fun _ _ => jao hx hi) h
theorem yy {c x y : Operand} (hn : Nat.blt d n = true) (hc : ev e c = some (.bool true)) (hx : ev e x = some v) (h : G n ds ((d, v) :: e) H (wpListIn (fw r) 0 P ops Q rest)) : G n ds e H (wpListIn (fw r) 0 P ops Q (⟨some d, .pick c x y, ty, pos, after, none⟩ :: rest)) := jc rfl rfl hn (fun _ _ => Qi hc hx) h
theorem zu {c x y : Operand} (hn : Nat.blt d n = true) (hc : ev e c = some (.bool false)) (hy : ev e y = some v) (h : G n ds ((d, v) :: e) H (wpListIn (fw r) 0 P ops Q rest)) : G n ds e H (wpListIn (fw r) 0 P ops Q (⟨some d, .pick c x y, ty, pos, after, none⟩ :: rest)) := jc rfl rfl hn (fun _ _ => Kb hc hy) h
theorem Kq {t u : TypeId} {x y : Operand} {a b c : Int} (hm : addc a b = some c) (hn : Nat.blt d n = true) (hx : ev e x = some (.int .i64 a)) (hy : ev e y = some (.int .i64 b)) (h : G n ds ((d, .int .i64 c) :: e) H (wpListIn (fw r) 0 P ops Q rest)) : G n ds e H (wpListIn (fw r) 0 P ops Q (⟨some d, .binOp .add t x y u, ty, pos, after, none⟩ :: rest)) := jc rfl rfl hn (fun _ _ => Kh hm hx hy) h
theorem Kv {t u : TypeId} {x y : Operand} {k : IntKind} {m m' : Int} (hn : Nat.blt d n = true) (hx : ev e x = some (.int k m)) (hy : ev e y = some (.int k m')) (h : G n ds ((d, .bool (decide (m < m'))) :: e) H (wpListIn (fw r) 0 P ops Q rest)) : G n ds e H (wpListIn (fw r) 0 P ops Q (⟨some d, .binOp .lss t x y u, ty, pos, after, none⟩ :: rest)) := jc rfl rfl hn (fun _ _ => jak hx hy) h
theorem yD {s T : TypeId} {x : Operand} {f b o sz : Nat} {fs : Array Field} (k : Nat) (hu : ∀ w, (underlying s).run P w = .ok (.struct fs) w) (hf : (fs[f]?).map (fun fd => (fd.type, fd.offset)) = some (T, k)) (hz : ∀ w, (sizeOf T).run P w = .ok (sz + 1) w) (hx : ev e x = some (ptr b o)) (hn : Nat.blt d n = true) (h : G n ds ((d, ptr b (o + k)) :: e) H (wpListIn (fw r) 0 P ops Q rest)) : G n ds e H (wpListIn (fw r) 0 P ops Q (⟨some d, .fieldAddr s x f, ty, pos, after, none⟩ :: rest)) := jc rfl rfl hn (fun w _ => jR k (hu w) hf (hz w) hx) h
end
end Go.Fw
namespace Go.Gx
open Go Go.Fw
theorem yf {n : Nat} {ds : List Deferred} {e : EnvL} {w0 : World} {M : List Nat} {S : List (Nat × Obj)} {vs : List VR} {ro : List (Nat × Nat × List Value)} {P : Program} {Q : Exit → Act → World → Prop} {r : Option Nat} {ops : Array Oper} {rest : List Oper} {d : Nat} {v : Value} {ty : TypeId} {pos : String} {after : Array Edge} {t T : TypeId} {x : Operand} {b o : Nat} {cs : Array Value} {fr : Nat × Nat} (i : Nat) (hg' : ∀ w, (isAgg t).run P w = .ok false w) (hx : ev e x = some (ptr b o)) (hn : Nat.blt d n = true) (hi : S[i]? = some (b, .cells cs T fr)) (hv : cs.toList[o]? = some v) (h : G n ds ((d, v) :: e) (HV w0 M S vs ro) (wpListIn (fw r) 0 P ops Q rest)) : G n ds e (HV w0 M S vs ro) (wpListIn (fw r) 0 P ops Q (⟨some d, .load t x, ty, pos, after, none⟩ :: rest)) := jc rfl rfl hn (fun w hh => jz (hg' w) hx (hh.cell i hi hv)) h
theorem sE {e : EnvL} : ∀ {e' : EnvL}, e'.map (fun p => lk e p.1) = e'.map (fun p => some p.2) → Sub e e'
  | [], _ => .nil
  | (t, v) :: l, h => by
    simp only [List.map_cons, List.cons.injEq] at h
    exact .cons h.1 (sE h.2)
def ndB : List Nat → Bool
  | [] => true
  | x :: l => !(l.any (Nat.beq x)) && ndB l
theorem ndB_ok : ∀ {l : List Nat}, ndB l = true → l.Nodup
  | [], _ => List.nodup_nil
  | x :: l, h => by
    unfold ndB at h
    rw [Bool.and_eq_true, Bool.not_eq_true'] at h
    refine List.nodup_cons.2 ⟨fun hx => ?_, ndB_ok h.2⟩
    rw [List.any_eq_false] at h
    exact h.1 x hx (Nat.beq_refl x)
section
variable {w0 w : World} {M : List Nat} {S S' : List (Nat × Obj)} {vs vs' : List VR} {ro ro' : List Sg}
theorem HV.se (h : HV w0 M S vs ro w) (iS iV : List Nat) (k : Nat) (hn : (ndB iS && ndB iV) = true) (hS : iS.map (fun i => S[i]?) = S'.map some) (hV : iV.map (fun i => vs[i]?) = vs'.map some) (hr : ro.drop k = ro') : HV w0 M S' vs' ro' w :=
  h.sel iS iV k (ndB_ok (Bool.and_eq_true_iff.1 hn).1) (ndB_ok (Bool.and_eq_true_iff.1 hn).2) hS hV hr
theorem jV {n : Nat} {ds : List Deferred} {e : EnvL} {X : Act → World → Prop} (iS iV : List Nat) (k : Nat) (hn : (ndB iS && ndB iV) = true) (hS : iS.map (fun i => S[i]?) = S'.map some) (hV : iV.map (fun i => vs[i]?) = vs'.map some) (hr : ro.drop k = ro') (h : G n ds e (HV w0 M S' vs' ro') X) : G n ds e (HV w0 M S vs ro) X :=
  h.pre fun _ hh => hh.se iS iV k hn hS hV hr
theorem yr {n : Nat} {P : Program} {f : FuncId} {fn : Func} {c : Code} {args : List Value} {R : Ending → World → Prop} {e : EnvL}
    (hf : P.funcs[f]? = some fn) (hb : fn.body = some c) (hn : fn.ntmps = n) (hl : Nat.ble args.length n = true) (he : argEnv 0 args = e) (hw : HV w M S vs ro w)
    (h : G n [] e (HV w M S vs ro) (c.wpIn (fw none) 0 P (bodyPost P fn R))) : Calls P f args.toArray w R := YN hf hb hn hl he hw h
theorem g_k {n : Nat} {ds : List Deferred} {e : EnvL} {H : World → Prop} {P : Program} {Q : Exit → Act → World → Prop} {r : Option Nat} {ops : Array Oper} {rest : List Oper} {d : Nat} {op : Op} {ty : TypeId} {pos : String} {after : Array Edge} {j t : Nat} {want b : Bool} (hj : (ops[j]?).bind (·.dst) = some t) (ht : lk e t = some (.bool b)) (hb : (b == want) = false) (hn : Nat.blt d n = true)
    (h : G n ds ((d, undef) :: e) H (wpListIn (fw r) 0 P ops Q rest)) : G n ds e H (wpListIn (fw r) 0 P ops Q (⟨some d, op, ty, pos, after, some (j, want)⟩ :: rest)) := ZE rfl rfl hj ht hb hn h
end
section
variable {n : Nat} {ds : List Deferred} {e : EnvL} {w0 : World} {M : List Nat} {S : List (Nat × Obj)} {vs : List VR} {ro : List Sg} {P : Program} {Q : Exit → Act → World → Prop} {r : Option Nat} {ops : Array Oper} {rest : List Oper} {d : Nat} {v : Value} {ty : TypeId} {pos : String} {after : Array Edge} {t T : TypeId} {x : Operand} {b o : Nat} {cs : Array Value} {fr : Nat × Nat} {us : List Value}
theorem zX (us : List Value) (i : Nat) (hg' : ∀ w, (isAgg t).run P w = .ok true w) (hz : ∀ w, (sizeOf t).run P w = .ok us.length w) (hx : ev e x = some (ptr b o)) (hn : Nat.blt d n = true) (hi : S[i]? = some (b, .cells cs T fr)) (hv : (cs.toList.drop o).take us.length = us) (h : G n ds ((d, .agg us.toArray) :: e) (HV w0 M S vs ro) (wpListIn (fw r) 0 P ops Q rest)) : G n ds e (HV w0 M S vs ro) (wpListIn (fw r) 0 P ops Q (⟨some d, .load t x, ty, pos, after, none⟩ :: rest)) := jc rfl rfl hn (fun w hh => jP (vs := us) (hg' w) (hz w) hx (hh.cells i hi hv)) h
theorem roR {w : World} {S0 : List (Nat × Obj)} {vs0 : List VR} {s : Sg} {ro' : List Sg} (h : HV w0 M (S0 ++ S) (vs0 ++ vs) ro w) (i : Nat) (hi : ro[i]? = some s) (hr : ∀ t, t ∈ ro' → segOK w t ∧ (t.2.2 ≠ [] → t.1 ∉ keys S0 vs0)) : ∀ t, t ∈ s :: ro' → segOK w t ∧ (t.2.2 ≠ [] → t.1 ∉ keys S0 vs0) := roC (h.rsep i hi) hr
end
theorem hsE {w0 : World} {M : List Nat} {S S' : List (Nat × Obj)} {vs vs' : List VR} {ro ro' : List Sg} (iS iV : List Nat) (k : Nat) (hn : (ndB iS && ndB iV) = true) (hS : iS.map (fun i => S[i]?) = S'.map some) (hV : iV.map (fun i => vs[i]?) = vs'.map some) (hr : ro.drop k = ro') : ∀ w, HV w0 M S vs ro w → HV w0 M S' vs' ro' w := fun _ h => h.se iS iV k hn hS hV hr
section
variable {n : Nat} {ds : List Deferred} {e : EnvL} {P : Program} {r : Option Nat} {ops : Array Oper} {C : World → Prop} {X : Act → World → Prop} {i d : Nat} {p : Plan} {v : Value} {ty : TypeId} {pos : String} {after : Array Edge} {H : World → Prop}
theorem zs {x : Operand} (ho : ops[i]? = some ⟨some d, .move x, ty, pos, after, none⟩) (hn : Nat.blt d n = true) (hx : ev e x = some v) (h : G n ds ((d, v) :: e) H (walk r P ops C X p)) : G n ds e H (walk r P ops C X (.free i p)) := jn ho rfl rfl hn (fun _ _ => k8 hx) h
theorem JT {s T : TypeId} {x : Operand} {f b o sz : Nat} {fs : Array Field} (k : Nat) (hu : ∀ w, (underlying s).run P w = .ok (.struct fs) w) (hz : ∀ w, (sizeOf T).run P w = .ok (sz + 1) w) (ho : ops[i]? = some ⟨some d, .fieldAddr s x f, ty, pos, after, none⟩) (hf : (fs[f]?).map (fun fd => (fd.type, fd.offset)) = some (T, k)) (hn : Nat.blt d n = true) (hx : ev e x = some (ptr b o)) (h : G n ds ((d, ptr b (o + k)) :: e) H (walk r P ops C X p)) : G n ds e H (walk r P ops C X (.free i p)) := jn ho rfl rfl hn (fun w _ => jR k (hu w) hf (hz w) hx) h
theorem Kg {w0 : World} {M : List Nat} {S : List (Nat × Obj)} {vs : List VR} {ro : List Sg} {t T : TypeId} {x : Operand} {b o : Nat} {cs : Array Value} {fr : Nat × Nat} (j : Nat) (hg' : ∀ w, (isAgg t).run P w = .ok false w) (ho : ops[i]? = some ⟨some d, .load t x, ty, pos, after, none⟩) (hx : ev e x = some (ptr b o)) (hn : Nat.blt d n = true) (hi : S[j]? = some (b, .cells cs T fr)) (hv : cs.toList[o]? = some v) (h : G n ds ((d, v) :: e) H (walk r P ops (HV w0 M S vs ro) X p)) : G n ds e H (walk r P ops (HV w0 M S vs ro) X (.hoist i p)) := jy ho rfl rfl hn (fun w hh => jz (hg' w) hx (hh.cell j hi hv)) h
end
theorem sj {α : Type} {a b : α} (h : some a = some b) : a = b := Option.some.inj h
theorem ifN {α : Type} {x : Bool} {a b r : α} (hx : x = false) (h : (if x = true then a else b) = r) : b = r := ifF (fun hh => Bool.noConfusion (hx.symm.trans hh)) h
theorem ifE {α : Type} {c : Prop} [Decidable c] {a b r : α} (hc : decide c = false) (h : (if c then a else b) = r) : b = r := ifF (of_decide_eq_false hc) h
theorem ifD {α : Type} {c : Prop} [Decidable c] {a b r : α} (hc : decide c = true) (h : (if c then a else b) = r) : a = r := ifT (of_decide_eq_true hc) h
end Go.Gx

namespace Go.Gx
open Go Go.Fw
section
variable {n : Nat} {ds : List Deferred} {e : EnvL} {w0 : World} {M : List Nat} {S : List (Nat × Obj)} {vs : List VR} {ro : List (Nat × Nat × List Value)} {P : Program} {Q : Exit → Act → World → Prop} {r : Option Nat} {ops : Array Oper} {rest : List Oper}
theorem zero_rep {α : Type} {R : Row α} {z : Value} {z0 : α} (h : z.cells.toList = R.cells z0) (k : Nat) : (Builtin.zeroCells z.cells k).toList = R.enc (List.replicate k z0) := by
  have hs : z.cells.size = R.sz := by rw [← Array.length_toList, h, R.len]
  have e : (Builtin.zeroCells z.cells k).toList = (madeCells z.cells (k * R.sz)).toList := by
    unfold Builtin.zeroCells madeCells
    rw [hs]
  rw [e, made_get hs, h, ← enc_rep]
end
end Go.Gx

namespace Go.Gx
open Go Go.Fw
theorem Y {α : Sort _} {a : α} : a = a := rfl
abbrev kc (b : Nat) (cs : Array Value) (T : TypeId) : Nat × Obj := (b, .cells cs T (0, 0))
end Go.Gx

namespace Go.Gx
open Go Go.Fw
def set3 (a b c i v : Int) : Int × Int × Int := if i = 0 then (v, b, c) else if i = 1 then (a, v, c) else (a, b, v)
theorem set3_list {a b c i v x : Int} (h : ix [a, b, c] i = some x) (f : Int → Value) (pre post : List Value) {o : Nat} (hp : pre.length = o) :
    (pre ++ (f a :: f b :: f c :: post)).set (o + i.toNat) (f v) = pre ++ (f (set3 a b c i v).1 :: f (set3 a b c i v).2.1 :: f (set3 a b c i v).2.2 :: post) := by
  obtain ⟨h0, h1, _⟩ := ixO h
  simp only [List.length_cons, List.length_nil] at h1
  have hc : i = 0 ∨ i = 1 ∨ i = 2 := by omega
  rw [List.set_append_right _ _ (by omega), ← hp, Nat.add_sub_cancel_left]
  rcases hc with rfl | rfl | rfl <;> rfl
section ops
variable {n : Nat} {ds : List Deferred} {e : EnvL} {P : Program} {r : Option Nat} {Q : Exit → Act → World → Prop} {ops : Array Oper} {w0 : World} {M : List Nat} {S : List (Nat × Obj)} {vs : List VR} {ro : List Sg} {rest : List Oper}
theorem jag (i : Nat) (pre post : List Value) {t : TypeId} {x y : Operand} {b at_ : Nat} {T : TypeId} {a1 a2 a3 j v x0 : Int} {u : Int × Int × Int} {cs cs' : Array Value} {S' : List (Nat × Obj)} {ty : TypeId} {pos : String} {after : Array Edge}
    (hz : ∀ w, (sizeOf t).run P w = .ok 1 w) (hx : ev e x = some (ptr b at_)) (hy : ev e y = some (.int .i64 v)) (hi : S[i]? = some (b, .cells cs T (0, 0))) (hj : ix [a1, a2, a3] j = some x0) (hc : cs.toList = pre ++ (.int .i64 a1 :: .int .i64 a2 :: .int .i64 a3 :: post)) (ha : at_ = pre.length + j.toNat)
    (hu : set3 a1 a2 a3 j v = u) (hc' : cs'.toList = pre ++ (.int .i64 u.1 :: .int .i64 u.2.1 :: .int .i64 u.2.2 :: post)) (hS : S.set i (b, .cells cs' T (0, 0)) = S')
    (h : G n ds e (HV w0 M S' vs ro) (wpListIn (fw r) 0 P ops Q rest)) :
    G n ds e (HV w0 M S vs ro) (wpListIn (fw r) 0 P ops Q (⟨none, .store t x y, ty, pos, after, none⟩ :: rest)) := by
  subst hu ha
  have h1 := set3_list hj (fun z => Value.int .i64 z) pre post (v := v) rfl
  obtain ⟨j0, j1, _⟩ := ixO hj
  simp only [List.length_cons, List.length_nil] at j1
  refine q4 (cs' := cs') i hz hx hy rfl hi ?_ ?_ hS h
  · rw [← Array.length_toList, hc]; simp; omega
  · apply Array.toList_inj.1
    rw [Array.toList_setIfInBounds, hc, hc']
    exact h1
end ops
end Go.Gx

namespace Go.Gx
open Go Go.Fw
section
variable {P : Program} {e : EnvL} {w : World} {dst : Option Nat} {ty : TypeId} {pos : String} {after : Array Edge} {g : Option (Nat × Bool)}
theorem jaS {t E : TypeId} {x hi : Operand} {b o len sz : Nat} {k : IntKind} {i : Int} (hu : (underlying t).run P w = .ok (.array len E) w) (hz : (sizeOf E).run P w = .ok sz w)
    (hx : ev e x = some (ptr b o)) (hhi : ev e hi = some (.int k i)) (h : 0 ≤ i ∧ i ≤ (len : Int)) (hl : Nat.blt 0 len = true) : Val P e w ⟨dst, .slice t x none (some hi) none, ty, pos, after, g⟩ (slv (some (b, o)) i.toNat len) := fun n ds a he => by
  have key : (Instr.sliceBounds false len len none (some (.int k i)) none).run P w = .ok (0, i.toNat, len) w := by
    have h2 : i ≤ (len : Int) := h.2
    simp [Instr.sliceBounds, Instr.sliceBound, asIntOf, h.1, h2]
  have hl' : ¬ len = 0 := by simp at hl; omega
  simp [execOp, he.eval hx, he.eval hhi, Instr.sliceAt, hu, Instr.sureAddr, key, hz, slv, hl', addr_add]
end
theorem asub {α : Type} (R : Row α) {w : World} {b : Nat} {K : List Nat} {xs : List Value} (o : Nat) (l : List α) (h : segOK w (b, 0, xs) ∧ (xs ≠ [] → b ∉ K)) (hx : (xs.drop o).take (R.enc l).length = R.enc l) (hne : xs.isEmpty = false) : segOK w (b, o, R.enc l) ∧ (R.enc l ≠ [] → b ∉ K) := by
  refine ⟨fun j hj => ?_, fun _ => h.2 (by intro h0; simp [h0] at hne)⟩
  have := segCells h.1 o (us := R.enc l) hx j hj
  exact this
end Go.Gx

namespace Go.Sb
structure Span where
  lo : Int
  hi : Int
  deriving DecidableEq, Inhabited
structure Sand where
  span : Span
  reach : Int
  deriving DecidableEq, Inhabited
structure Sight where
  after : Int
  cell : Int
  upright : Bool
  deriving DecidableEq, Inhabited
structure Channel where
  cells : Int
  tides : Int
  fords : List Int
  sands : List Sand
  sights : List Sight
  deriving DecidableEq, Inhabited
structure Cells where
  c0 : Int
  c1 : Int
  c2 : Int
  deriving DecidableEq, Inhabited
structure State where
  after : Int
  at_ : Cells
  deriving DecidableEq, Inhabited
end Go.Sb

namespace Go.Proofs.Wb
open Go Go.Fw Go.Gx Go.Sb
def RSp : Row Span := ⟨2, fun x => [.int .i64 x.lo, .int .i64 x.hi], fun _ => rfl, fun _ => rfl⟩
def RSa : Row Sand := ⟨3, fun x => [.int .i64 x.span.lo, .int .i64 x.span.hi, .int .i64 x.reach], fun _ => rfl, fun _ => rfl⟩
def RSi : Row Sight := ⟨3, fun x => [.int .i64 x.after, .int .i64 x.cell, .bool x.upright], fun _ => rfl, fun _ => rfl⟩
def RSta : Row State := ⟨4, fun x => [.int .i64 x.after, .int .i64 x.at_.c0, .int .i64 x.at_.c1, .int .i64 x.at_.c2], fun _ => rfl, fun _ => rfl⟩
end Go.Proofs.Wb

