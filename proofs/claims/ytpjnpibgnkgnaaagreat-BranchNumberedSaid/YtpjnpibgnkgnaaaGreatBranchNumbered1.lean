/- What the functions that the law BranchNumbered reaches come to, and why it holds: part 1. -/
import Derived.TacticsIn
import Derived.OrdersIn
import Derived.RangeFuncRecord
import Derived.Below
import Derived.Deep.Quiet
import Derived.Laws.OwnMore
import Derived.Laws.CopyRow
import Derived.Laws.Tables
import Derived.Laws.StructEq
import Derived.ArgAppend
import Derived.KernelRfl
namespace Go.Fw
open Go

abbrev EnvL := List (Nat × Value)

def lk : EnvL → Nat → Option Value
  | [], _ => none
  | (k, v) :: r, t => bif Nat.beq k t then some v else lk r t

structure Env (n : Nat) (ds : List Deferred) (e : EnvL) (a : Act) : Prop where
  size : a.tmps.size = n
  defs : a.defers = ds
  get : ∀ t v, lk e t = some v → a.tmps[t]? = some v

def ev (e : EnvL) : Operand → Option Value
  | .tmp t => lk e t
  | .const v => some v
  | .global g => some (.pointer (some ⟨g, 0, none⟩))
  | .func f => some (.func (.func f) #[] #[])

theorem Env.eval {n : Nat} {ds : List Deferred} {e : EnvL} {a : Act} (h : Env n ds e a) {x : Operand} {v : Value} (hx : ev e x = some v) : a.eval x = v := by
  cases x with
  | tmp t => have := h.get t v hx; simp [Act.eval, Array.getD_eq_getD_getElem?, this]
  | const u => simpa [ev, Act.eval] using hx
  | global g => simpa [ev, Act.eval] using hx
  | func f => simpa [ev, Act.eval] using hx

theorem Env.put {n : Nat} {ds : List Deferred} {e : EnvL} {a : Act} (h : Env n ds e a) {d : Nat} (hd : Nat.blt d n = true) (v : Value) : Env n ds ((d, v) :: e) (a.put (some d) v) := by
  have hd' : d < n := by simpa using hd
  refine ⟨by simp [Act.put, h.size], by simp [Act.put, h.defs], fun t u ht => ?_⟩
  simp only [Act.put]
  by_cases hdt : d = t
  · subst hdt
    simp only [lk, Nat.beq_refl, cond_true, Option.some.injEq] at ht
    subst ht
    rw [Array.getElem?_setIfInBounds_self_of_lt (by rw [h.size]; exact hd')]
  · have hb : Nat.beq d t = false := by
      cases hbb : Nat.beq d t with
      | false => rfl
      | true => exact absurd (Nat.eq_of_beq_eq_true hbb) hdt
    simp only [lk, hb, cond_false] at ht
    rw [Array.getElem?_setIfInBounds_ne hdt]
    exact h.get t u ht

def G (n : Nat) (ds : List Deferred) (e : EnvL) (H : World → Prop) (X : Act → World → Prop) : Prop := ∀ a w, Env n ds e a → H w → X a w

def fw (r : Option Nat) : Fence := { fn := fun _ => True, depth := none, alive := false, round := r }
theorem callsIn_fw {r : Option Nat} {n : Nat} {P : Program} {f : FuncId} {args : Array Value} {w : World} {R : Ending → World → Prop} : CallsIn (fw r) n P f args w R ↔ Calls P f args w R := by
  have h1 : CallsIn (fw r) n P f args w R ↔ CallsIn Fence.wide n P f args w R := Iff.rfl
  exact h1.trans callsIn_wide

def thenQ (K : Act → World → Prop) (Q : Exit → Act → World → Prop) : Exit → Act → World → Prop
  | .normal => K
  | .exit id => Q (.exit id)
  | .goto l => Q (.goto l)
  | .ret => Q .ret
  | .panic c => Q (.panic c)
  | .outgrown => Q .outgrown

theorem thenQ_eq (K : Act → World → Prop) (Q : Exit → Act → World → Prop) : thenQ K Q = Exit.then K Q := by
  funext e a w; cases e <;> rfl

def blkQ (id : Nat) (Q : Exit → Act → World → Prop) : Exit → Act → World → Prop
  | .normal => Q .normal
  | .exit i => bif Nat.beq i id then Q .normal else Q (.exit i)
  | .goto l => Q (.goto l)
  | .ret => Q .ret
  | .panic c => Q (.panic c)
  | .outgrown => Q .outgrown

theorem blkQ_eq (id : Nat) (Q : Exit → Act → World → Prop) : blkQ id Q = Exit.inBlock id Q := by
  funext e a w
  cases e with
  | exit i =>
    simp only [blkQ, Exit.inBlock]
    by_cases h : i = id
    · subst h; simp
    · have hb : Nat.beq i id = false := by
        cases hbb : Nat.beq i id with
        | false => rfl
        | true => exact absurd (Nat.eq_of_beq_eq_true hbb) h
      simp [hb, h]
  | _ => rfl

section control
variable {n : Nat} {ds : List Deferred} {e : EnvL} {H : World → Prop} {P : Program} {F : Fence} {Q : Exit → Act → World → Prop}

theorem G.mono {X Y : Act → World → Prop} (h : G n ds e H X) (hx : ∀ a w, X a w → Y a w) : G n ds e H Y := fun a w he hh => hx a w (h a w he hh)
theorem G.pre {X : Act → World → Prop} {H' : World → Prop} (h : G n ds e H' X) (hx : ∀ w, H w → H' w) : G n ds e H X := fun a w he hh => h a w he (hx w hh)

theorem ji {x y : Code} (h : G n ds e H (x.wpIn F 0 P (thenQ (y.wpIn F 0 P Q) Q))) : G n ds e H ((Code.seq x y).wpIn F 0 P Q) :=
  fun a w he hh => wpIn_seq (by rw [← thenQ_eq]; exact h a w he hh)
theorem jp {id : Nat} {c : Code} (h : G n ds e H (c.wpIn F 0 P (blkQ id Q))) : G n ds e H ((Code.block id c).wpIn F 0 P Q) :=
  fun a w he hh => wpIn_block (by rw [← blkQ_eq]; exact h a w he hh)
theorem jt (h : G n ds e H (Q .normal)) : G n ds e H (Code.skip.wpIn F 0 P Q) := fun a w he hh => wpIn_skip (h a w he hh)
theorem kN {id : Nat} (h : G n ds e H (Q (.exit id))) : G n ds e H ((Code.exit id).wpIn F 0 P Q) := fun a w he hh => wpIn_exit (h a w he hh)
theorem jv (h : G n ds e H (Q .ret)) : G n ds e H (Code.ret.wpIn F 0 P Q) := fun a w he hh => wpIn_ret (h a w he hh)
theorem je {id : Nat} {l : List Oper} (h : G n ds e H (wpListIn F 0 P l.toArray Q l)) : G n ds e H ((Code.region id l.toArray false).wpIn F 0 P Q) :=
  fun a w he hh => wpIn_region_lit (h a w he hh)
theorem jx {ops : Array Oper} (h : G n ds e H (Q .normal)) : G n ds e H (wpListIn F 0 P ops Q []) := fun a w he hh => wpListIn_nil (h a w he hh)
theorem ja {K : Act → World → Prop} (h : G n ds e H K) : G n ds e H (thenQ K Q .normal) := h
theorem jw {id : Nat} (h : G n ds e H (Q .normal)) : G n ds e H (blkQ id Q .normal) := h
theorem jh {K : Act → World → Prop} (h : G n ds e H (Q .ret)) : G n ds e H (thenQ K Q .ret) := h
theorem jJ {id : Nat} (h : G n ds e H (Q .ret)) : G n ds e H (blkQ id Q .ret) := h
theorem jl {K : Act → World → Prop} {i : Nat} (h : G n ds e H (Q (.exit i))) : G n ds e H (thenQ K Q (.exit i)) := h
theorem jO {id : Nat} (h : G n ds e H (Q .normal)) : G n ds e H (blkQ id Q (.exit id)) := by
  have : blkQ id Q (.exit id) = Q .normal := by simp [blkQ]
  rw [this]; exact h
theorem jaL {id i : Nat} (hi : Nat.beq i id = false) (h : G n ds e H (Q (.exit i))) : G n ds e H (blkQ id Q (.exit i)) := by
  have : blkQ id Q (.exit i) = Q (.exit i) := by simp [blkQ, hi]
  rw [this]; exact h

theorem ju {c : Operand} {x y : Code} {b : Bool} (hc : ev e c = some (.bool b)) (ht : b = true → G n ds e H (x.wpIn F 0 P Q)) (hf : b = false → G n ds e H (y.wpIn F 0 P Q)) :
    G n ds e H ((Code.cond c x y).wpIn F 0 P Q) :=
  fun a w he hh => wpIn_cond_split (he.eval hc) (fun h => ht h a w he hh) (fun h => hf h a w he hh)
theorem J1 {c : Operand} {x y : Code} {b : Bool} (hc : ev e c = some (.bool b)) (hb : b = true) (ht : G n ds e H (x.wpIn F 0 P Q)) :
    G n ds e H ((Code.cond c x y).wpIn F 0 P Q) :=
  fun a w he hh => wpIn_cond_true (by rw [he.eval hc, hb]) (ht a w he hh)
theorem Ka {c : Operand} {x y : Code} {b : Bool} (hc : ev e c = some (.bool b)) (hb : b = false) (hf : G n ds e H (y.wpIn F 0 P Q)) :
    G n ds e H ((Code.cond c x y).wpIn F 0 P Q) :=
  fun a w he hh => wpIn_cond_false (by rw [he.eval hc, hb]) (hf a w he hh)

inductive Sub (e : EnvL) : EnvL → Prop
  | nil : Sub e []
  | cons {t : Nat} {v : Value} {r : EnvL} (h : lk e t = some v) (hr : Sub e r) : Sub e ((t, v) :: r)
theorem Sub.get {e e' : EnvL} (h : Sub e e') : ∀ t v, lk e' t = some v → lk e t = some v := by
  induction h with
  | nil => intro t v h; simp [lk] at h
  | @cons s u r h _ ih =>
    intro t v ht
    by_cases hst : s = t
    · subst hst
      simp only [lk, Nat.beq_refl, cond_true, Option.some.injEq] at ht
      subst ht; exact h
    · have hb : Nat.beq s t = false := by
        cases hbb : Nat.beq s t with
        | false => rfl
        | true => exact absurd (Nat.eq_of_beq_eq_true hbb) hst
      simp only [lk, hb, cond_false] at ht
      exact ih t v ht
theorem Env.sub {e e' : EnvL} {a : Act} (h : Env n ds e a) (hs : Sub e e') : Env n ds e' a := ⟨h.size, h.defs, fun t v ht => h.get t v (hs.get t v ht)⟩
theorem ZD {X : Act → World → Prop} {e' : EnvL} (hs : Sub e e') (h : G n ds e' H X) : G n ds e H X := fun a w he hh => h a w (he.sub hs) hh
theorem jaG {ι : Type} {kept : EnvL} {c : Code} (m : ι → EnvL) (Inv : ι → World → Prop) (μ : ι → Nat) (i0 : ι) (h0 : ∀ w, H w → Inv i0 w)
    (round : ∀ i, G n ds (m i ++ kept) (Inv i) (c.wpIn F 0 P (thenQ (fun a' w' => ∃ j, Env n ds (m j ++ kept) a' ∧ Inv j w' ∧ μ j < μ i) Q))) :
    G n ds (m i0 ++ kept) H ((Code.loop c).wpIn F 0 P Q) := by
  intro a w he hh
  have key : ∀ k i a w, μ i = k → Env n ds (m i ++ kept) a → Inv i w → (Code.loop c).wpIn F 0 P Q a w := by
    intro k i a w hk ha hi
    refine wpIn_loop (fun a w => ∃ i, Env n ds (m i ++ kept) a ∧ Inv i w) (fun a w => @dite Nat (∃ k, ∃ i, Env n ds (m i ++ kept) a ∧ Inv i w ∧ μ i = k) (Classical.propDecidable _) (fun h => Classical.choose (p := fun k => (∃ i, Env n ds (m i ++ kept) a ∧ Inv i w ∧ μ i = k) ∧ ∀ j, (∃ i, Env n ds (m i ++ kept) a ∧ Inv i w ∧ μ i = j) → k ≤ j) (by
        obtain ⟨k, hk⟩ := h
        induction k using Nat.strongRecOn with
        | _ k ih =>
          by_cases hs : ∃ j, j < k ∧ ∃ i, Env n ds (m i ++ kept) a ∧ Inv i w ∧ μ i = j
          · obtain ⟨j, hj, hji⟩ := hs; exact ih j hj hji
          · exact ⟨k, hk, fun j hj => Nat.le_of_not_lt fun hlt => hs ⟨j, hlt, hj⟩⟩)) (fun _ => 0)) ⟨i, ha, hi⟩ ?_
    rintro a w ⟨i, ha, hi⟩
    -- take the least ghost
    have hex : ∃ k, ∃ i, Env n ds (m i ++ kept) a ∧ Inv i w ∧ μ i = k := ⟨_, i, ha, hi, rfl⟩
    have hmin : ∀ a w (hx : ∃ k, ∃ i, Env n ds (m i ++ kept) a ∧ Inv i w ∧ μ i = k), ∃ k, (∃ i, Env n ds (m i ++ kept) a ∧ Inv i w ∧ μ i = k) ∧ ∀ j, (∃ i, Env n ds (m i ++ kept) a ∧ Inv i w ∧ μ i = j) → k ≤ j := by
      rintro a w ⟨k, hk⟩
      induction k using Nat.strongRecOn with
      | _ k ih =>
        by_cases hs : ∃ j, j < k ∧ ∃ i, Env n ds (m i ++ kept) a ∧ Inv i w ∧ μ i = j
        · obtain ⟨j, hj, hji⟩ := hs; exact ih j hj hji
        · exact ⟨k, hk, fun j hj => Nat.le_of_not_lt fun hlt => hs ⟨j, hlt, hj⟩⟩
    rw [dif_pos hex]
    have hspec := Classical.choose_spec (hmin a w hex)
    obtain ⟨⟨i', ha', hi', hμ⟩, _⟩ := hspec
    have hr := round i' a w ha' hi'
    rw [thenQ_eq] at hr
    refine Go.wpIn_mono hr ?_
    intro x a2 w2 hq
    cases x with
    | normal =>
      obtain ⟨j, hj1, hj2, hj3⟩ := hq
      refine ⟨⟨j, hj1, hj2⟩, ?_⟩
      have hex2 : ∃ k, ∃ i, Env n ds (m i ++ kept) a2 ∧ Inv i w2 ∧ μ i = k := ⟨_, j, hj1, hj2, rfl⟩
      rw [dif_pos hex2]
      have h2 := (Classical.choose_spec (hmin a2 w2 hex2)).2 (μ j) ⟨j, hj1, hj2, rfl⟩
      rw [hμ] at hj3
      exact Nat.lt_of_le_of_lt h2 hj3
    | _ => exact hq
  exact key _ i0 a w rfl he (h0 w hh)
theorem Zx {ι : Type} {kept : EnvL} {m : ι → EnvL} {Inv : ι → World → Prop} {μ : ι → Nat} {i : ι} (j : ι) (he : Sub e (m j ++ kept)) (hi : ∀ w, H w → Inv j w) (hm : μ j < μ i) :
    G n ds e H (fun a' w' => ∃ j, Env n ds (m j ++ kept) a' ∧ Inv j w' ∧ μ j < μ i) := fun _ w ha hh => ⟨j, ha.sub he, hi w hh, hm⟩
end control
end Go.Fw

namespace Go.Fw
open Go

def Val (P : Program) (e : EnvL) (w : World) (o : Oper) (v : Value) : Prop := ∀ n ds a, Env n ds e a → (execOp a.eval o).run P w = .ok (.value v) w

section rules
variable {n : Nat} {ds : List Deferred} {e : EnvL} {H : World → Prop} {P : Program} {r : Option Nat} {Q : Exit → Act → World → Prop} {ops : Array Oper}

theorem semAt_value {l : Option Nat} {ρ : Operand → Value} {o : Oper} {v : Value} {w w' : World} (h : (execOp ρ o).run P w = .ok (.value v) w') : (o.semAt l ρ).run P w = .ok (.value v) w' := by
  by_cases hd : ∃ c, o.op = .defer c
  · obtain ⟨c, hc⟩ := hd
    unfold execOp at h
    simp only [hc] at h
    simp only [Sem.run_bind] at h
    cases hr : (resolve ρ c o.type).run P w with
    | ok d w2 => rw [hr] at h; simp at h
    | halt x w2 => rw [hr] at h; simp at h
  · rw [Oper.semAt_eq l ρ o (fun c hc => hd ⟨c, hc⟩)]; exact h

theorem wanted_none {o : Oper} (hg : o.guard = none) (y : Nat → Option Bool) : Region.wanted o y = true := by simp [Region.wanted, hg]

theorem wpListIn_value {o : Oper} {rest : List Oper} {a : Act} {w w' : World} {v : Value} (hg : Region.wanted o (yielded ops a.tmps) = true) (h : (execOp a.eval o).run P w = .ok (.value v) w')
    (hk : wpListIn (fw r) 0 P ops Q rest (a.put o.dst v) w') : wpListIn (fw r) 0 P ops Q (o :: rest) a w := by
  unfold wpListIn
  rw [if_pos hg]
  refine ⟨fun _ _ => trivial, ?_⟩
  rw [semAt_value h]
  exact hk

theorem jc {o : Oper} {rest : List Oper} {d : Nat} {v : Value} (hd : o.dst = some d) (hg : o.guard = none) (hn : Nat.blt d n = true) (hv : ∀ w, H w → Val P e w o v)
    (h : G n ds ((d, v) :: e) H (wpListIn (fw r) 0 P ops Q rest)) : G n ds e H (wpListIn (fw r) 0 P ops Q (o :: rest)) := fun a w he hh =>
  wpListIn_value (wanted_none hg _) (hv w hh n ds a he) (by rw [hd]; exact h _ w (he.put hn v) hh)
end rules

section vals
variable {P : Program} {e : EnvL} {w : World} {dst : Option Tmp} {ty : TypeId} {pos : String} {after : Array Edge} {g : Option (Nat × Bool)}

theorem k8 {x : Operand} {v : Value} (hx : ev e x = some v) : Val P e w ⟨dst, .move x, ty, pos, after, g⟩ v := fun n ds a he => by
  simp [execOp, he.eval hx]
theorem kM {x : Operand} {v : Value} (hx : ev e x = some v) : Val P e w ⟨dst, .assign x, ty, pos, after, g⟩ v := fun n ds a he => by
  simp [execOp, he.eval hx]
theorem Qi {c x y : Operand} {v : Value} (hc : ev e c = some (.bool true)) (hx : ev e x = some v) : Val P e w ⟨dst, .pick c x y, ty, pos, after, g⟩ v := fun n ds a he => by
  simp [execOp, he.eval hc, asBool, he.eval hx]
theorem Kb {c x y : Operand} {v : Value} (hc : ev e c = some (.bool false)) (hy : ev e y = some v) : Val P e w ⟨dst, .pick c x y, ty, pos, after, g⟩ v := fun n ds a he => by
  simp [execOp, he.eval hc, asBool, he.eval hy]

theorem Zw {op : BinOp} {t u : TypeId} {x y : Operand} {k : IntKind} {m m' z : Int} (hx : ev e x = some (.int k m)) (hy : ev e y = some (.int k m'))
    (ho : (match op with | .add => some (m + m') | .sub => some (m - m') | .mul => some (m * m') | _ => none) = some z) : Val P e w ⟨dst, .binOp op t x y u, ty, pos, after, g⟩ (.int k (k.wrap z)) := fun n ds a he => by
  cases op <;> simp at ho <;> subst ho <;> simp [execOp, he.eval hx, he.eval hy, eqGuard, binOp, Op.intArith]
theorem jaj {t u : TypeId} {x y : Operand} {k : IntKind} {m m' : Int} (hx : ev e x = some (.int k m)) (hy : ev e y = some (.int k m')) (hw : k.wrap (m + m') = m + m') :
    Val P e w ⟨dst, .binOp .add t x y u, ty, pos, after, g⟩ (.int k (m + m')) := by have := Zw (P := P) (w := w) (op := .add) (t := t) (u := u) (dst := dst) (ty := ty) (pos := pos) (after := after) (g := g) hx hy rfl; rwa [hw] at this
theorem jbd {t u : TypeId} {x y : Operand} {k : IntKind} {m m' : Int} (hx : ev e x = some (.int k m)) (hy : ev e y = some (.int k m')) (hw : k.wrap (m - m') = m - m') :
    Val P e w ⟨dst, .binOp .sub t x y u, ty, pos, after, g⟩ (.int k (m - m')) := by have := Zw (P := P) (w := w) (op := .sub) (t := t) (u := u) (dst := dst) (ty := ty) (pos := pos) (after := after) (g := g) hx hy rfl; rwa [hw] at this
theorem jas {t u : TypeId} {x y : Operand} {k : IntKind} {m m' : Int} (hx : ev e x = some (.int k m)) (hy : ev e y = some (.int k m')) :
    Val P e w ⟨dst, .binOp .add t x y u, ty, pos, after, g⟩ (.int k (k.wrap (m + m'))) := Zw hx hy rfl
theorem jaE {t u : TypeId} {x y : Operand} {k : IntKind} {m m' : Int} (hx : ev e x = some (.int k m)) (hy : ev e y = some (.int k m')) :
    Val P e w ⟨dst, .binOp .mul t x y u, ty, pos, after, g⟩ (.int k (k.wrap (m * m'))) := Zw hx hy rfl

theorem wrap_i64 {z : Int} (h : -9223372036854775808 ≤ z ∧ z ≤ 9223372036854775807) : IntKind.i64.wrap z = z := by
  have : (2:Int)^64 = 18446744073709551616 := by decide
  have : (2:Int)^63 = 9223372036854775808 := by decide
  simp only [IntKind.wrap, IntKind.signed, IntKind.bits]
  simp
  split <;> omega

theorem jbh {t u : TypeId} {x y : Operand} {k : IntKind} {m m' : Int} (hx : ev e x = some (.int k m)) (hy : ev e y = some (.int k m')) (h0 : m' ≠ 0) :
    Val P e w ⟨dst, .binOp .rem t x y u, ty, pos, after, g⟩ (.int k (m.tmod m')) := fun n ds a he => by
  simp [execOp, he.eval hx, he.eval hy, eqGuard, binOp, Op.intDiv, h0]
theorem jak {t u : TypeId} {x y : Operand} {k : IntKind} {m m' : Int} (hx : ev e x = some (.int k m)) (hy : ev e y = some (.int k m')) :
    Val P e w ⟨dst, .binOp .lss t x y u, ty, pos, after, g⟩ (.bool (decide (m < m'))) := fun n ds a he => by
  simp [execOp, he.eval hx, he.eval hy, eqGuard, binOp, Op.intCmp]
theorem Z1 {t u : TypeId} {x y : Operand} {k : IntKind} {m m' : Int} (hx : ev e x = some (.int k m)) (hy : ev e y = some (.int k m')) :
    Val P e w ⟨dst, .binOp .leq t x y u, ty, pos, after, g⟩ (.bool (decide (m ≤ m'))) := fun n ds a he => by
  simp [execOp, he.eval hx, he.eval hy, eqGuard, binOp, Op.intCmp]
theorem Zj {t u : TypeId} {x y : Operand} {k : IntKind} {m m' : Int} (hx : ev e x = some (.int k m)) (hy : ev e y = some (.int k m')) :
    Val P e w ⟨dst, .binOp .gtr t x y u, ty, pos, after, g⟩ (.bool (decide (m' < m))) := fun n ds a he => by
  simp [execOp, he.eval hx, he.eval hy, eqGuard, binOp, Op.intCmp]
theorem YI {t u : TypeId} {x y : Operand} {k : IntKind} {m m' : Int} (hx : ev e x = some (.int k m)) (hy : ev e y = some (.int k m')) :
    Val P e w ⟨dst, .binOp .geq t x y u, ty, pos, after, g⟩ (.bool (decide (m' ≤ m))) := fun n ds a he => by
  simp [execOp, he.eval hx, he.eval hy, eqGuard, binOp, Op.intCmp]
theorem Ju {t u : TypeId} {x y : Operand} {k : IntKind} {m m' : Int} (hx : ev e x = some (.int k m)) (hy : ev e y = some (.int k m')) :
    Val P e w ⟨dst, .binOp .eql t x y u, ty, pos, after, g⟩ (.bool (decide (m = m'))) := fun n ds a he => by
  simp [execOp, he.eval hx, he.eval hy, eqGuard, binOp, Op.intCmp]
  by_cases h : m = m' <;> simp [h]
theorem Jc {t u : TypeId} {x y : Operand} {k : IntKind} {m m' : Int} (hx : ev e x = some (.int k m)) (hy : ev e y = some (.int k m')) :
    Val P e w ⟨dst, .binOp .neq t x y u, ty, pos, after, g⟩ (.bool (!decide (m = m'))) := fun n ds a he => by
  simp [execOp, he.eval hx, he.eval hy, eqGuard, binOp, Op.intCmp]
  by_cases h : m = m' <;> simp [h]
theorem jar {op : BinOp} {t u : TypeId} {x y : Operand} {k : IntKind} {m m' z : Int} (hx : ev e x = some (.int k m)) (hy : ev e y = some (.int k m'))
    (ho : (match op with | .and => some (k.wrap (BitVec.ofInt k.bits m &&& BitVec.ofInt k.bits m').toNat) | .or => some (k.wrap (BitVec.ofInt k.bits m ||| BitVec.ofInt k.bits m').toNat) | .xor => some (k.wrap (BitVec.ofInt k.bits m ^^^ BitVec.ofInt k.bits m').toNat) | _ => none) = some z) :
    Val P e w ⟨dst, .binOp op t x y u, ty, pos, after, g⟩ (.int k z) := fun n ds a he => by
  cases op <;> simp at ho <;> subst ho <;> simp [execOp, he.eval hx, he.eval hy, eqGuard, binOp, Op.intBits]
theorem ja5 {t u : TypeId} {x y : Operand} {k k' : IntKind} {m m' : Int} (hx : ev e x = some (.int k m)) (hy : ev e y = some (.int k' m')) (h0 : 0 ≤ m') :
    Val P e w ⟨dst, .binOp .shr t x y u, ty, pos, after, g⟩ (.int k (m.fdiv (2 ^ min m'.toNat k.bits))) := fun n ds a he => by
  simp [execOp, he.eval hx, he.eval hy, eqGuard, binOp, Op.shift, show ¬ m' < 0 by omega]
theorem zt {t : TypeId} {x : Operand} {b : Bool} (hx : ev e x = some (.bool b)) : Val P e w ⟨dst, .unOp .not t x, ty, pos, after, g⟩ (.bool (!b)) := fun n ds a he => by
  simp [execOp, he.eval hx, Op.unary]
theorem jbe {t : TypeId} {x : Operand} {k : IntKind} {m : Int} (hx : ev e x = some (.int k m)) (hw : k.wrap (-m) = -m) : Val P e w ⟨dst, .unOp .neg t x, ty, pos, after, g⟩ (.int k (-m)) := fun n ds a he => by
  simp [execOp, he.eval hx, Op.unary, Op.intArith, hw]
theorem jaJ {s d : TypeId} {x : Operand} {k k' : IntKind} {m : Int} {u : TypeDesc} (hs : (underlying s).run P w = .ok u w) (hd : (underlying d).run P w = .ok (.int k') w) (hx : ev e x = some (.int k m)) :
    Val P e w ⟨dst, .convert s d x, ty, pos, after, g⟩ (.int k' (k'.wrap m)) := fun n ds a he => by
  simp [execOp, he.eval hx, convert, hs, hd, Conv.intToInt]
theorem jao {x : Operand} {i : Nat} {vs : Array Value} {v : Value} (hx : ev e x = some (.tuple vs)) (hi : vs.toList[i]? = some v) : Val P e w ⟨dst, .extract x i, ty, pos, after, g⟩ v := fun n ds a he => by
  rw [Array.getElem?_toList] at hi
  simp [execOp, he.eval hx, Instr.extract, hi]
theorem ku {f : FuncId} {fs cs : Array Operand} {u u' : Array Value} (hf : fs.toList.mapM (ev e) = some u.toList) (hc : cs.toList.mapM (ev e) = some u'.toList) :
    Val P e w ⟨dst, .makeFunc (.func f) fs cs, ty, pos, after, g⟩ (.func (.func f) u u') := fun n ds a he => by
  have key : ∀ (l : List Operand) (r : List Value), l.mapM (ev e) = some r → l.map a.eval = r := by
    intro l
    induction l with
    | nil => intro r h; simp at h; simp [h]
    | cons x l ih =>
      intro r h
      rw [List.mapM_cons] at h
      cases hx : ev e x with
      | none => simp [hx] at h
      | some v =>
        cases hl : List.mapM (ev e) l with
        | none => simp [hx, hl] at h
        | some r' => simp [hx, hl] at h; subst h; simp [he.eval hx, ih r' hl]
  have h1 : fs.map a.eval = u := by apply Array.toList_inj.1; rw [Array.toList_map]; exact key _ _ hf
  have h2 : cs.map a.eval = u' := by apply Array.toList_inj.1; rw [Array.toList_map]; exact key _ _ hc
  simp [execOp, h1, h2, Instr.makeFunc]

abbrev ptr (b o : Nat) : Value := .pointer (some ⟨b, o, none⟩)

theorem jQ {x : Operand} {b o : Nat} (hx : ev e x = some (ptr b o)) : Val P e w ⟨dst, .nilCheck x, ty, pos, after, g⟩ (ptr b o) := fun n ds a he => by
  simp [execOp, he.eval hx]
theorem addr_add (b o k : Nat) : (⟨b, o, none⟩ : Addr).add k = ⟨b, o + k, none⟩ := by
  unfold Addr.add; split
  · rename_i h; subst h; rfl
  · rfl
theorem jR {s T : TypeId} {x : Operand} {f b o sz : Nat} {fs : Array Field} (k : Nat) (hu : (underlying s).run P w = .ok (.struct fs) w) (hf : (fs[f]?).map (fun fd => (fd.type, fd.offset)) = some (T, k)) (hz : (sizeOf T).run P w = .ok (sz + 1) w) (hx : ev e x = some (ptr b o)) :
    Val P e w ⟨dst, .fieldAddr s x f, ty, pos, after, g⟩ (ptr b (o + k)) := fun n ds a he => by
  obtain ⟨fd, hfd, he2⟩ : ∃ fd, fs[f]? = some fd ∧ (fd.type, fd.offset) = (T, k) := by
    cases hh : fs[f]? with
    | none => simp [hh] at hf
    | some fd => exact ⟨fd, rfl, by simpa [hh] using hf⟩
  simp only [Prod.mk.injEq] at he2
  obtain ⟨h1, h2⟩ := he2
  subst h1; subst h2
  simp [execOp, he.eval hx, Instr.fieldAt, hu, hfd, Instr.sureAddr, fieldPlace, hz, addr_add]
def slv (r : Option (Nat × Nat)) (len cap : Nat) : Value := .slice (r.map fun p => ⟨p.1, p.2, none⟩) len cap
def bk (r : Option (Nat × Nat)) : Nat := (r.getD (0, 0)).1
def off (r : Option (Nat × Nat)) : Nat := (r.getD (0, 0)).2
theorem Zb {t E : TypeId} {x i : Operand} {r : Option (Nat × Nat)} {len cap sz : Nat} {k : IntKind} {m : Int} (j : Nat) (hu : (underlying t).run P w = .ok (.slice E) w) (hz : (sizeOf E).run P w = .ok sz w)
    (hx : ev e x = some (slv r len cap)) (hi : ev e i = some (.int k m)) (hm : m = (j : Int)) (hj : j < len) (hr : r ≠ none) :
    Val P e w ⟨dst, .indexAddr t x i, ty, pos, after, g⟩ (ptr (bk r) (off r + j * sz)) := fun n ds a he => by
  cases r with
  | none => exact absurd rfl hr
  | some p =>
    subst hm
    simp [execOp, he.eval hx, he.eval hi, Instr.indexAt, asIntOf, slv, hu, hz, hj, addr_add, bk, off]
theorem jaf {t E : TypeId} {x i : Operand} {len b o sz : Nat} {k : IntKind} {m : Int} (j : Nat) (hu : (underlying t).run P w = .ok (.array len E) w) (hz : (sizeOf E).run P w = .ok sz w)
    (hx : ev e x = some (ptr b o)) (hi : ev e i = some (.int k m)) (hm : m = (j : Int)) (hj : j < len) :
    Val P e w ⟨dst, .indexAddr t x i, ty, pos, after, g⟩ (ptr b (o + j * sz)) := fun n ds a he => by
  subst hm
  simp [execOp, he.eval hx, he.eval hi, Instr.indexAt, asIntOf, Instr.sureAddr, hu, hz, hj, addr_add]
theorem ZV {t E : TypeId} {x i : Operand} {len b o : Nat} {k : IntKind} {m : Int} (j : Nat) (hu : (underlying t).run P w = .ok (.array len E) w) (hz : (sizeOf E).run P w = .ok 1 w)
    (hx : ev e x = some (ptr b o)) (hi : ev e i = some (.int k m)) (hm : m = (j : Int)) (hj : j < len) :
    Val P e w ⟨dst, .indexAddr t x i, ty, pos, after, g⟩ (ptr b (o + j)) := by
  have := jaf (P := P) (w := w) (dst := dst) (ty := ty) (pos := pos) (after := after) (g := g) j hu hz hx hi hm hj
  rwa [Nat.mul_one] at this
theorem jaO {t E : TypeId} {x i : Operand} {len b o : Nat} {k : IntKind} {m : Int} (hu : (underlying t).run P w = .ok (.array len E) w) (hz : (sizeOf E).run P w = .ok 1 w)
    (hx : ev e x = some (ptr b o)) (hi : ev e i = some (.int k m)) (h0 : 0 ≤ m) (hj : m < len) :
    Val P e w ⟨dst, .indexAddr t x i, ty, pos, after, g⟩ (ptr b (o + m.toNat)) := ZV m.toNat hu hz hx hi (by omega) (by omega)
theorem jaa {t E : TypeId} {x : Operand} {a : Option Addr} {len cap : Nat} (hu : (underlying t).run P w = .ok (.slice E) w) (hx : ev e x = some (.slice a len cap)) :
    Val P e w ⟨dst, .call ⟨.builtin .len, #[x], #[t]⟩, ty, pos, after, g⟩ (.int .i64 len) := fun n ds a he => by
  simp [execOp, he.eval hx, resolve, invoke, builtin, Builtin.len_, hu, goInt]
theorem ja6 {t E : TypeId} {x : Operand} {r : Option (Nat × Nat)} {len cap : Nat} (hu : (underlying t).run P w = .ok (.slice E) w) (hx : ev e x = some (slv r len cap)) :
    Val P e w ⟨dst, .call ⟨.builtin .len, #[x], #[t]⟩, ty, pos, after, g⟩ (.int .i64 len) := jaa hu hx
theorem ja4 {ts : Array TypeId} {x y : Operand} {k : IntKind} {m m' : Int} (hx : ev e x = some (.int k m)) (hy : ev e y = some (.int k m')) :
    Val P e w ⟨dst, .call ⟨.builtin .min, #[x, y], ts⟩, ty, pos, after, g⟩ (.int k (min m m')) := fun n ds a he => by
  simp [execOp, he.eval hx, he.eval hy, resolve, invoke, builtin, Builtin.min_, Builtin.min2]
  split <;> omega
theorem ZK {ts : Array TypeId} {x y : Operand} {k : IntKind} {m m' : Int} (hx : ev e x = some (.int k m)) (hy : ev e y = some (.int k m')) :
    Val P e w ⟨dst, .call ⟨.builtin .max, #[x, y], ts⟩, ty, pos, after, g⟩ (.int k (max m m')) := fun n ds a he => by
  simp [execOp, he.eval hx, he.eval hy, resolve, invoke, builtin, Builtin.max_, Builtin.max2]
  split <;> omega
theorem jz {t : TypeId} {x : Operand} {b o : Nat} {v : Value} (hg' : (isAgg t).run P w = .ok false w) (hx : ev e x = some (ptr b o)) (hc : w.cell? ⟨b, o, none⟩ = some v) :
    Val P e w ⟨dst, .load t x, ty, pos, after, g⟩ v := fun n ds a he => by
  simp [execOp, he.eval hx, Instr.loadAt, Instr.sureAddr, loadVar, hg', hc]
theorem loadCellsFrom_ok : ∀ (vs : List Value) (b o i : Nat) (acc : Array Value), (∀ j (h : j < vs.length), w.cell? ⟨b, o + (i + j), none⟩ = some vs[j]) →
    (loadCellsFrom ⟨b, o, none⟩ i vs.length acc).run P w = .ok (acc ++ vs.toArray) w
  | [], _, _, _, acc, _ => by simp [loadCellsFrom]
  | v :: vs, b, o, i, acc, h => by
    have h0 := h 0 (by simp)
    simp only [Nat.add_zero, List.getElem_cons_zero] at h0
    have ih := loadCellsFrom_ok vs b o (i + 1) (acc.push v) (fun j hj => by
      have := h (j + 1) (by simp; omega)
      simp only [List.getElem_cons_succ] at this
      rw [show o + (i + 1 + j) = o + (i + (j + 1)) by omega]; exact this)
    simp [loadCellsFrom, addr_add, h0, ih]
theorem loadVar_agg {t : TypeId} {b o : Nat} {vs : List Value} (hg' : (isAgg t).run P w = .ok true w) (hz : (sizeOf t).run P w = .ok vs.length w)
    (hc : ∀ j (h : j < vs.length), w.cell? ⟨b, o + j, none⟩ = some vs[j]) : (loadVar t ⟨b, o, none⟩).run P w = .ok (.agg vs.toArray) w := by
  have := loadCellsFrom_ok (P := P) (w := w) vs b o 0 #[] (fun j hj => by simpa using hc j hj)
  simp [loadVar, hg', hz, loadCells, this]
theorem jP {t : TypeId} {x : Operand} {b o : Nat} {vs : List Value} (hg' : (isAgg t).run P w = .ok true w) (hz : (sizeOf t).run P w = .ok vs.length w) (hx : ev e x = some (ptr b o))
    (hc : ∀ j (h : j < vs.length), w.cell? ⟨b, o + j, none⟩ = some vs[j]) : Val P e w ⟨dst, .load t x, ty, pos, after, g⟩ (.agg vs.toArray) := fun n ds a he => by
  simp [execOp, he.eval hx, Instr.loadAt, Instr.sureAddr, loadVar_agg hg' hz hc]
end vals
end Go.Fw

namespace Go.Fw
open Go

structure Ext (M : List Nat) (w w' : World) : Prop where
  os : w'.os = w.os
  tape : w'.tape = w.tape
  output : w'.output = w.output
  size : w.heap.size ≤ w'.heap.size
  block : ∀ k, k < w.heap.size → k ∉ M → w'.heap[k]? = w.heap[k]?

theorem Ext.refl (M : List Nat) (w : World) : Ext M w w := ⟨rfl, rfl, rfl, Nat.le_refl _, fun _ _ _ => rfl⟩
theorem Ext.trans {M : List Nat} {a b c : World} (h : Ext M a b) (k : Ext M b c) : Ext M a c :=
  ⟨k.os.trans h.os, k.tape.trans h.tape, k.output.trans h.output, Nat.le_trans h.size k.size, fun i hi hm => (k.block i (Nat.lt_of_lt_of_le hi h.size) hm).trans (h.block i hi hm)⟩
theorem Ext.mono {M M' : List Nat} {a b : World} (h : Ext M a b) (hm : ∀ k, k ∈ M → k ∈ M') : Ext M' a b := ⟨h.os, h.tape, h.output, h.size, fun i hi hn => h.block i hi (fun hk => hn (hm i hk))⟩
theorem Ext.below {w w' : World} (h : Ext [] w w') : Go.RowKit.Below w.heap.size w w' := ⟨h.os, h.tape, h.output, h.size, fun k hk => h.block k hk (by simp)⟩
theorem Ext.of_new {M M' : List Nat} {a b : World} (h : Ext M a b) (hm : ∀ k, k ∈ M → k ∈ M' ∨ a.heap.size ≤ k) : Ext M' a b := ⟨h.os, h.tape, h.output, h.size, fun i hi hn => h.block i hi (fun hk => by
  rcases hm i hk with h1 | h1
  · exact hn h1
  · omega)⟩

abbrev Sg := Nat × Nat × List Value
def segOK (w : World) (s : Sg) : Prop := ∀ j (h : j < s.2.2.length), w.cell? ⟨s.1, s.2.1 + j, none⟩ = some s.2.2[j]

theorem cell_lt {w : World} {a : Addr} {v : Value} (h : w.cell? a = some v) : a.block < w.heap.size := by
  unfold World.cell? at h
  cases ho : w.heap[a.block]? with
  | none => simp [ho] at h
  | some o => exact (Array.getElem?_eq_some_iff.1 ho).1
theorem cell_of_block {w w' : World} {a : Addr} (h : w'.heap[a.block]? = w.heap[a.block]?) : w'.cell? a = w.cell? a := by simp [World.cell?, h]
theorem segOK.lt {w : World} {s : Sg} (h : segOK w s) (hn : s.2.2 ≠ []) : s.1 < w.heap.size := by
  have hl : 0 < s.2.2.length := List.length_pos_iff.2 hn
  exact cell_lt (h 0 hl)
theorem segOK.ext {M : List Nat} {w w' : World} {s : Sg} (h : segOK w s) (hx : Ext M w w') (hm : s.2.2 ≠ [] → s.1 ∉ M) : segOK w' s := fun j hj => by
  have hn : s.2.2 ≠ [] := by intro e; rw [e] at hj; simp at hj
  rw [cell_of_block (hx.block s.1 (h.lt hn) (hm hn))]; exact h j hj
theorem segOK.nil {w : World} {b o : Nat} : segOK w (b, o, []) := fun j hj => by simp at hj
theorem segOK.at {w : World} {b o : Nat} {vs : List Value} (h : segOK w (b, o, vs)) {j : Nat} {v : Value} (hv : vs[j]? = some v) : w.cell? ⟨b, o + j, none⟩ = some v := by
  obtain ⟨hj, rfl⟩ := List.getElem?_eq_some_iff.1 hv; exact h j hj
theorem segOK.sub {w : World} {b o : Nat} {vs us : List Value} (h : segOK w (b, o, vs)) (k : Nat) (hs : ∀ j (hj : j < us.length), vs[k + j]? = some us[j]) : segOK w (b, o + k, us) := fun j hj => by
  have := h.at (hs j hj)
  simp only at this ⊢
  rw [← this, Nat.add_assoc]
theorem segOK.of_block {w : World} {b : Nat} {cs : Array Value} {T : TypeId} {fr : Nat × Nat} (h : w.heap[b]? = some (.cells cs T fr)) : segOK w (b, 0, cs.toList) := fun j hj => by
  simp at hj
  simp [World.cell?, h, hj]

structure HS (w0 : World) (M : List Nat) (own : List (Nat × Obj)) (ro : List Sg) (w : World) : Prop where
  os : w.os = w0.os
  tape : w.tape = w0.tape
  output : w.output = w0.output
  size : w0.heap.size ≤ w.heap.size
  old : ∀ k, k < w0.heap.size → k ∉ M → w.heap[k]? = w0.heap[k]?
  ownOK : ∀ p, p ∈ own → w.heap[p.1]? = some p.2
  new : ∀ p, p ∈ own → w0.heap.size ≤ p.1 ∨ p.1 ∈ M
  nodup : (own.map (·.1)).Nodup
  roOK : ∀ s, s ∈ ro → segOK w s
  sep : ∀ s, s ∈ ro → s.2.2 ≠ [] → s.1 ∉ own.map (·.1)

section hs
variable {w0 w w' : World} {M : List Nat} {own : List (Nat × Obj)} {ro : List Sg}

theorem HS.start (w : World) (M : List Nat) (ro : List Sg) (h : ∀ s, s ∈ ro → segOK w s) : HS w M [] ro w :=
  ⟨rfl, rfl, rfl, Nat.le_refl _, fun _ _ _ => rfl, by simp, by simp, by simp, h, by simp⟩
theorem HS.toExt (h : HS w0 M own ro w) : Ext M w0 w := ⟨h.os, h.tape, h.output, h.size, h.old⟩
theorem HS.lt (h : HS w0 M own ro w) {p : Nat × Obj} (hp : p ∈ own) : p.1 < w.heap.size := (Array.getElem?_eq_some_iff.1 (h.ownOK p hp)).1
theorem HS.get (h : HS w0 M own ro w) (i : Nat) {b : Nat} {o : Obj} (hi : own[i]? = some (b, o)) : w.heap[b]? = some o := h.ownOK (b, o) (List.mem_of_getElem? hi)
theorem HS.seg (h : HS w0 M own ro w) (i : Nat) {s : Sg} (hi : ro[i]? = some s) : segOK w s := h.roOK s (List.mem_of_getElem? hi)
theorem HS.ext (h : HS w0 M own ro w) (hx : Ext [] w w') : HS w0 M own ro w' :=
  ⟨hx.os.trans h.os, hx.tape.trans h.tape, hx.output.trans h.output, Nat.le_trans h.size hx.size,
   fun k hk hm => (hx.block k (Nat.lt_of_lt_of_le hk h.size) (by simp)).trans (h.old k hk hm),
   fun p hp => (hx.block p.1 (h.lt hp) (by simp)).trans (h.ownOK p hp), h.new, h.nodup, fun s hs => (h.roOK s hs).ext hx (by simp), h.sep⟩
theorem HS.draw (h : HS w0 M own ro w) (k : Nat) : HS w0 M own ro { w with drawn := k } := h.ext ⟨rfl, rfl, rfl, Nat.le_refl _, fun _ _ _ => rfl⟩
theorem HS.drop (h : HS w0 M own ro w) {own' : List (Nat × Obj)} (hs : own'.Sublist own) : HS w0 M own' ro w :=
  ⟨h.os, h.tape, h.output, h.size, h.old, fun p hp => h.ownOK p (hs.subset hp), fun p hp => h.new p (hs.subset hp), (hs.map _).nodup h.nodup, h.roOK,
   fun s hs' hn hm => h.sep s hs' hn ((hs.map _).subset hm)⟩
theorem HS.dropRo (h : HS w0 M own ro w) {ro' : List Sg} (hs : ∀ s, s ∈ ro' → s ∈ ro) : HS w0 M own ro' w :=
  ⟨h.os, h.tape, h.output, h.size, h.old, h.ownOK, h.new, h.nodup, fun s hs' => h.roOK s (hs s hs'), fun s hs' => h.sep s (hs s hs')⟩
theorem Ext.alloc (w : World) (o : Obj) : Ext [] w (w.alloc o) := ⟨rfl, rfl, rfl, by simp, fun k hk _ => heap_alloc_old w o k hk⟩
theorem HS.push (h : HS w0 M own ro w) (hx : Ext [] w w') {b : Nat} {o : Obj} (hb : w.heap.size ≤ b) (ho : w'.heap[b]? = some o) : HS w0 M ((b, o) :: own) ro w' := by
  have h' := h.ext hx
  refine ⟨h'.os, h'.tape, h'.output, h'.size, h'.old, ?_, ?_, ?_, h'.roOK, ?_⟩
  · intro p hp
    rcases List.mem_cons.1 hp with rfl | hp
    · exact ho
    · exact h'.ownOK p hp
  · intro p hp
    rcases List.mem_cons.1 hp with rfl | hp
    · exact .inl (Nat.le_trans h.size hb)
    · exact h'.new p hp
  · rw [List.map_cons, List.nodup_cons]
    refine ⟨fun hm => ?_, h.nodup⟩
    obtain ⟨p, hp, he⟩ := List.mem_map.1 hm
    have := h.lt hp
    simp only at he
    omega
  · intro s hs hn hm
    rw [List.map_cons] at hm
    rcases List.mem_cons.1 hm with he | hm
    · have := (h.roOK s hs).lt hn
      simp only at he
      omega
    · exact h.sep s hs hn hm
theorem HS.alloc (h : HS w0 M own ro w) (o : Obj) : HS w0 M ((w.heap.size, o) :: own) ro (w.alloc o) := h.push (Ext.alloc w o) (Nat.le_refl _) (heap_alloc_new w o)
theorem nodup_key {l : List (Nat × Obj)} (h : (l.map (·.1)).Nodup) {i j : Nat} {p q : Nat × Obj} (hi : l[i]? = some p) (hj : l[j]? = some q) (hk : p.1 = q.1) : i = j := by
  have h1 : (l.map (·.1))[i]? = some p.1 := by simp [hi]
  have h2 : (l.map (·.1))[j]? = some q.1 := by simp [hj]
  obtain ⟨hi', e1⟩ := List.getElem?_eq_some_iff.1 h1
  obtain ⟨hj', e2⟩ := List.getElem?_eq_some_iff.1 h2
  exact (List.getElem_inj (h₀ := hi') (h₁ := hj') h).1 (by rw [e1, e2, hk])
theorem HS.upd (h : HS w0 M own ro w) (i : Nat) {b : Nat} {o o' : Obj} (hi : own[i]? = some (b, o)) (hx : Ext [b] w w') (ho : w'.heap[b]? = some o') : HS w0 M (own.set i (b, o')) ro w' := by
  have hmem := List.mem_of_getElem? hi
  have hkeys : (own.set i (b, o')).map (·.1) = own.map (·.1) := by
    rw [List.map_set]
    apply List.ext_getElem?
    intro j
    rw [List.getElem?_set]
    split
    · rename_i hij
      subst hij
      obtain ⟨hlt, hh⟩ := List.getElem?_eq_some_iff.1 hi
      simp [hlt, hh]
    · rfl
  refine ⟨hx.os.trans h.os, hx.tape.trans h.tape, hx.output.trans h.output, Nat.le_trans h.size hx.size, ?_, ?_, ?_, ?_, ?_, ?_⟩
  · intro k hk hm
    refine (hx.block k (Nat.lt_of_lt_of_le hk h.size) ?_).trans (h.old k hk hm)
    intro hkb
    simp only [List.mem_singleton] at hkb
    subst hkb
    rcases h.new _ hmem with h1 | h1
    · simp only at h1; omega
    · exact hm h1
  · intro p hp
    obtain ⟨j, hj⟩ := List.getElem?_of_mem hp
    rw [List.getElem?_set] at hj
    split at hj
    · split at hj
      · simp only [Option.some.injEq] at hj; subst hj; exact ho
      · simp at hj
    · rename_i hne
      have hpm := List.mem_of_getElem? hj
      refine (hx.block p.1 (h.lt hpm) ?_).trans (h.ownOK p hpm)
      intro he
      simp only [List.mem_singleton] at he
      exact hne (nodup_key h.nodup hi hj he.symm)
  · intro p hp
    obtain ⟨j, hj⟩ := List.getElem?_of_mem hp
    rw [List.getElem?_set] at hj
    split at hj
    · split at hj
      · simp only [Option.some.injEq] at hj; subst hj; exact h.new (b, o) hmem
      · simp at hj
    · exact h.new p (List.mem_of_getElem? hj)
  · rw [hkeys]; exact h.nodup
  · intro s hs
    refine (h.roOK s hs).ext hx (fun hn hm => ?_)
    simp only [List.mem_singleton] at hm
    exact h.sep s hs hn (hm ▸ List.mem_map_of_mem hmem)
  · rw [hkeys]; exact h.sep
theorem HS.upd' (h : HS w0 M own ro w) (i : Nat) {b : Nat} {o o' : Obj} {own' : List (Nat × Obj)} (hi : own[i]? = some (b, o)) (hx : Ext [b] w w') (ho : w'.heap[b]? = some o') (he : own.set i (b, o') = own') : HS w0 M own' ro w' := he ▸ h.upd i hi hx ho
theorem Ext.setRow {w : World} {g : Nat} {cs : Array Value} : Ext [g] w (w.setRow g cs) := ⟨rfl, rfl, rfl, by simp, fun k _ hk => setRow_other w g k _ (by simpa using hk)⟩
end hs

section rules
variable {n : Nat} {ds : List Deferred} {e : EnvL} {H : World → Prop} {P : Program} {r : Option Nat} {Q : Exit → Act → World → Prop} {ops : Array Oper} {w0 : World} {M : List Nat} {own : List (Nat × Obj)} {ro : List Sg}

theorem semAt_skip {l : Option Nat} {ρ : Operand → Value} {o : Oper} {w w' : World} (hd : ∀ c, o.op ≠ .defer c) (h : (execOp ρ o).run P w = .ok .skip w') : (o.semAt l ρ).run P w = .ok .skip w' := by
  rw [Oper.semAt_eq l ρ o hd]; exact h
theorem wpListIn_skipped {o : Oper} {rest : List Oper} {a : Act} {w w' : World} (hd : ∀ c, o.op ≠ .defer c) (hg : Region.wanted o (yielded ops a.tmps) = true) (h : (execOp a.eval o).run P w = .ok .skip w')
    (hk : wpListIn (fw r) 0 P ops Q rest (a.put o.dst undef) w') : wpListIn (fw r) 0 P ops Q (o :: rest) a w := by
  unfold wpListIn
  rw [if_pos hg]
  refine ⟨fun _ _ => trivial, ?_⟩
  rw [semAt_skip hd h]
  exact hk

theorem jae {o : Oper} {rest : List Oper} {d : Nat} (ob : Obj) (V : Nat → Value) (hd : o.dst = some d) (hg : o.guard = none) (hn : Nat.blt d n = true)
    (hv : ∀ a w, Env n ds e a → HS w0 M own ro w → (execOp a.eval o).run P w = .ok (.value (V w.heap.size)) (w.alloc ob))
    (h : ∀ b, w0.heap.size ≤ b → G n ds ((d, V b) :: e) (HS w0 M ((b, ob) :: own) ro) (wpListIn (fw r) 0 P ops Q rest)) : G n ds e (HS w0 M own ro) (wpListIn (fw r) 0 P ops Q (o :: rest)) := fun a w he hh =>
  wpListIn_value (wanted_none hg _) (hv a w he hh) (by rw [hd]; exact h _ hh.size _ _ (he.put hn _) (hh.alloc ob))

theorem jaT {rest : List Oper} {d : Nat} {T : TypeId} {z : Value} {ty : TypeId} {pos : String} {after : Array Edge} (hz : ∀ w, (zeroValue T).run P w = .ok z w) (hn : Nat.blt d n = true)
    (h : ∀ b, w0.heap.size ≤ b → G n ds ((d, ptr b 0) :: e) (HS w0 M ((b, .cells z.cells T (0, 0)) :: own) ro) (wpListIn (fw r) 0 P ops Q rest)) :
    G n ds e (HS w0 M own ro) (wpListIn (fw r) 0 P ops Q (⟨some d, .alloc T, ty, pos, after, none⟩ :: rest)) :=
  jae (.cells z.cells T (0, 0)) (fun b => ptr b 0) rfl rfl hn (fun a w _ _ => by simp [execOp, Instr.alloc, hz, newVar, newRow]) h
theorem jbg {rest : List Oper} {d : Nat} {T : TypeId} {x : Operand} {v : Value} {ty : TypeId} {pos : String} {after : Array Edge} (hx : ev e x = some v) (hn : Nat.blt d n = true)
    (h : ∀ b, w0.heap.size ≤ b → G n ds ((d, ptr b 0) :: e) (HS w0 M ((b, .cells v.cells T (0, 0)) :: own) ro) (wpListIn (fw r) 0 P ops Q rest)) :
    G n ds e (HS w0 M own ro) (wpListIn (fw r) 0 P ops Q (⟨some d, .box T x, ty, pos, after, none⟩ :: rest)) :=
  jae (.cells v.cells T (0, 0)) (fun b => ptr b 0) rfl rfl hn (fun a w he _ => by simp [execOp, Instr.box, he.eval hx, newVar, newRow]) h

theorem run_store_cell {w : World} {b o : Nat} {cs : Array Value} {T : TypeId} {v : Value} (hb : w.heap[b]? = some (.cells cs T (0, 0))) (ho : o < cs.size) (h1 : v.oneCell' = true) :
    (store ⟨b, o, none⟩ v).run P w = .ok () (w.setRow b (cs.setIfInBounds o v)) := by
  have hcell : w.cell? ⟨b, o, none⟩ = some cs[o] := by simp [World.cell?, hb, ho]
  have hfro : w.frozen? ⟨b, o, none⟩ = false := by simp [World.frozen?, hb]
  rw [run_store P w _ v _ h1, hcell]
  simp [hfro, setCell_eq_setRow w b o cs T (0, 0) v hb]
theorem oneCell_cells {v : Value} (h : v.oneCell' = true) : v.cells = #[v] := by cases v <;> simp_all [Value.oneCell', Value.cells]
theorem run_storeVar_cell {w : World} {t : TypeId} {b o : Nat} {cs : Array Value} {T : TypeId} {v : Value} (hz : (sizeOf t).run P w = .ok 1 w) (hb : w.heap[b]? = some (.cells cs T (0, 0))) (ho : o < cs.size) (h1 : v.oneCell' = true) :
    (storeVar t ⟨b, o, none⟩ v).run P w = .ok () (w.setRow b (cs.setIfInBounds o v)) := by
  have hs := run_store_cell (P := P) hb ho h1
  simp [storeVar, hz, oneCell_cells h1, storeCells, addr_add, hs]
theorem jah {rest : List Oper} {t : TypeId} {x y : Operand} {b o : Nat} {cs cs' : Array Value} {T : TypeId} {v : Value} {own' : List (Nat × Obj)} {ty : TypeId} {pos : String} {after : Array Edge} (i : Nat)
    (hz : ∀ w, (sizeOf t).run P w = .ok 1 w) (hx : ev e x = some (ptr b o)) (hy : ev e y = some v) (h1 : v.oneCell' = true) (hi : own[i]? = some (b, .cells cs T (0, 0))) (ho : Nat.blt o cs.size = true) (hcs : cs.setIfInBounds o v = cs') (hown : own.set i (b, .cells cs' T (0, 0)) = own')
    (h : G n ds e (HS w0 M own' ro) (wpListIn (fw r) 0 P ops Q rest)) :
    G n ds e (HS w0 M own ro) (wpListIn (fw r) 0 P ops Q (⟨none, .store t x y, ty, pos, after, none⟩ :: rest)) := fun a w he hh => by
  have hb := hh.get i hi
  have hs := run_storeVar_cell (P := P) (hz w) hb (by simpa using ho) h1
  refine wpListIn_skipped (w' := w.setRow b (cs.setIfInBounds o v)) (by simp) (wanted_none rfl _) (by simp [execOp, he.eval hx, he.eval hy, Instr.storeAt, Instr.sureAddr, hs]) ?_
  exact h a _ he (hh.upd' i hi Ext.setRow (by rw [hcs]; exact setRow_heap w b cs _ T (0, 0) hb) hown)
def ones : List Value → Bool
  | [] => true
  | v :: r => v.oneCell' && ones r
theorem ones_all {vs : List Value} (h : ones vs = true) : ∀ v ∈ vs, v.oneCell' = true := by
  induction vs with
  | nil => simp
  | cons u r ih =>
    simp only [ones, Bool.and_eq_true] at h
    intro v hv
    rcases List.mem_cons.1 hv with rfl | hv
    · exact h.1
    · exact ih h.2 v hv
def evs (e : EnvL) : List Operand → Option (List Value)
  | [] => some []
  | x :: r => match ev e x, evs e r with
    | some v, some vs => some (v :: vs)
    | _, _ => none
theorem Env.evals {a : Act} (he : Env n ds e a) : ∀ {xs : List Operand} {vs : List Value}, evs e xs = some vs → xs.map a.eval = vs
  | [], vs, h => by simp [evs] at h; simp [h]
  | x :: xs, vs, h => by
    simp only [evs] at h
    cases hx : ev e x with
    | none => simp [hx] at h
    | some v =>
      cases hr : evs e xs with
      | none => simp [hx, hr] at h
      | some r' => simp [hx, hr] at h; subst h; simp [he.eval hx, he.evals hr]
theorem Z3 {ι : Type} {o : Oper} {rest : List Oper} {d : Nat} {H' : ι → World → Prop} {ret : ι → Value} {f : FuncId} {x : Operand} {xs : List Operand} {ts : Array TypeId} {fst cap : Array Value} {vs args : List Value}
    (ho : o.op = .call ⟨.value x, xs.toArray, ts⟩) (hd : o.dst = some d) (hg : o.guard = none) (hn : Nat.blt d n = true)
    (hx : ev e x = some (.func (.func f) fst cap)) (hxs : evs e xs = some vs) (ha : fst.toList ++ vs ++ cap.toList = args)
    (hf : ∀ args w, (callFunc f args).run P w = .ok (.enter f args) w)
    (hc : ∀ w, H w → Calls P f args.toArray w (fun en w' => ∃ i, en = .returned (ret i) ∧ H' i w'))
    (h : ∀ i, G n ds ((d, ret i) :: e) (H' i) (wpListIn (fw r) 0 P ops Q rest)) : G n ds e H (wpListIn (fw r) 0 P ops Q (o :: rest)) := fun a w he hh => by
  obtain ⟨dst, op, ty, pos, after, guard⟩ := o
  simp only at ho hd hg
  subst ho hd hg
  have h1 := he.eval hx
  have h2 := he.evals hxs
  unfold wpListIn
  rw [if_pos (wanted_none rfl _)]
  refine ⟨fun _ _ => trivial, ?_⟩
  have hsem : (Oper.semAt (fw r).round a.eval ⟨some d, .call ⟨.value x, xs.toArray, ts⟩, ty, pos, after, none⟩).run P w = .ok (.enter f args.toArray) w := by
    rw [Oper.semAt_eq _ _ _ (by simp)]
    simp [execOp, resolve, Deferred.ofValue, h1, h2, invoke, hf, ← ha]
  rw [hsem]
  refine ⟨fun hh => by simp [fw] at hh, callsIn_fw.2 ((hc w hh).mono ?_)⟩
  rintro en w' ⟨i, rfl, hi⟩
  exact h i _ _ (he.put hn _) hi
def argEnv : Nat → List Value → EnvL
  | _, [] => []
  | k, v :: r => (k, v) :: argEnv (k + 1) r
theorem lk_argEnv : ∀ (vs : List Value) (k t : Nat) (v : Value), lk (argEnv k vs) t = some v → k ≤ t ∧ vs[t - k]? = some v
  | [], _, _, _, h => by simp [argEnv, lk] at h
  | u :: r, k, t, v, h => by
    simp only [argEnv, lk] at h
    by_cases hkt : k = t
    · subst hkt
      simp at h
      simp [h]
    · have hb : Nat.beq k t = false := by
        cases hbb : Nat.beq k t with
        | false => rfl
        | true => exact absurd (Nat.eq_of_beq_eq_true hbb) hkt
      simp only [hb, cond_false] at h
      obtain ⟨h1, h2⟩ := lk_argEnv r (k + 1) t v h
      refine ⟨by omega, ?_⟩
      rw [show t - k = (t - (k + 1)) + 1 by omega]
      simpa using h2
theorem YN {f : FuncId} {fn : Func} {c : Code} {args : List Value} {w : World} {R : Ending → World → Prop} {e : EnvL}
    (hf : P.funcs[f]? = some fn) (hb : fn.body = some c) (hn : fn.ntmps = n) (hl : Nat.ble args.length n = true) (he : argEnv 0 args = e) (hh : H w)
    (h : G n [] e H (c.wpIn (fw none) 0 P (bodyPost P fn R))) : Calls P f args.toArray w R := by
  refine callsIn_fw (r := none) (n := 0).1 (callsIn_of_wp hf hb trivial ?_ rfl)
  subst he
  refine h _ w ⟨by simp at hl; simp [hn]; omega, rfl, fun t v ht => ?_⟩ hh
  obtain ⟨_, h2⟩ := lk_argEnv args 0 t v ht
  simp only [Nat.sub_zero] at h2
  have : t < args.length := (List.getElem?_eq_some_iff.1 h2).1
  rw [Array.getElem?_append_left (by simpa using this)]
  simpa using h2

inductive ResOK (P : Program) (e : EnvL) (w : World) : List ResultVar → List Value → Prop
  | nil : ResOK P e w [] []
  | tmp {t : Nat} {v : Value} {rs : List ResultVar} {vs : List Value} (h : lk e t = some v) (hr : ResOK P e w rs vs) : ResOK P e w (.tmp t :: rs) (v :: vs)
  | cell {t b o : Nat} {T : TypeId} {v : Value} {rs : List ResultVar} {vs : List Value} (h : lk e t = some (ptr b o)) (hv : (loadVar T ⟨b, o, none⟩).run P w = .ok v w) (hr : ResOK P e w rs vs) : ResOK P e w (.cell t T :: rs) (v :: vs)
def retv : List Value → Value
  | [v] => v
  | vs => .tuple vs.toArray
def resv (a : Act) : ResultVar → Sem Value
  | .tmp t => pure (a.tmps.getD t undef)
  | .cell b t => do loadVar t (← asAddr (a.tmps.getD b undef))
theorem resv_ok {a : Act} {w : World} (he : Env n ds e a) {rs : List ResultVar} {vs : List Value} (h : ResOK P e w rs vs) : (rs.mapM (resv a)).run P w = .ok vs w := by
  induction h with
  | nil => simp
  | tmp h hr ih =>
    have h1 := he.get _ _ h
    rw [List.mapM_cons]
    simp only [resv, Sem.run_bind, Sem.run_pure, Result.andThen_ok, ih, Array.getD_eq_getD_getElem?, h1, Option.getD_some]
  | cell h hv hr ih =>
    have h1 := he.get _ _ h
    rw [List.mapM_cons]
    simp only [resv, Sem.run_bind, Sem.run_pure, Result.andThen_ok, ih, Array.getD_eq_getD_getElem?, h1, Option.getD_some, asAddr, hv]
theorem results_ok {fn : Func} {rs : List ResultVar} {vs : List Value} {a : Act} {w : World} (hr : fn.results = rs.toArray) (he : Env n ds e a) (h : ResOK P e w rs vs) : (results fn a.tmps).run P w = .ok (retv vs) w := by
  have hk := resv_ok he h
  have hf : results fn a.tmps = (fn.results.mapM (resv a)) >>= fun vs => pure (if h : vs.size = 1 then vs[0] else .tuple vs) := by
    unfold results
    congr 1
  rw [hf, hr, Sem.run_bind, List.mapM_toArray]
  simp only [Sem.run_map, hk, Result.andThen_ok, Sem.run_pure]
  match vs with
  | [] => rfl
  | [v] => rfl
  | _ :: _ :: _ => simp [retv]
theorem jbc {fn : Func} {rs : List ResultVar} {R : Ending → World → Prop} (vs : World → List Value) (hr : fn.results = rs.toArray) (hv : ∀ w, H w → ResOK P e w rs (vs w)) (hR : ∀ w, H w → R (.returned (retv (vs w))) w) :
    G n [] e H (bodyPost P fn R .ret) := fun _ w he hh => ⟨he.defs, _, results_ok hr he (hv w hh), hR w hh⟩
theorem ja8 {fn : Func} {rs : List ResultVar} {R : Ending → World → Prop} (vs : World → List Value) (hr : fn.results = rs.toArray) (hv : ∀ w, H w → ResOK P e w rs (vs w)) (hR : ∀ w, H w → R (.returned (retv (vs w))) w) :
    G n [] e H (bodyPost P fn R .normal) := fun _ w he hh => ⟨he.defs, _, results_ok hr he (hv w hh), hR w hh⟩
theorem jm {fn : Func} {rs : List ResultVar} {R : Ending → World → Prop} {vs : List Value} (hr : fn.results = rs.toArray) (hv : ∀ w, H w → ResOK P e w rs vs) (hR : ∀ w, H w → R (.returned (retv vs)) w) :
    G n [] e H (bodyPost P fn R .ret) := jbc (fun _ => vs) hr hv hR
theorem jaQ {fn : Func} {rs : List ResultVar} {R : Ending → World → Prop} {vs : List Value} (hr : fn.results = rs.toArray) (hv : ∀ w, H w → ResOK P e w rs vs) (hR : ∀ w, H w → R (.returned (retv vs)) w) :
    G n [] e H (bodyPost P fn R .normal) := ja8 (fun _ => vs) hr hv hR
end rules
end Go.Fw
namespace Go.Fw
open Go
section guards
variable {n : Nat} {ds : List Deferred} {e : EnvL} {H : World → Prop} {P : Program} {r : Option Nat} {Q : Exit → Act → World → Prop} {ops : Array Oper}
theorem wanted_some {o : Oper} {a : Act} {j t : Nat} {want b : Bool} (he : Env n ds e a) (hg : o.guard = some (j, want)) (hj : (ops[j]?).bind (·.dst) = some t) (ht : lk e t = some (.bool b)) :
    Region.wanted o (yielded ops a.tmps) = (b == want) := by
  have h1 := he.get _ _ ht
  simp only [Region.wanted, hg, yielded, hj, Option.bind_some, h1]
  cases b <;> cases want <;> rfl
theorem ZE {o : Oper} {rest : List Oper} {d j t : Nat} {want b : Bool} (hd : o.dst = some d) (hg : o.guard = some (j, want)) (hj : (ops[j]?).bind (·.dst) = some t) (ht : lk e t = some (.bool b)) (hb : (b == want) = false) (hn : Nat.blt d n = true)
    (h : G n ds ((d, undef) :: e) H (wpListIn (fw r) 0 P ops Q rest)) : G n ds e H (wpListIn (fw r) 0 P ops Q (o :: rest)) := fun a w he hh => by
  unfold wpListIn
  rw [if_neg (by rw [wanted_some he hg hj ht, hb]; simp)]
  refine ⟨fun _ _ => trivial, ?_⟩
  rw [hd]
  exact h _ w (he.put hn undef) hh
theorem j4 {X : Act → World → Prop} (t : Nat) {b : Bool} (hb : lk e t = some (.bool b)) (h1 : b = true → G n ds ((t, .bool true) :: e) H X) (h0 : b = false → G n ds ((t, .bool false) :: e) H X) : G n ds e H X := by
  have key : ∀ c, b = c → ∀ a, Env n ds e a → Env n ds ((t, .bool c) :: e) a := fun c hc a he => ⟨he.size, he.defs, fun s v hs => by
    by_cases hts : t = s
    · subst hts
      simp only [lk, Nat.beq_refl, cond_true, Option.some.injEq] at hs
      subst hs; subst hc
      exact he.get _ _ hb
    · have hbb : Nat.beq t s = false := by
        cases hbb : Nat.beq t s with
        | false => rfl
        | true => exact absurd (Nat.eq_of_beq_eq_true hbb) hts
      simp only [lk, hbb, cond_false] at hs
      exact he.get _ _ hs⟩
  intro a w he hh
  cases b with
  | true => exact h1 rfl a w (key true rfl a he) hh
  | false => exact h0 rfl a w (key false rfl a he) hh
end guards
end Go.Fw
namespace Go.Fw
theorem of_ndec_true {p : Prop} [Decidable p] (h : (!decide p) = true) : ¬p := by simpa using h
theorem of_ndec_false {p : Prop} [Decidable p] (h : (!decide p) = false) : p := by simpa using h
end Go.Fw

namespace Go.Fw
open Go

def qn (X : Act → World → Prop) : Exit → Act → World → Prop
  | .normal => X
  | .exit _ => fun _ _ => False
  | .goto _ => fun _ _ => False
  | .ret => fun _ _ => False
  | .panic _ => fun _ _ => False
  | .outgrown => fun _ _ => False
theorem not_letsOut {X : Act → World → Prop} : ¬ LetsOut (qn X) := fun ⟨_, _, h⟩ => h

def noDefer (ops : Array Oper) : Bool := ops.all fun o => match o.op with | .defer _ => false | _ => true
theorem noDefer_spec {ops : Array Oper} (h : noDefer ops = true) (j : Nat) (o : Oper) (c : Call) (ho : ops[j]? = some o) : o.op ≠ .defer c := by
  intro heq
  have := Array.all_eq_true_iff_forall_mem.1 h o (Array.mem_of_getElem? ho)
  simp [heq] at this

section
variable {r : Option Nat} {P : Program} {ops : Array Oper} {C : World → Prop} {fin : Option Nat} {X Y : Act → World → Prop}

def needC (fin : Option Nat) (listed : Array Bool) : Bool := match fin with
  | none => true
  | some f => !listed.getD f true

def anyC (r : Option Nat) (P : Program) (ops : Array Oper) (C : World → Prop) (fin : Option Nat) (X : Act → World → Prop) : Nat → Array Bool → Act → World → Prop
  | 0, listed, a, w => (needC fin listed = true → C w) ∧ Region.ready .any ops listed = [] ∧ X a w
  | k + 1, listed, a, w => (needC fin listed = true → C w) ∧ (Region.ready .any ops listed = [] → X a w) ∧
    ∀ i ∈ Region.ready .any ops listed, wpOpIn (fw r) 0 P ops (qn X) i (anyC r P ops C fin X k (listed.setIfInBounds i true)) a w

theorem anyC_sound : ∀ (k : Nat) (listed : Array Bool) (a : Act) (w : World), anyC r P ops C fin X k listed a w → wpAnyIn (fw r) 0 P .any ops (qn X) k listed a w
  | 0, _, _, _, h => ⟨h.2.1, h.2.2⟩
  | k + 1, _, _, _, h => ⟨h.2.1, fun i hi => wpOpIn_mono (fun a w hh => anyC_sound k _ a w hh) (h.2.2 i hi)⟩

def YC (P : Program) (ops : Array Oper) (C : World → Prop) (o : Oper) (v : Value) (a : Act) : Prop :=
  (Region.wanted o (yielded ops a.tmps) = true ∧ ∀ w, C w → (execOp a.eval o).run P w = .ok (.value v) w) ∨ (Region.wanted o (yielded ops a.tmps) = false ∧ v = undef)

theorem YC.wpOpIn {i : Nat} {o : Oper} {v : Value} {a : Act} {Q : Exit → Act → World → Prop} (hi : ops[i]? = some o) (hy : YC P ops C o v a) {K : Act → World → Prop} {w : World} (hC : C w) (h : K (a.put o.dst v) w) : wpOpIn (fw r) 0 P ops Q i K a w := by
  unfold Go.wpOpIn
  simp only [hi]
  rcases hy with ⟨hw, hv⟩ | ⟨hw, rfl⟩
  · simp only [hw, if_true, Oper.wpIn]
    refine ⟨fun _ _ => trivial, ?_⟩
    rw [semAt_value (hv w hC)]
    exact h
  · simp only [hw, Bool.false_eq_true, if_false]
    exact ⟨fun _ _ => trivial, h⟩

theorem YC.of_same {o : Oper} {v : Value} {a a' : Act} (hy : YC P ops C o v a) (he : execOp a'.eval o = execOp a.eval o) (hw : Region.wanted o (yielded ops a'.tmps) = Region.wanted o (yielded ops a.tmps)) : YC P ops C o v a' := by
  unfold YC at *
  rw [he, hw]
  exact hy

theorem wpOpIn_putC {j : Nat} {oi oj : Oper} {v : Value} (hnd : noDefer ops = true) (hj : ops[j]? = some oj) (hap : oi.apart ops oj = true)
    (hsi : ∀ cs b, oi.op ≠ .select cs b) (hsj : ∀ cs b, oj.op ≠ .select cs b) {K : Act → World → Prop} {a : Act} {w : World}
    (hy : YC P ops C oi v a) (h : wpOpIn (fw r) 0 P ops (qn X) j K (a.put oi.dst v) w) :
    wpOpIn (fw r) 0 P ops (qn X) j (fun a' w' => YC P ops C oi v a' ∧ K (a'.put oi.dst v) w') a w := by
  obtain ⟨h1, h2, h3⟩ := Oper.apart_spec hap
  have keep : ∀ (a : Act), YC P ops C oi v a → ∀ u, YC P ops C oi v (a.put oj.dst u) := fun a hy u =>
    hy.of_same (execOp_put oi hsi a oj.dst u h3) (wanted_put oi a oj.dst u h3)
  have keepD : ∀ d, YC P ops C oi v { a with defers := d :: a.defers } := fun d => hy.of_same rfl rfl
  unfold wpOpIn at *
  simp only [hj] at h ⊢
  rw [wanted_put oj a oi.dst v h1] at h
  split
  · rename_i hw
    simp only [hw, if_true] at h
    unfold Oper.wpIn at *
    refine ⟨fun _ _ => trivial, ?_⟩
    have h := h.2
    rw [Oper.semAt_eq _ _ _ (fun c => noDefer_spec hnd j oj c hj), execOp_put oj hsj a oi.dst v h1] at h
    rw [Oper.semAt_eq _ _ _ (fun c => noDefer_spec hnd j oj c hj)]
    generalize (execOp a.eval oj).run P w = rr at *
    cases rr with
    | ok x w' =>
      cases x <;> simp only [Oper.uponIn] at h ⊢
      case value u => exact ⟨keep a hy u, by rw [← Act.put_comm a v u h2]; exact h⟩
      case skip => exact ⟨keep a hy _, by rw [← Act.put_comm a v undef h2]; exact h⟩
      case defer d =>
        refine ⟨keep _ (keepD d) _, ?_⟩
        rw [← Act.put_comm _ v undef h2, ← Act.put_defers]
        exact h
      case enter f args =>
        refine ⟨h.1, CallsIn.mono h.2 fun e w'' he => ?_⟩
        cases e with
        | returned u => exact ⟨keep a hy u, by rw [← Act.put_comm a v u h2]; exact he⟩
        | panicked c => exact he
        | outgrown => exact he
      case row row args => exact ⟨h.1, RowsIn.mono h.2 fun u w'' he => ⟨keep a hy u, by rw [← Act.put_comm a v u h2]; exact he⟩⟩
      case round l f tmps assign body =>
        refine ⟨h.1, RoundIn.mono h.2 fun e w'' he => ?_⟩
        cases e with
        | returned u => exact ⟨keep a hy u, by rw [← Act.put_comm a v u h2]; exact he⟩
        | panicked c => exact he
        | outgrown => exact he
    | halt x w' =>
      cases x <;> simp only [Oper.uponIn] at h ⊢
      case panic u => exact h
  · rename_i hw
    simp only [hw] at h
    exact ⟨fun _ _ => trivial, keep a hy _, by rw [← Act.put_comm a v undef h2]; exact h.2⟩

theorem anyC_first {i : Nat} {oi : Oper} {v : Value} (hnd : noDefer ops = true) (hi : ops[i]? = some oi) (hsel : ∀ (j : Nat) (o : Oper) cs b, ops[j]? = some o → o.op ≠ .select cs b)
    (hfin : (∀ f, fin = some f → f ≠ i ∧ ∃ of, ops[f]? = some of ∧ ∃ e ∈ of.after, Region.binds .any e = true ∧ e.on = i)) :
    ∀ (k : Nat) (listed : Array Bool) (a : Act) (w : World),
      (∀ j oj, ops[j]? = some oj → j ≠ i → listed.getD j true = false → (∀ e ∈ oj.after, Region.binds .any e = true → e.on ≠ i) → oi.apart ops oj = true) →
      i ∈ Region.ready .any ops listed → (∀ f, fin = some f → listed.getD f true = false) → YC P ops C oi v a →
      anyC r P ops C fin X k (listed.setIfInBounds i true) (a.put oi.dst v) w → anyC r P ops C fin X (k + 1) listed a w := by
  intro k
  have need : ∀ listed : Array Bool, (∀ f, fin = some f → listed.getD f true = false) → needC fin (listed.setIfInBounds i true) = true := by
    intro listed hl
    unfold needC
    cases hf : fin with
    | none => rfl
    | some f =>
      have h1 := hl f hf
      rw [← getD_set_ne true (fun e => (hfin f hf).1 e.symm)] at h1
      simp only [h1, Bool.not_false]
  induction k with
  | zero =>
    intro listed a w _ hr hl hy H
    refine ⟨fun _ => H.1 (need listed hl), fun h => (by rw [h] at hr; cases hr), fun j hj => ?_⟩
    by_cases hji : j = i
    · subst hji; exact hy.wpOpIn hi (H.1 (need listed hl)) H
    · have := ready_mono hj hji
      rw [H.2.1] at this
      cases this
  | succ k ih =>
    intro listed a w hfree hr hl hy H
    refine ⟨fun _ => H.1 (need listed hl), fun h => (by rw [h] at hr; cases hr), fun j hj => ?_⟩
    by_cases hji : j = i
    · subst hji; exact hy.wpOpIn hi (H.1 (need listed hl)) H
    · have h1 := H.2.2 j (ready_mono hj hji)
      obtain ⟨hjun, oj, hoj, hall⟩ := mem_ready.1 hj
      have hnot : ∀ e ∈ oj.after, Region.binds .any e = true → e.on ≠ i := fun e he hb heq => by
        have h1 := hall e he hb
        have h0 := (mem_ready.1 hr).1
        rw [heq] at h1
        rcases Nat.lt_or_ge i listed.size with h' | h'
        · simp [h'] at h0 h1; rw [h0] at h1; cases h1
        · simp [Array.getElem?_eq_none h'] at h1
      have hl' : ∀ f, fin = some f → (listed.setIfInBounds j true).getD f true = false := fun f hf => by
        have hjf : j ≠ f := fun hjf => by
          obtain ⟨_, of, hof, e, he, hb, hon⟩ := hfin f hf
          subst hjf
          rw [hoj] at hof
          cases hof
          exact hnot e he hb hon
        rw [getD_set_ne true hjf]; exact hl f hf
      have h2 := wpOpIn_putC hnd hoj (hfree j oj hoj hji hjun hnot) (fun cs b => hsel i oi cs b hi) (fun cs b => hsel j oj cs b hoj) hy h1
      have hfree' : ∀ k ok, ops[k]? = some ok → k ≠ i → (listed.setIfInBounds j true).getD k true = false →
          (∀ e ∈ ok.after, Region.binds .any e = true → e.on ≠ i) → oi.apart ops ok = true := fun k ok hk hki hun hno => by
        refine hfree k ok hk hki ?_ hno
        by_cases hjk : j = k
        · subst hjk; exact hjun
        · rw [getD_set_ne true hjk] at hun; exact hun
      refine wpOpIn_mono (fun a' w' h3 => ih (listed.setIfInBounds j true) a' w' hfree' (ready_mono hr (Ne.symm hji)) hl' h3.1 ?_) h2
      rw [Array.setIfInBounds_comm _ _ hji]
      exact h3.2

theorem anyC_firstT {i : Nat} {oi : Oper} {v : Value} (hnd : noDefer ops = true) (hi : ops[i]? = some oi) (hsel : ∀ (j : Nat) (o : Oper) cs b, ops[j]? = some o → o.op ≠ .select cs b)
    (hfin : fin ≠ some i) :
    ∀ (k : Nat) (listed : Array Bool) (a : Act) (w : World),
      (∀ j oj, ops[j]? = some oj → j ≠ i → listed.getD j true = false → (∀ e ∈ oj.after, Region.binds .any e = true → e.on ≠ i) → oi.apart ops oj = true) →
      i ∈ Region.ready .any ops listed → YC P ops (fun _ => True) oi v a →
      anyC r P ops C fin X k (listed.setIfInBounds i true) (a.put oi.dst v) w → anyC r P ops C fin X (k + 1) listed a w := by
  intro k
  have need : ∀ listed : Array Bool, needC fin listed = true → needC fin (listed.setIfInBounds i true) = true := by
    intro listed hl
    unfold needC at *
    cases hf : fin with
    | none => rfl
    | some f =>
      rw [hf] at hl
      simp only at hl ⊢
      rw [getD_set_ne true (fun e => hfin (by rw [hf, e]))]
      exact hl
  induction k with
  | zero =>
    intro listed a w _ hr hy H
    refine ⟨fun hn => H.1 (need listed hn), fun h => (by rw [h] at hr; cases hr), fun j hj => ?_⟩
    by_cases hji : j = i
    · subst hji; exact hy.wpOpIn hi trivial H
    · have := ready_mono hj hji
      rw [H.2.1] at this
      cases this
  | succ k ih =>
    intro listed a w hfree hr hy H
    refine ⟨fun hn => H.1 (need listed hn), fun h => (by rw [h] at hr; cases hr), fun j hj => ?_⟩
    by_cases hji : j = i
    · subst hji; exact hy.wpOpIn hi trivial H
    · have h1 := H.2.2 j (ready_mono hj hji)
      obtain ⟨hjun, oj, hoj, hall⟩ := mem_ready.1 hj
      have hnot : ∀ e ∈ oj.after, Region.binds .any e = true → e.on ≠ i := fun e he hb heq => by
        have h1 := hall e he hb
        have h0 := (mem_ready.1 hr).1
        rw [heq] at h1
        rcases Nat.lt_or_ge i listed.size with h' | h'
        · simp [h'] at h0 h1; rw [h0] at h1; cases h1
        · simp [Array.getElem?_eq_none h'] at h1
      have h2 := wpOpIn_putC hnd hoj (hfree j oj hoj hji hjun hnot) (fun cs b => hsel i oi cs b hi) (fun cs b => hsel j oj cs b hoj) hy h1
      have hfree' : ∀ k ok, ops[k]? = some ok → k ≠ i → (listed.setIfInBounds j true).getD k true = false →
          (∀ e ∈ ok.after, Region.binds .any e = true → e.on ≠ i) → oi.apart ops ok = true := fun k ok hk hki hun hno => by
        refine hfree k ok hk hki ?_ hno
        by_cases hjk : j = k
        · subst hjk; exact hjun
        · rw [getD_set_ne true hjk] at hun; exact hun
      refine wpOpIn_mono (fun a' w' h3 => ih (listed.setIfInBounds j true) a' w' hfree' (ready_mono hr (Ne.symm hji)) h3.1 ?_) h2
      rw [Array.setIfInBounds_comm _ _ hji]
      exact h3.2

inductive Plan where
  | done
  | hoist (i : Nat) (p : Plan)
  | free (i : Nat) (p : Plan)
  | one (i : Nat) (p : Plan)
  | last (i : Nat) (p : Plan)
  | br (q : Plan)
  | alt (i : Nat) (p q : Plan)
  | nil

def Plan.heads : Plan → List Nat
  | .alt i _ q => i :: q.heads
  | _ => []

def waits (ops : Array Oper) (fin : Option Nat) (i : Nat) : Bool := match fin with
  | none => true
  | some f => !(f == i) && match ops[f]? with
    | some of => of.after.any fun e => Region.binds .any e && e.on == i
    | none => false

def Plan.isAlt : Plan → Bool
  | .alt .. => true
  | .nil => true
  | _ => false

def planOK (ops : Array Oper) (fin : Option Nat) : Plan → Nat → Array Bool → Bool
  | .done, _, l => (Region.ready .any ops l).isEmpty
  | .hoist i p, k + 1, l => (Region.ready .any ops l).contains i && Region.free .any ops l i && waits ops fin i && needC fin l && !p.isAlt && planOK ops fin p k (l.setIfInBounds i true)
  | .free i p, k + 1, l => (Region.ready .any ops l).contains i && Region.free .any ops l i && !(fin == some i) && !p.isAlt && planOK ops fin p k (l.setIfInBounds i true)
  | .one i p, k + 1, l => (Region.ready .any ops l == [i]) && !p.isAlt && planOK ops fin p k (l.setIfInBounds i true)
  | .last i p, k + 1, l => (Region.ready .any ops l == [i]) && !needC fin (l.setIfInBounds i true) && !p.isAlt && planOK ops fin p k (l.setIfInBounds i true)
  | .br q, k + 1, l => (Region.ready .any ops l).all (fun i => q.heads.contains i) && !(Region.ready .any ops l).isEmpty && q.isAlt && planOK ops fin q (k + 1) l
  | .alt i p q, k + 1, l => !p.isAlt && q.isAlt && planOK ops fin p k (l.setIfInBounds i true) && planOK ops fin q (k + 1) l
  | .nil, _, _ => true
  | _, 0, _ => false

def planTop (ops : Array Oper) (fin : Option Nat) (p : Plan) : Bool := Region.noSelect ops && noDefer ops && !p.isAlt && planOK ops fin p ops.size (Array.replicate ops.size false)

def walk (r : Option Nat) (P : Program) (ops : Array Oper) (C : World → Prop) (X : Act → World → Prop) : Plan → Act → World → Prop
  | .done, a, w => X a w
  | .hoist i p, a, w => ∃ o v, ops[i]? = some o ∧ YC P ops C o v a ∧ walk r P ops C X p (a.put o.dst v) w
  | .free i p, a, w => ∃ o v, ops[i]? = some o ∧ YC P ops (fun _ => True) o v a ∧ walk r P ops C X p (a.put o.dst v) w
  | .one i p, a, w => wpOpIn (fw r) 0 P ops (qn X) i (fun a w => C w ∧ walk r P ops C X p a w) a w
  | .last i p, a, w => wpOpIn (fw r) 0 P ops (qn X) i (fun a w => walk r P ops C X p a w) a w
  | .br q, a, w => walk r P ops C X q a w
  | .alt i p q, a, w => wpOpIn (fw r) 0 P ops (qn X) i (fun a w => C w ∧ walk r P ops C X p a w) a w ∧ walk r P ops C X q a w
  | .nil, _, _ => True

theorem waits_spec {i : Nat} (h : waits ops fin i = true) : ∀ f, fin = some f → f ≠ i ∧ ∃ of, ops[f]? = some of ∧ ∃ e ∈ of.after, Region.binds .any e = true ∧ e.on = i := by
  intro f hf
  subst hf
  simp only [waits, Bool.and_eq_true, Bool.not_eq_true', beq_eq_false_iff_ne, ne_eq] at h
  refine ⟨h.1, ?_⟩
  cases ho : ops[f]? with
  | none => simp [ho] at h
  | some of =>
    simp only [ho, Array.any_eq_true'] at h
    obtain ⟨_, e, he, hb⟩ := h
    simp only [Bool.and_eq_true, beq_iff_eq] at hb
    exact ⟨of, rfl, e, he, hb.1, hb.2⟩
theorem needC_spec {l : Array Bool} (h : needC fin l = true) : ∀ f, fin = some f → l.getD f true = false := by
  intro f hf; subst hf; simpa [needC] using h

theorem walk_sound (hns : Region.noSelect ops = true) (hnd : noDefer ops = true) : ∀ (p : Plan),
    (p.isAlt = false → ∀ (k : Nat) (l : Array Bool) (a : Act) (w : World), planOK ops fin p k l = true → (needC fin l = true → C w) → walk r P ops C X p a w → anyC r P ops C fin X k l a w) ∧
    (∀ (k : Nat) (l : Array Bool) (a : Act) (w : World), p.isAlt = true → planOK ops fin p (k + 1) l = true → walk r P ops C X p a w → ∀ i ∈ p.heads, wpOpIn (fw r) 0 P ops (qn X) i (anyC r P ops C fin X k (l.setIfInBounds i true)) a w) := by
  intro p
  induction p with
  | done =>
    refine ⟨fun _ k l a w hp hC h => ?_, fun _ _ _ _ hi => by simp [Plan.isAlt] at hi⟩
    have hr : Region.ready .any ops l = [] := by cases k <;> simpa [planOK] using hp
    cases k with
    | zero => exact ⟨hC, hr, h⟩
    | succ k => exact ⟨hC, fun _ => h, fun i hi => by rw [hr] at hi; cases hi⟩
  | hoist i p ih =>
    refine ⟨fun _ k l a w hp hC h => ?_, fun _ _ _ _ hi => by simp [Plan.isAlt] at hi⟩
    cases k with
    | zero => simp [planOK] at hp
    | succ k =>
      simp only [planOK, Bool.and_eq_true, Bool.not_eq_true'] at hp
      obtain ⟨⟨⟨⟨⟨h1, h2⟩, h3⟩, h4⟩, hne⟩, h5⟩ := hp
      obtain ⟨o, v, ho, hy, hw⟩ := h
      refine anyC_first hnd ho (Region.noSelect_spec hns) (waits_spec h3) k l a w (Region.free_spec ho h2) (by simpa using h1) (needC_spec h4) hy ?_
      exact ih.1 hne k _ _ _ h5 (fun _ => hC h4) hw
  | free i p ih =>
    refine ⟨fun _ k l a w hp hC h => ?_, fun _ _ _ _ hi => by simp [Plan.isAlt] at hi⟩
    cases k with
    | zero => simp [planOK] at hp
    | succ k =>
      simp only [planOK, Bool.and_eq_true, Bool.not_eq_true'] at hp
      obtain ⟨⟨⟨⟨h1, h2⟩, h3⟩, hne⟩, h5⟩ := hp
      obtain ⟨o, v, ho, hy, hw⟩ := h
      have hf : fin ≠ some i := by intro h; rw [h] at h3; simp at h3
      refine anyC_firstT hnd ho (Region.noSelect_spec hns) hf k l a w (Region.free_spec ho h2) (by simpa using h1) hy ?_
      refine ih.1 hne k _ _ _ h5 (fun hn => hC ?_) hw
      unfold needC at *
      cases hfin : fin with
      | none => rfl
      | some f =>
        rw [hfin] at hn
        simp only at hn ⊢
        rw [getD_set_ne true (fun e => hf (by rw [hfin, e]))] at hn
        exact hn
  | one i p ih =>
    refine ⟨fun _ k l a w hp hC h => ?_, fun _ _ _ _ hi => by simp [Plan.isAlt] at hi⟩
    cases k with
    | zero => simp [planOK] at hp
    | succ k =>
      simp only [planOK, Bool.and_eq_true, Bool.not_eq_true', beq_iff_eq] at hp
      obtain ⟨⟨h1, hne⟩, h5⟩ := hp
      refine ⟨hC, fun h0 => (by rw [h0] at h1; cases h1), fun j hj => ?_⟩
      rw [h1] at hj
      simp only [List.mem_singleton] at hj
      subst hj
      exact wpOpIn_mono (fun a' w' hh => ih.1 hne k _ _ _ h5 (fun _ => hh.1) hh.2) h
  | last i p ih =>
    refine ⟨fun _ k l a w hp hC h => ?_, fun _ _ _ _ hi => by simp [Plan.isAlt] at hi⟩
    cases k with
    | zero => simp [planOK] at hp
    | succ k =>
      simp only [planOK, Bool.and_eq_true, Bool.not_eq_true', beq_iff_eq] at hp
      obtain ⟨⟨⟨h1, h2⟩, hne⟩, h5⟩ := hp
      refine ⟨hC, fun h0 => (by rw [h0] at h1; cases h1), fun j hj => ?_⟩
      rw [h1] at hj
      simp only [List.mem_singleton] at hj
      subst hj
      exact wpOpIn_mono (fun a' w' hh => ih.1 hne k _ _ _ h5 (fun hn => by rw [h2] at hn; cases hn) hh) h
  | br q ih =>
    refine ⟨fun _ k l a w hp hC h => ?_, fun _ _ _ _ hi => by simp [Plan.isAlt] at hi⟩
    cases k with
    | zero => simp [planOK] at hp
    | succ k =>
      simp only [planOK, Bool.and_eq_true, Bool.not_eq_true'] at hp
      obtain ⟨⟨⟨h1, h2⟩, hne⟩, h5⟩ := hp
      refine ⟨hC, fun h0 => (by rw [h0] at h2; simp at h2), fun j hj => ?_⟩
      have := List.all_eq_true.1 h1 j hj
      exact ih.2 k l a w hne h5 h j (by simpa using this)
  | alt i p q ihp ihq =>
    refine ⟨fun hi => by simp [Plan.isAlt] at hi, fun k l a w _ hp h j hj => ?_⟩
    simp only [planOK, Bool.and_eq_true, Bool.not_eq_true'] at hp
    obtain ⟨⟨⟨h1, h2⟩, h3⟩, h4⟩ := hp
    simp only [Plan.heads, List.mem_cons] at hj
    rcases hj with rfl | hj
    · exact wpOpIn_mono (fun a' w' hh => ihp.1 h1 k _ _ _ h3 (fun _ => hh.1) hh.2) h.1
    · exact ihq.2 k l a w h2 h4 h.2 j hj
  | nil => exact ⟨fun hi => by simp [Plan.isAlt] at hi, fun _ _ _ _ _ _ _ j hj => by simp [Plan.heads] at hj⟩

theorem wpIn_region_plan {id : Nat} {l : List Oper} {Q : Exit → Act → World → Prop} {a : Act} {w : World} (hm : P.follows .mixedOrders = true) (p : Plan) (hp : planTop l.toArray fin p = true)
    (hC : C { w with drawn := w.drawn + 1 }) (h : walk r P l.toArray C (Q .normal) p a { w with drawn := w.drawn + 1 }) : (Code.region id l.toArray true).wpIn (fw r) 0 P Q a w := by
  simp only [planTop, Bool.and_eq_true, Bool.not_eq_true'] at hp
  obtain ⟨⟨⟨h1, h2⟩, h3⟩, h4⟩ := hp
  have := (walk_sound (r := r) (P := P) (C := C) (fin := fin) (X := Q .normal) h1 h2 p).1 h3 _ _ a _ h4 (fun _ => hC) h
  refine wpIn_mono (wpIn_region_any (F := fw r) (n := 0) (id := id) hm (anyC_sound _ _ _ _ this)) ?_
  intro e a w hq
  cases e <;> first | exact hq | exact hq.elim
end

section rules
variable {n : Nat} {ds : List Deferred} {e : EnvL} {H : World → Prop} {P : Program} {r : Option Nat} {Q : Exit → Act → World → Prop} {ops : Array Oper} {C : World → Prop} {fin : Option Nat} {X : Act → World → Prop}

theorem ky {id : Nat} {l : List Oper} (fin : Option Nat) (p : Plan) (C : World → Prop) (hm : P.follows .mixedOrders = true) (hp : planTop l.toArray fin p = true) (hH : ∀ w k, H w → H { w with drawn := k }) (hC : ∀ w, H w → C w)
    (h : G n ds e H (walk r P l.toArray C (Q .normal) p)) : G n ds e H ((Code.region id l.toArray true).wpIn (fw r) 0 P Q) := fun a w he hh =>
  wpIn_region_plan hm p hp (hC _ (hH w _ hh)) (h a _ he (hH w _ hh))
theorem jM (h : G n ds e H X) : G n ds e H (walk r P ops C X .done) := h
theorem jy {i d : Nat} {p : Plan} {o : Oper} {v : Value} (ho : ops[i]? = some o) (hd : o.dst = some d) (hg : o.guard = none) (hn : Nat.blt d n = true) (hv : ∀ w, C w → Val P e w o v)
    (h : G n ds ((d, v) :: e) H (walk r P ops C X p)) : G n ds e H (walk r P ops C X (.hoist i p)) := fun a w he hh =>
  ⟨o, v, ho, .inl ⟨wanted_none hg _, fun w hw => hv w hw n ds a he⟩, by rw [hd]; exact h _ w (he.put hn v) hh⟩
theorem jn {i d : Nat} {p : Plan} {o : Oper} {v : Value} (ho : ops[i]? = some o) (hd : o.dst = some d) (hg : o.guard = none) (hn : Nat.blt d n = true) (hv : ∀ w, True → Val P e w o v)
    (h : G n ds ((d, v) :: e) H (walk r P ops C X p)) : G n ds e H (walk r P ops C X (.free i p)) := fun a w he hh =>
  ⟨o, v, ho, .inl ⟨wanted_none hg _, fun w hw => hv w trivial n ds a he⟩, by rw [hd]; exact h _ w (he.put hn v) hh⟩
theorem qW {i d j t : Nat} {want : Bool} {p : Plan} {o : Oper} {v : Value} (ho : ops[i]? = some o) (hd : o.dst = some d) (hg : o.guard = some (j, want)) (hj : (ops[j]?).bind (·.dst) = some t) (ht : lk e t = some (.bool want)) (hn : Nat.blt d n = true) (hv : ∀ w, True → Val P e w o v)
    (h : G n ds ((d, v) :: e) H (walk r P ops C X p)) : G n ds e H (walk r P ops C X (.free i p)) := fun a w he hh =>
  ⟨o, v, ho, .inl ⟨by rw [wanted_some he hg hj ht]; simp, fun w hw => hv w trivial n ds a he⟩, by rw [hd]; exact h _ w (he.put hn v) hh⟩
theorem kA {i d j t : Nat} {want b : Bool} {p : Plan} {o : Oper} (ho : ops[i]? = some o) (hd : o.dst = some d) (hg : o.guard = some (j, want)) (hj : (ops[j]?).bind (·.dst) = some t) (ht : lk e t = some (.bool b)) (hb : (b == want) = false) (hn : Nat.blt d n = true)
    (h : G n ds ((d, undef) :: e) H (walk r P ops C X p)) : G n ds e H (walk r P ops C X (.free i p)) := fun a w he hh =>
  ⟨o, undef, ho, .inr ⟨by rw [wanted_some he hg hj ht, hb], rfl⟩, by rw [hd]; exact h _ w (he.put hn undef) hh⟩
theorem Jl {i d j t : Nat} {want : Bool} {p : Plan} {o : Oper} {v : Value} (ho : ops[i]? = some o) (hd : o.dst = some d) (hg : o.guard = some (j, want)) (hj : (ops[j]?).bind (·.dst) = some t) (ht : lk e t = some (.bool want)) (hn : Nat.blt d n = true) (hv : ∀ w, C w → Val P e w o v)
    (h : G n ds ((d, v) :: e) H (walk r P ops C X p)) : G n ds e H (walk r P ops C X (.hoist i p)) := fun a w he hh =>
  ⟨o, v, ho, .inl ⟨by rw [wanted_some he hg hj ht]; simp, fun w hw => hv w hw n ds a he⟩, by rw [hd]; exact h _ w (he.put hn v) hh⟩
theorem Jq {i d j t : Nat} {want b : Bool} {p : Plan} {o : Oper} (ho : ops[i]? = some o) (hd : o.dst = some d) (hg : o.guard = some (j, want)) (hj : (ops[j]?).bind (·.dst) = some t) (ht : lk e t = some (.bool b)) (hb : (b == want) = false) (hn : Nat.blt d n = true)
    (h : G n ds ((d, undef) :: e) H (walk r P ops C X p)) : G n ds e H (walk r P ops C X (.hoist i p)) := fun a w he hh =>
  ⟨o, undef, ho, .inr ⟨by rw [wanted_some he hg hj ht, hb], rfl⟩, by rw [hd]; exact h _ w (he.put hn undef) hh⟩

theorem wpOpIn_of_list {i : Nat} {o : Oper} {K : Act → World → Prop} {a : Act} {w : World} (ho : ops[i]? = some o) (h : wpListIn (fw r) 0 P ops (qn K) [o] a w) : wpOpIn (fw r) 0 P ops (qn X) i K a w := by
  unfold wpOpIn
  simp only [ho]
  unfold wpListIn at h
  split at h
  · rename_i hw
    simp only [hw, if_true]
    unfold Oper.wpIn at h ⊢
    refine ⟨h.1, ?_⟩
    have h := h.2
    have hk : ∀ a w, wpListIn (fw r) 0 P ops (qn K) [] a w → K a w := fun _ _ h => h
    generalize (o.semAt (fw r).round a.eval).run P w = rr at *
    cases rr with
    | ok x w' =>
      cases x <;> simp only [Oper.uponIn] at h ⊢
      case value u => exact hk _ _ h
      case skip => exact hk _ _ h
      case defer d => exact hk _ _ h
      case enter f args =>
        refine ⟨h.1, CallsIn.mono h.2 fun e w'' he => ?_⟩
        cases e with
        | returned u => exact hk _ _ he
        | panicked c => exact he
        | outgrown => exact absurd he not_letsOut
      case row row args => exact ⟨h.1, RowsIn.mono h.2 fun u w'' he => hk _ _ he⟩
      case round l f tmps assign body =>
        refine ⟨h.1, RoundIn.mono h.2 fun e w'' he => ?_⟩
        cases e with
        | returned u => exact hk _ _ he
        | panicked c => exact he
        | outgrown => exact absurd he not_letsOut
    | halt x w' =>
      cases x <;> simp only [Oper.uponIn] at h ⊢
      case panic u => exact h
  · rename_i hw
    simp only [hw]
    exact h
theorem jA {i : Nat} {p : Plan} {o : Oper} (ho : ops[i]? = some o) (h : G n ds e H (wpListIn (fw r) 0 P ops (qn (fun a w => C w ∧ walk r P ops C X p a w)) [o])) : G n ds e H (walk r P ops C X (.one i p)) := fun a w he hh => wpOpIn_of_list ho (h a w he hh)
theorem YG {i : Nat} {p : Plan} {o : Oper} (ho : ops[i]? = some o) (h : G n ds e H (wpListIn (fw r) 0 P ops (qn (walk r P ops C X p)) [o])) : G n ds e H (walk r P ops C X (.last i p)) := fun a w he hh => wpOpIn_of_list ho (h a w he hh)
theorem jj {p : Plan} (hC : ∀ w, H w → C w) (h : G n ds e H (walk r P ops C X p)) : G n ds e H (wpListIn (fw r) 0 P ops (qn (fun a w => C w ∧ walk r P ops C X p a w)) []) := fun a w he hh => ⟨hC w hh, h a w he hh⟩
theorem QH {p : Plan} (h : G n ds e H (walk r P ops C X p)) : G n ds e H (wpListIn (fw r) 0 P ops (qn (walk r P ops C X p)) []) := fun a w he hh => h a w he hh
theorem ZC {q : Plan} (h : G n ds e H (walk r P ops C X q)) : G n ds e H (walk r P ops C X (.br q)) := h
theorem zC {i : Nat} {p q : Plan} {o : Oper} (ho : ops[i]? = some o) (h : G n ds e H (wpListIn (fw r) 0 P ops (qn (fun a w => C w ∧ walk r P ops C X p a w)) [o])) (hq : G n ds e H (walk r P ops C X q)) : G n ds e H (walk r P ops C X (.alt i p q)) := fun a w he hh => ⟨wpOpIn_of_list ho (h a w he hh), hq a w he hh⟩
theorem QE : G n ds e H (walk r P ops C X .nil) := fun _ _ _ _ => trivial
end rules
end Go.Fw

namespace Go.Fw
open Go
section vals
variable {P : Program} {e : EnvL} {w : World} {dst : Option Tmp} {ty : TypeId} {pos : String} {after : Array Edge} {g : Option (Nat × Bool)}

def evp (e : EnvL) : List (Nat × Operand) → Option (List (Nat × Value))
  | [] => some []
  | p :: r => match ev e p.2, evp e r with
    | some v, some vs => some ((p.1, v) :: vs)
    | _, _ => none
theorem evp_ok {n : Nat} {ds : List Deferred} {a : Act} (he : Env n ds e a) : ∀ {xs : List (Nat × Operand)} {vs : List (Nat × Value)}, evp e xs = some vs → xs.map (fun p => (p.1, a.eval p.2)) = vs
  | [], vs, h => by simp [evp] at h; simp [h]
  | x :: xs, vs, h => by
    simp only [evp] at h
    cases hx : ev e x.2 with
    | none => simp [hx] at h
    | some v =>
      cases hr : evp e xs with
      | none => simp [hx, hr] at h
      | some r' => simp [hx, hr] at h; subst h; simp [he.eval hx, evp_ok he hr]
def setL (cells : List Value) (k : Nat) : List Value → List Value
  | [] => cells
  | v :: r => setL (cells.set k v) (k + 1) r
def fillL (sz : Nat) (cells : List Value) : List (Nat × Value) → Option (List Value)
  | [] => some cells
  | (i, v) :: rest => match Nat.beq v.cells.toList.length sz && Nat.ble (i * sz + sz) cells.length with
    | true => fillL sz (setL cells (i * sz) v.cells.toList) rest
    | false => none
theorem setL_eq : ∀ (vs : List Value) (cells : List Value) (k j : Nat), (vs.zipIdx j).foldl (fun cs (x : Value × Nat) => cs.setIfInBounds (k + x.2) x.1) cells.toArray = (setL cells (k + j) vs).toArray
  | [], _, _, _ => rfl
  | v :: vs, cells, k, j => by
    simp only [List.zipIdx_cons, List.foldl_cons, setL, List.setIfInBounds_toArray]
    rw [setL_eq vs (cells.set (k + j) v) k (j + 1), Nat.add_assoc]
theorem fillL_eq {sz : Nat} : ∀ (vs : List (Nat × Value)) (cells c : List Value), fillL sz cells vs = some c → Instr.fill (fun i => some (i * sz, sz)) cells.toArray vs = some c.toArray
  | [], cells, c, h => by simp [fillL] at h; subst h; rfl
  | (i, v) :: rest, cells, c, h => by
    unfold fillL at h
    split at h
    · rename_i hb
      simp only [Bool.and_eq_true, Nat.ble_eq] at hb
      unfold Instr.fill
      simp only
      rw [if_neg (by have h1 : v.cells.size = sz := by have := Nat.eq_of_beq_eq_true hb.1; simpa using this
                     simp only [List.size_toArray, h1]; intro hq; have h2 := hb.2; simp at hq; omega)]
      rw [← fillL_eq rest _ c h, ← Nat.add_zero (i * sz), ← setL_eq]
      congr 1
      rw [← Array.foldl_toList, Array.toList_zipIdx]
      rfl
    · cases h
def fillP (place : List (Nat × Nat)) (cells : List Value) : List (Nat × Value) → Option (List Value)
  | [] => some cells
  | (i, v) :: rest => match place[i]? with
    | none => none
    | some (off, size) => match Nat.beq v.cells.toList.length size && Nat.ble (off + size) cells.length with
      | true => fillP place (setL cells off v.cells.toList) rest
      | false => none
theorem fillP_eq {place : List (Nat × Nat)} : ∀ (vs : List (Nat × Value)) (cells c : List Value), fillP place cells vs = some c → Instr.fill (place.toArray[·]?) cells.toArray vs = some c.toArray
  | [], cells, c, h => by simp [fillP] at h; subst h; rfl
  | (i, v) :: rest, cells, c, h => by
    unfold fillP at h
    split at h
    · cases h
    · rename_i o sz hpl
      split at h
      · rename_i hb
        simp only [Bool.and_eq_true, Nat.ble_eq] at hb
        unfold Instr.fill
        have hpl' : place.toArray[i]? = some (o, sz) := by simpa using hpl
        simp only [hpl']
        rw [if_neg (by have h1 : v.cells.size = sz := by have := Nat.eq_of_beq_eq_true hb.1; simpa using this
                       simp only [List.size_toArray, h1]; intro hq; have h2 := hb.2; simp at hq; omega)]
        rw [← fillP_eq rest _ c h, ← Nat.add_zero o, ← setL_eq]
        congr 1
        rw [← Array.foldl_toList, Array.toList_zipIdx]
        rfl
      · cases h
def builtL (P : Program) (t : TypeId) (vs : List (Nat × Value)) : Option (List Value) :=
  match P.info? t, P.underlying t with
  | some it, some (.array _ e) =>
    match it.zero, P.info? e with
    | some z, some ie => fillL ie.size z.cells.toList vs
    | _, _ => none
  | some it, some (.struct fields) =>
    match it.zero, fields.toList.mapM (fun f => (P.info? f.type).map fun i => (f.offset, i.size)) with
    | some z, some places => fillP places z.cells.toList vs
    | _, _ => none
  | _, _ => none
theorem builtL_eq {P : Program} {t : TypeId} {vs : List (Nat × Value)} {c : List Value} (h : builtL P t vs = some c) : P.built t vs = some c.toArray := by
  unfold builtL at h
  unfold Program.built
  split at h
  · rename_i it _ e h1 h2
    simp only [h1, h2]
    split at h
    · rename_i z ie hz hie
      simp only [hz, hie]
      have := fillL_eq vs _ c h
      simpa using this
    · cases h
  · rename_i it fields h1 h2
    simp only [h1, h2]
    split at h
    · rename_i z places hz hp
      simp only [hz, hp]
      have := fillP_eq vs _ c h
      simpa using this
    · cases h
  · cases h
theorem k9 {t : TypeId} {parts : List (Nat × Operand)} {vs : List (Nat × Value)} {cells : List Value} (hp : evp e parts = some vs) (hb : builtL P t vs = some cells) :
    Val P e w ⟨dst, .build t parts.toArray, ty, pos, after, g⟩ (.agg cells.toArray) := fun n ds a he => by
  have h1 := evp_ok he hp
  have h2 := run_build (P := P) w t vs.toArray cells.toArray (by simpa using builtL_eq hb)
  have h3 : (parts.toArray.map fun (x : Nat × Operand) => (x.1, a.eval x.2)) = vs.toArray := by
    apply Array.toList_inj.1; simpa using h1
  simp only [execOp, Sem.run_bind]
  have h4 : (Array.map (fun x => match x with | (i, x) => (i, a.eval x)) parts.toArray) = vs.toArray := h3
  rw [h4, h2]
  rfl
theorem run_equalIn_bool {t : TypeId} {b c : Bool} (hu : (underlying t).run P w = .ok .bool w) (d : Nat) : (Op.equalIn (d + 1) t (.bool b) (.bool c)).run P w = .ok (b == c) w := by
  unfold Op.equalIn
  simp only [Sem.run_bind, hu, Result.andThen_ok, Sem.run_pure]
theorem run_equalIn_int {t : TypeId} {k k' : IntKind} {m m' : Int} (hu : (underlying t).run P w = .ok (.int k') w) (d : Nat) : (Op.equalIn (d + 1) t (.int k m) (.int k m')).run P w = .ok (m == m') w := by
  unfold Op.equalIn
  simp only [Sem.run_bind, hu, Result.andThen_ok, if_true, Sem.run_pure]
theorem binOp_neq_bool {t : TypeId} {b c : Bool} : binOp .neq t (.bool b) (.bool c) = (do pure (.bool (!(← Op.equal t (.bool b) (.bool c))))) := rfl
theorem Y6 {t u : TypeId} {x y : Operand} {b c : Bool} (hu : (underlying t).run P w = .ok .bool w) (hx : ev e x = some (.bool b)) (hy : ev e y = some (.bool c)) :
    Val P e w ⟨dst, .binOp .neq t x y u, ty, pos, after, g⟩ (.bool (!(b == c))) := fun n ds a he => by
  have h1 : (Op.equal t (.bool b) (.bool c)).run P w = .ok (b == c) w := run_equalIn_bool hu 9999
  have h2 : (eqGuard .neq t x y (.bool b) (.bool c)).run P w = .ok () w := rfl
  simp only [execOp, he.eval hx, he.eval hy, Sem.run_bind, h2, Result.andThen_ok, binOp_neq_bool, h1, Sem.run_pure]
end vals

section rules
variable {n : Nat} {ds : List Deferred} {e : EnvL} {H : World → Prop} {P : Program} {r : Option Nat} {Q : Exit → Act → World → Prop} {ops : Array Oper} {w0 : World} {M : List Nat} {own : List (Nat × Obj)} {ro : List Sg}

def zsL (z : Value) (k : Nat) : List Value := (List.range k).map (fun x => z.cells.toList.getD (x % z.cells.toList.length) default)
theorem zsL_eq (z : Value) (k : Nat) : (Array.range k).map (z.cells[· % z.cells.size]!) = (zsL z k).toArray := by
  apply Array.toList_inj.1
  simp only [zsL, Array.toList_map, Array.toList_range]
  apply List.map_congr_left
  intro x _
  simp [Array.getElem!_eq_getD, List.getD_eq_getElem?_getD, Array.getD_eq_getD_getElem?]
theorem ZJ {rest : List Oper} {d : Nat} {t E : TypeId} {len sz : Nat} {parts : List (Nat × Operand)} {vs : List (Nat × Value)} {z : Value} {cells : List Value} {ty : TypeId} {pos : String} {after : Array Edge}
    (hu : ∀ w, (underlying t).run P w = .ok (.slice E) w) (hz : ∀ w, (sizeOf E).run P w = .ok sz w) (hzv : ∀ w, (zeroValue E).run P w = .ok z w) (hp : evp e parts = some vs) (hs : Nat.ble (len * sz) 16777216 = true)
    (hf : fillL sz (zsL z (len * sz)) vs = some cells) (hl0 : Nat.blt 0 (len * sz) = true) (hn : Nat.blt d n = true)
    (h : ∀ b, w0.heap.size ≤ b → G n ds ((d, slv (some (b, 0)) len len) :: e) (HS w0 M ((b, .cells cells.toArray E (0, 0)) :: own) ro) (wpListIn (fw r) 0 P ops Q rest)) :
    G n ds e (HS w0 M own ro) (wpListIn (fw r) 0 P ops Q (⟨some d, .buildSlice t len parts.toArray, ty, pos, after, none⟩ :: rest)) :=
  jae (.cells cells.toArray E (0, 0)) (fun b => slv (some (b, 0)) len len) rfl rfl hn (fun a w he _ => by
    have h1 := evp_ok he hp
    have h4 : (Array.map (fun x => match x with | (i, x) => (i, a.eval x)) parts.toArray) = vs.toArray := by
      apply Array.toList_inj.1; simpa using h1
    have hs' : ¬ (len * sz > 2 ^ 24) := by have := Nat.le_of_ble_eq_true hs; omega
    have hl' : ¬ (len * sz = 0) := by simp at hl0; omega
    simp only [execOp, Sem.run_bind, Instr.buildSlice, hu, hz, Result.andThen_ok, hs', if_false, hl', hzv, h4, Sem.run_pure]
    rw [zsL_eq, fillL_eq _ _ _ hf]
    simp [newRow, slv]) h

def vown (E : TypeId) (xs sp : List Value) : Option (Nat × Nat) → List (Nat × Obj)
  | none => []
  | some p => [(p.1, .cells (xs ++ sp).toArray E (0, 0))]
structure VOK (sz len cap : Nat) (xs sp : List Value) (q : Option (Nat × Nat)) : Prop where
  hlen : xs.length = len * sz
  hcap : (xs ++ sp).length = cap * sz
  hle : len ≤ cap
  hmax : cap ≤ maxLen
  hnone : q = none → len = 0 ∧ cap = 0
  hoff : ∀ p, q = some p → p.2 = 0
theorem VOK.nil {sz : Nat} : VOK sz 0 0 [] [] none := ⟨by simp, by simp, by simp, by simp [maxLen], fun _ => ⟨rfl, rfl⟩, by simp⟩
theorem VOK.full {sz len : Nat} {xs : List Value} {b : Nat} (h : xs.length = len * sz) (hm : len ≤ maxLen) : VOK sz len len xs [] (some (b, 0)) := ⟨h, by simpa using h, Nat.le_refl _, hm, by simp, by simp⟩

theorem HS.dropVec {w : World} {E : TypeId} {xs sp : List Value} {q : Option (Nat × Nat)} (hh : HS w0 M (own ++ vown E xs sp q) ro w) : HS w0 M own ro w := hh.drop (List.sublist_append_left own (vown E xs sp q))
theorem HS.pushR {w w' : World} {b : Nat} {o : Obj} (hh : HS w0 M own ro w) (hx : Ext [] w w') (hb : w.heap.size ≤ b) (ho : w'.heap[b]? = some o) : HS w0 M (own ++ [(b, o)]) ro w' := by
  have h1 := hh.push hx hb ho
  have hsub : ∀ p, p ∈ own ++ [(b, o)] → p ∈ (b, o) :: own := fun p hp => by
    rcases List.mem_append.1 hp with h | h
    · exact List.mem_cons_of_mem _ h
    · rw [List.mem_singleton] at h; subst h; exact List.mem_cons_self
  refine ⟨h1.os, h1.tape, h1.output, h1.size, h1.old, fun p hp => h1.ownOK p (hsub p hp), fun p hp => h1.new p (hsub p hp), ?_, h1.roOK, fun s hs hn hm => h1.sep s hs hn ?_⟩
  · have := h1.nodup
    rw [List.map_append, List.nodup_append]
    simp only [List.map_cons, List.nodup_cons] at this
    refine ⟨this.2, by simp, ?_⟩
    intro a ha b' hb' he
    simp at hb'
    subst hb'
    subst he
    exact this.1 ha
  · obtain ⟨p, hp, he⟩ := List.mem_map.1 hm
    exact List.mem_map.2 ⟨p, hsub p hp, he⟩

theorem jau {rest : List Oper} {d : Nat} {t ty E : TypeId} {x y : Operand} {z : Value} {sz bytes len cap m c : Nat} {xs sp news : List Value} {q q2 : Option (Nat × Nat)} {pos : String} {after : Array Edge}
    (ht : P.underlying t = some (.slice E)) (hi : (P.info? E).map (fun i => (i.zero, i.size, i.bytes)) = some (some z, sz, bytes)) (hz : z.cells.size = sz)
    (hx : ev e x = some (slv q len cap)) (hy : ev e y = some (slv q2 m c)) (hv : VOK sz len cap xs sp q) (hq2 : q2 ≠ none) (hm0 : 0 < m) (hl : news.length = m * sz) (hnews : ∀ w, HS w0 M (own ++ vown E xs sp q) ro w → segOK w (bk q2, off q2, news)) (h1 : ∀ u ∈ news, u.oneCell' = true)
    (h63 : len + m ≤ maxLen) (hbytes : (len + m) * bytes ≤ 140737488355328) (hn : Nat.blt d n = true)
    (h : ∀ q' cap' sp', VOK sz (len + m) cap' (xs ++ news) sp' (some q') → (some q' = q ∨ w0.heap.size ≤ q'.1) → G n ds ((d, slv (some q') (len + m) cap') :: e) (HS w0 M (own ++ vown E (xs ++ news) sp' (some q')) ro) (wpListIn (fw r) 0 P ops Q rest)) :
    G n ds e (HS w0 M (own ++ vown E xs sp q) ro) (wpListIn (fw r) 0 P ops Q (⟨some d, .call ⟨.builtin .append, #[x, y], #[t, t]⟩, ty, pos, after, none⟩ :: rest)) := fun a w he hh => by
  obtain ⟨ii, hi1, hi2⟩ : ∃ ii, P.info? E = some ii ∧ (ii.zero, ii.size, ii.bytes) = (some z, sz, bytes) := by
    cases hii : P.info? E with
    | none => simp [hii] at hi
    | some ii => exact ⟨ii, rfl, by simpa [hii] using hi⟩
  simp only [Prod.mk.injEq] at hi2
  obtain ⟨hi2, hi3, hi4⟩ := hi2
  subst hi3; subst hi4
  obtain ⟨b2, hb2⟩ : ∃ p, q2 = some p := Option.ne_none_iff_exists'.1 hq2
  have hnw : ∀ j u, news[j]? = some u → w.cell? ((⟨b2.1, b2.2, none⟩ : Addr).add j) = some u := fun j u hu => by
      rw [addr_add]
      have := segOK.at (hnews w hh) hu
      simpa [bk, off, hb2] using this
  have hy' : a.eval y = .slice (some ⟨b2.1, b2.2, none⟩) m c := by rw [he.eval hy]; simp [slv, hb2]
  have hz' : z.cells.size = ii.size := hz
  have hmx : len + m ≤ 9223372036854775807 := by simpa [maxLen] using h63
  have fresh : ∀ old, old < len + m → (xs ++ news).length + (Builtin.zeroCells z.cells (grownCap w (len + m) old E - (len + m))).size = grownCap w (len + m) old E * ii.size ∧ len + m ≤ grownCap w (len + m) old E ∧ grownCap w (len + m) old E ≤ maxLen := by
    intro old _
    have hge : len + m ≤ grownCap w (len + m) old E := grownCap_ge w _ _ _
    have hle : grownCap w (len + m) old E ≤ maxLen := grownCap_le_maxLen w _ _ _ h63
    refine ⟨?_, hge, hle⟩
    rw [size_zeroCells, hz', List.length_append, hv.hlen, hl, ← Nat.add_mul, ← Nat.add_mul]
    congr 1
    omega
  have hxd : Ext [] w (w.drew) := ⟨rfl, rfl, rfl, Nat.le_refl _, fun _ _ _ => rfl⟩
  have grown : ∀ old, old < len + m → ∀ res : Value, (Builtin.append_ #[t, t] ty #[slv q len cap, .slice (some ⟨b2.1, b2.2, none⟩) m c]).run P w =
      .ok (.slice (some ⟨w.heap.size, 0, none⟩) (len + m) (grownCap w (len + m) old E)) (w.drew.alloc (.cells (xs.toArray ++ news.toArray ++ Builtin.zeroCells z.cells (grownCap w (len + m) old E - (len + m))) E)) →
      wpListIn (fw r) 0 P ops Q (⟨some d, .call ⟨.builtin .append, #[x, y], #[t, t]⟩, ty, pos, after, none⟩ :: rest) a w := by
    intro old hold _ hrun
    obtain ⟨f1, f2, f3⟩ := fresh old hold
    refine wpListIn_value (v := .slice (some ⟨w.heap.size, 0, none⟩) (len + m) (grownCap w (len + m) old E)) (w' := w.drew.alloc (.cells (xs.toArray ++ news.toArray ++ Builtin.zeroCells z.cells (grownCap w (len + m) old E - (len + m))) E)) (wanted_none rfl _) (by simp only [execOp, resolve]; simp [invoke, builtin, he.eval hx, hy', hrun]) ?_
    have hh' : HS w0 M own ro w.drew := hh.dropVec.ext hxd
    have hal := heap_alloc_new w.drew (.cells (xs.toArray ++ news.toArray ++ Builtin.zeroCells z.cells (grownCap w (len + m) old E - (len + m))) E (0, 0))
    have hfin := hh'.pushR (Ext.alloc w.drew _) (Nat.le_refl _) hal
    refine h (w.heap.size, 0) (grownCap w (len + m) old E) (Builtin.zeroCells z.cells (grownCap w (len + m) old E - (len + m))).toList ⟨by rw [List.length_append, hv.hlen, hl, Nat.add_mul], by rw [List.length_append]; simpa using f1, f2, f3, by simp, by simp⟩ (.inr (by have := hh.size; simpa using this)) _ _ (he.put hn _) ?_
    have he2 : (xs ++ news ++ (Builtin.zeroCells z.cells (grownCap w (len + m) old E - (len + m))).toList).toArray = xs.toArray ++ news.toArray ++ Builtin.zeroCells z.cells (grownCap w (len + m) old E - (len + m)) := by
      apply Array.toList_inj.1; simp
    simp only [vown, he2]
    exact hfin
  by_cases hroom : len + m ≤ cap
  · cases q with
    | none => have := (hv.hnone rfl).2; omega
    | some p =>
      obtain ⟨gb, o⟩ := p
      have ho := hv.hoff _ rfl
      simp only at ho
      subst ho
      have hg : w.heap[gb]? = some (.cells (xs ++ sp).toArray E (0, 0)) := hh.ownOK (gb, _) (by simp [vown])
      have hcap := hv.hcap
      have hfit : len * ii.size + news.length ≤ (xs ++ sp).toArray.size := by
        rw [hl, List.size_toArray, hcap, ← Nat.add_mul]; exact Nat.mul_le_mul_right _ hroom
      have hrun := run_append_room (P := P) w t ty E ii ht hi1 gb len cap (xs ++ sp).toArray hg ⟨b2.1, b2.2, none⟩ m c news hl hnw h1 hroom hfit
      refine wpListIn_value (wanted_none rfl _) (v := .slice (some ⟨gb, 0, none⟩) (len + m) cap) (w' := w.setRow gb ((xs ++ sp).toArray.toList.take (len * ii.size) ++ news ++ (xs ++ sp).toArray.toList.drop (len * ii.size + news.length)).toArray) (by simp only [execOp, resolve]; simp only [slv, Option.map_some] at hx; simp [invoke, builtin, he.eval hx, hy', hrun]) ?_
      have e1 : (xs ++ sp).toArray.toList.take (len * ii.size) = xs := by rw [← hv.hlen]; simp
      have e2 : (xs ++ sp).toArray.toList.drop (len * ii.size + news.length) = sp.drop news.length := by rw [← hv.hlen]; simp [List.drop_append]
      rw [e1, e2]
      have hl2 : (sp.drop news.length).length = (xs ++ sp).length - (xs ++ news).length := by simp; omega
      refine h (gb, 0) cap (sp.drop news.length) ⟨by rw [List.length_append, hv.hlen, hl, Nat.add_mul], ?_, hroom, hv.hmax, by simp, by simp⟩ (.inl rfl) _ _ (he.put hn _) ?_
      · rw [List.length_append, hl2, hcap]
        simp only [List.size_toArray, hcap] at hfit
        rw [List.length_append, hv.hlen]
        omega
      · have hidx : (own ++ vown E xs sp (some (gb, 0)))[own.length]? = some (gb, .cells (xs ++ sp).toArray E (0, 0)) := by simp [vown]
        refine hh.upd' own.length hidx (Ext.setRow (cs := (xs ++ news ++ sp.drop news.length).toArray)) (setRow_heap w gb _ _ E (0, 0) hg) ?_
        simp [vown]
  · cases q with
    | none =>
      obtain ⟨hl0, hc0⟩ := hv.hnone rfl
      have hx0 : xs = [] := by rw [← List.length_eq_zero_iff, hv.hlen, hl0]; simp
      subst hx0
      subst hl0
      subst hc0
      have hrun := run_append_nil (P := P) w t ty E ii z ht hi1 hi2 ⟨b2.1, b2.2, none⟩ m c news hl hnw hm0 (by omega) (by rw [Nat.zero_add] at hbytes; omega)
      refine grown 0 (by omega) .nilFunc ?_
      simpa [slv] using hrun
    | some p =>
      obtain ⟨gb, o⟩ := p
      have ho := hv.hoff _ rfl
      simp only at ho
      subst ho
      have hg : w.heap[gb]? = some (.cells (xs ++ sp).toArray E (0, 0)) := hh.ownOK (gb, _) (by simp [vown])
      have hrun := run_append_grow (P := P) w t ty E ii z ht hi1 hi2 ⟨gb, 0, none⟩ len cap xs hv.hlen (fun j u hu => by
        rw [addr_add]
        have hj : j < xs.length := (List.getElem?_eq_some_iff.1 hu).1
        have := segOK.at (.of_block hg) (j := j) (v := u) (by simp [List.getElem?_append_left hj, hu])
        simpa using this) ⟨b2.1, b2.2, none⟩ m c news hl hnw (by omega) (by omega) (growslice_fits (by omega) hbytes)
      exact grown cap (by omega) .nilFunc hrun
end rules
end Go.Fw

namespace Go.Fw
open Go
theorem take_drop_get {l vs : List Value} {k : Nat} (hv : (l.drop k).take vs.length = vs) (j : Nat) (hj : j < vs.length) : l[k + j]? = some vs[j] := by
  have h1 : vs[j]? = some vs[j] := List.getElem?_eq_getElem hj
  have h2 : ((l.drop k).take vs.length)[j]? = vs[j]? := congrArg (fun (x : List Value) => x[j]?) hv
  rw [List.getElem?_take, if_pos hj, List.getElem?_drop] at h2
  rw [h2, h1]
section hs
variable {w0 w w' : World} {M : List Nat} {own : List (Nat × Obj)} {ro : List Sg}

theorem HS.cell (h : HS w0 M own ro w) (i : Nat) {b o : Nat} {cs : Array Value} {T : TypeId} {fr : Nat × Nat} {v : Value} (hi : own[i]? = some (b, .cells cs T fr)) (hv : cs.toList[o]? = some v) : w.cell? ⟨b, o, none⟩ = some v := by
  have := h.get i hi
  rw [Array.getElem?_toList] at hv
  simp [World.cell?, this, hv]
theorem HS.cells (h : HS w0 M own ro w) (i : Nat) {b o : Nat} {cs : Array Value} {T : TypeId} {fr : Nat × Nat} {vs : List Value} (hi : own[i]? = some (b, .cells cs T fr)) (hv : (cs.toList.drop o).take vs.length = vs) :
    ∀ j (_ : j < vs.length), w.cell? ⟨b, o + j, none⟩ = some vs[j] := by
  intro j hj
  refine h.cell i hi ?_
  have := take_drop_get hv j hj
  simpa using this
theorem HS.rcell (h : HS w0 M own ro w) (i : Nat) {b o : Nat} {vs : List Value} {v : Value} (j : Nat) (hi : ro[i]? = some (b, o, vs)) (hv : vs[j]? = some v) : w.cell? ⟨b, o + j, none⟩ = some v := (h.seg i hi).at hv
abbrev i64 (n : Int) : Value := .int .i64 n
def ints (l : List Int) : List Value := l.map (Value.int .i64)
@[simp] theorem ints_length (l : List Int) : (ints l).length = l.length := by simp [ints]
theorem ints_get {l : List Int} {j : Nat} (h : j < l.length) : (ints l)[j]? = some (.int .i64 (l.getD j 0)) := by
  simp [ints, List.getD_eq_getElem?_getD, h]
theorem HS.int (h : HS w0 M own ro w) (i : Nat) {b o : Nat} {l : List Int} {j : Nat} (hi : ro[i]? = some (b, o, ints l)) (hj : j < l.length) : w.cell? ⟨b, o + j, none⟩ = some (.int .i64 (l.getD j 0)) := h.rcell i j hi (ints_get hj)

def flat {α : Type} (enc : α → List Value) (l : List α) : List Value := l.flatMap enc
theorem flat_get {α : Type} [Inhabited α] {enc : α → List Value} {sz : Nat} (hs : ∀ x, (enc x).length = sz) : ∀ (l : List α) (j f : Nat), j < l.length → f < sz → (flat enc l)[j * sz + f]? = (enc (l.getD j default))[f]?
  | [], j, f, h, _ => by simp at h
  | x :: l, 0, f, _, hf => by
    have : flat enc (x :: l) = enc x ++ flat enc l := rfl
    rw [this]
    simp only [Nat.zero_mul, Nat.zero_add, List.getD_cons_zero]
    rw [List.getElem?_append_left (by rw [hs]; exact hf)]
  | x :: l, j + 1, f, h, hf => by
    have h1 : flat enc (x :: l) = enc x ++ flat enc l := rfl
    have ih := flat_get hs l j f (by simpa using h) hf
    rw [h1, List.getElem?_append_right (by rw [hs, Nat.add_mul]; omega), hs]
    rw [show (j + 1) * sz + f - sz = j * sz + f by rw [Nat.add_mul]; omega, ih]
    simp
theorem HS.elem {α : Type} [Inhabited α] {enc : α → List Value} {sz : Nat} (hs : ∀ x, (enc x).length = sz) (h : HS w0 M own ro w) (i : Nat) {b o : Nat} {l : List α} {j : Nat} (hi : ro[i]? = some (b, o, flat enc l)) (hj : j < l.length) :
    ∀ k (_ : k < (enc (l.getD j default)).length), w.cell? ⟨b, o + j * sz + k, none⟩ = some (enc (l.getD j default))[k] := by
  intro k hk
  rw [Nat.add_assoc]
  exact h.rcell i (j * sz + k) hi (by rw [flat_get hs l j k hj (by rwa [hs] at hk)]; exact List.getElem?_eq_getElem hk)

theorem HS.pick (h : HS w0 M own ro w) {own' : List (Nat × Obj)} (idx : List Nat) (hn : idx.Nodup) (hi : idx.map (fun i => own[i]?) = own'.map some) : HS w0 M own' ro w := by
  have hmem : ∀ p, p ∈ own' → p ∈ own := by
    intro p hp
    have : some p ∈ idx.map (fun i => own[i]?) := by rw [hi]; exact List.mem_map_of_mem hp
    obtain ⟨i, _, he⟩ := List.mem_map.1 this
    exact List.mem_of_getElem? he
  refine ⟨h.os, h.tape, h.output, h.size, h.old, fun p hp => h.ownOK p (hmem p hp), fun p hp => h.new p (hmem p hp), ?_, h.roOK, fun s hs hn' hm => ?_⟩
  · have key : ∀ (idx : List Nat) (own' : List (Nat × Obj)), idx.Nodup → idx.map (fun i => own[i]?) = own'.map some → (own'.map (·.1)).Nodup := by
      intro idx
      induction idx with
      | nil => intro own' _ he; cases own' with | nil => simp | cons _ _ => simp at he
      | cons i idx ih =>
        intro own' hn he
        cases own' with
        | nil => simp at he
        | cons p own' =>
          simp only [List.map_cons, List.cons.injEq] at he
          rw [List.nodup_cons] at hn
          rw [List.map_cons, List.nodup_cons]
          refine ⟨fun hm => ?_, ih own' hn.2 he.2⟩
          obtain ⟨q, hq, hqe⟩ := List.mem_map.1 hm
          have : some q ∈ idx.map (fun i => own[i]?) := by rw [he.2]; exact List.mem_map_of_mem hq
          obtain ⟨k, hk, hke⟩ := List.mem_map.1 this
          have := nodup_key h.nodup hke he.1 hqe
          subst this
          exact hn.1 hk
    exact key idx own' hn hi
  · obtain ⟨p, hp, he⟩ := List.mem_map.1 hm
    exact h.sep s hs hn' (List.mem_map.2 ⟨p, hmem p hp, he⟩)
end hs
section rules
variable {n : Nat} {ds : List Deferred} {e : EnvL} {P : Program} {F : Fence} {r : Option Nat} {Q : Exit → Act → World → Prop} {ops : Array Oper} {w0 : World} {M : List Nat} {own : List (Nat × Obj)} {ro : List Sg}
theorem Z2 {rest : List Oper} {d : Nat} {t E : TypeId} {i : TypeInfo} {z : Value} {sz bytes l c : Nat} {x y : Operand} {k1 k2 : IntKind} {m1 m2 : Int} {ty : TypeId} {pos : String} {after : Array Edge}
    (ht : P.underlying t = some (.slice E)) (hi : P.info? E = some i) (hiz : i.zero = some z) (his : i.size = sz) (hib : i.bytes = bytes) (hx : ev e x = some (.int k1 m1)) (hy : ev e y = some (.int k2 m2)) (h1 : m1 = (l : Int)) (h2 : m2 = (c : Int)) (hlc : l ≤ c) (hb : bytes * c ≤ 281474976710656) (hc : c ≤ 9223372036854775807) (hn : Nat.blt d n = true)
    (h : ∀ b, w0.heap.size ≤ b → G n ds ((d, slv (some (b, 0)) l c) :: e) (HS w0 M ((b, .cells (madeCells z.cells (c * sz)) E (0, 0)) :: own) ro) (wpListIn (fw r) 0 P ops Q rest)) :
    G n ds e (HS w0 M own ro) (wpListIn (fw r) 0 P ops Q (⟨some d, .makeSlice t x y, ty, pos, after, none⟩ :: rest)) := by
  subst his; subst hib
  exact jae (.cells (madeCells z.cells (c * i.size)) E (0, 0)) (fun b => slv (some (b, 0)) l c) rfl rfl hn (fun a w he _ => by
    have hb' : (i.bytes : Int) * (c : Int) ≤ 281474976710656 := by
      have h : ((i.bytes * c : Nat) : Int) ≤ 281474976710656 := by omega
      rwa [Int.natCast_mul] at h
    have := run_make (P := P) w t E i z ht hi hiz k1 k2 (l : Int) (c : Int) (by omega) (by omega) hb' (by omega)
    simp only [Int.toNat_natCast] at this
    simp [execOp, he.eval hx, he.eval hy, h1, h2, this, slv]) h
end rules
end Go.Fw
namespace Go.Fw
open Go
section more
variable {n : Nat} {ds : List Deferred} {e : EnvL} {P : Program} {r : Option Nat} {Q : Exit → Act → World → Prop} {ops : Array Oper} {w0 : World} {M : List Nat} {own : List (Nat × Obj)} {ro : List Sg}
end more
end Go.Fw
namespace Go.Fw
open Go
def u8s (l : List Int) : List Value := l.map (Value.int .u8)
theorem HS.u8 {w0 w : World} {M : List Nat} {own : List (Nat × Obj)} {ro : List Sg} (h : HS w0 M own ro w) (i : Nat) {b o : Nat} {l : List Int} {j : Nat} (hi : ro[i]? = some (b, o, u8s l)) (hj : j < l.length) : w.cell? ⟨b, o + j, none⟩ = some (.int .u8 (l.getD j 0)) :=
  h.rcell i j hi (by simp [u8s, List.getD_eq_getElem?_getD, hj])
theorem and_bound (x : BitVec 32) (m : Int) (hm : m = 32767) : 0 ≤ IntKind.i64.wrap (IntKind.u32.wrap (x &&& BitVec.ofInt 32 m).toNat) ∧ IntKind.i64.wrap (IntKind.u32.wrap (x &&& BitVec.ofInt 32 m).toNat) ≤ 32767 := by
  subst hm
  have h1 : (x &&& BitVec.ofInt 32 32767).toNat ≤ 32767 := by
    rw [BitVec.toNat_and]
    exact Nat.le_trans Nat.and_le_right (by decide)
  generalize (x &&& BitVec.ofInt 32 32767).toNat = y at h1
  have h2 : IntKind.u32.wrap (y : Int) = y := by
    have : (2:Int)^32 = 4294967296 := by decide
    simp only [IntKind.wrap, IntKind.signed, IntKind.bits]
    simp
    omega
  rw [h2, wrap_i64 (by omega)]
  omega
end Go.Fw

namespace Go.Fw
open Go
theorem Zo {n : Nat} {ds : List Deferred} {e : EnvL} {H : World → Prop} {X : Act → World → Prop} {p : Prop} (hp : ∀ w, H w → p) (h : p → G n ds e H X) : G n ds e H X := fun a w he hh => h (hp w hh) a w he hh
end Go.Fw

namespace Go.Fw
open Go

theorem putObj_ext {w : World} {b : Nat} {o : Obj} : Ext [b] w (w.putObj b o) := ⟨rfl, rfl, rfl, by simp, fun k _ hk => World.putObj_heap_other (by simpa using hk)⟩
theorem HS.put {w0 w : World} {M : List Nat} {own own' : List (Nat × Obj)} {ro : List Sg} (h : HS w0 M own ro w) (i : Nat) {b : Nat} {o : Obj} (o' : Obj) (hi : own[i]? = some (b, o)) (he : own.set i (b, o') = own') : HS w0 M own' ro (w.putObj b o') :=
  h.upd' i hi putObj_ext (World.putObj_heap_same (h.lt (List.mem_of_getElem? hi))) he
theorem HS.perm {w0 w : World} {M : List Nat} {own own' : List (Nat × Obj)} {ro : List Sg} (h : HS w0 M own ro w) (hp : own.Perm own') : HS w0 M own' ro w :=
  ⟨h.os, h.tape, h.output, h.size, h.old, fun p hq => h.ownOK p (hp.mem_iff.2 hq), fun p hq => h.new p (hp.mem_iff.2 hq), (hp.map _).nodup_iff.1 h.nodup, h.roOK,
   fun s hs hn hm => h.sep s hs hn ((hp.map _).mem_iff.2 hm)⟩
theorem HS.dropN {w0 w : World} {M : List Nat} {own own' : List (Nat × Obj)} {ro : List Sg} (h : HS w0 M own ro w) (k : Nat) (hk : own.drop k = own') : HS w0 M own' ro w := by subst hk; exact h.drop (List.drop_sublist k own)

def lrec (fn : FuncId) (tmps : Array Value) (ps : Array Tmp) (assign body : Code) (D : Nat) (st : LoopState) (pe : Option Code) : Obj := .loop { state := st, pending := pe, fn, tmps, params := ps, assign, body, defers := D }
def mark (D : Nat) : Deferred := { target := .collected D, args := #[] }

section
variable {n : Nat} {ds : List Deferred} {e : EnvL} {P : Program} {r : Option Nat} {Q : Exit → Act → World → Prop} {ops : Array Oper} {w0 : World} {M : List Nat} {own : List (Nat × Obj)} {ro : List Sg}

def YieldOK (P : Program) (l : Nat) (args : List Value) (w : World) (R : Ending → World → Prop) : Prop :=
  ∃ fn tmps assign body, (Instr.yield l args.toArray).run P w = .ok (.round l fn tmps assign body) w ∧ RoundIn Fence.wide 0 P l fn tmps assign body w R
theorem YieldOK.mono {l : Nat} {args : List Value} {w : World} {R R' : Ending → World → Prop} (h : YieldOK P l args w R) (hr : ∀ e w', R e w' → R' e w') : YieldOK P l args w R' := by
  obtain ⟨fn, tmps, assign, body, h1, h2⟩ := h
  exact ⟨fn, tmps, assign, body, h1, h2.mono hr⟩
theorem jax {ι : Type} {H : World → Prop} {o : Oper} {rest : List Oper} {d : Nat} {H' : ι → World → Prop} {ret : ι → Value} {l : Nat} {x : Operand} {xs : List Operand} {ts : Array TypeId} {vs : List Value}
    (ho : o.op = .call ⟨.value x, xs.toArray, ts⟩) (hd : o.dst = some d) (hg : ∀ a, Env n ds e a → Region.wanted o (yielded ops a.tmps) = true) (hn : Nat.blt d n = true)
    (hx : ev e x = some (.func (.yield l) #[] #[])) (hxs : evs e xs = some vs)
    (hc : ∀ w, H w → YieldOK P l vs w (fun en w' => ∃ i, en = .returned (ret i) ∧ H' i w'))
    (h : ∀ i, G n ds ((d, ret i) :: e) (H' i) (wpListIn (fw r) 0 P ops Q rest)) : G n ds e H (wpListIn (fw r) 0 P ops Q (o :: rest)) := fun a w he hh => by
  have hw := hg a he
  obtain ⟨dst, op, ty, pos, after, guard⟩ := o
  simp only at ho hd
  subst ho hd
  have h1 := he.eval hx
  have h2 := he.evals hxs
  obtain ⟨fn, tmps, assign, body, hy, hR⟩ := hc w hh
  unfold wpListIn
  rw [if_pos hw]
  refine ⟨fun _ _ => trivial, ?_⟩
  have hsem : (Oper.semAt (fw r).round a.eval ⟨some d, .call ⟨.value x, xs.toArray, ts⟩, ty, pos, after, guard⟩).run P w = .ok (.round l fn tmps assign body) w := by
    rw [Oper.semAt_eq _ _ _ (by simp)]
    simp [execOp, resolve, Deferred.ofValue, h1, h2, invoke, hy]
  rw [hsem]
  refine ⟨fun hh => by simp [fw] at hh, RoundIn.mono (F := fw r) (n := 0) (show RoundIn (fw r) 0 P l fn tmps assign body w _ from hR) ?_⟩
  rintro en w' ⟨i, rfl, hi⟩
  exact h i _ _ (he.put hn _) hi

theorem Yy {f : FuncId} {fn : Func} {c : Code} {args : List Value} {w : World} {R : Ending → World → Prop} {e : EnvL} {H : World → Prop}
    (hf : P.funcs[f]? = some fn) (hb : fn.body = some c) (hn : fn.ntmps = n) (hl : Nat.ble args.length n = true) (he : argEnv 0 args = e) (hh : H w)
    (h : G n [] e H (c.wpIn (fw none) 0 P (bodyPostM (fw none) 0 P fn R))) : Calls P f args.toArray w R := by
  refine callsIn_fw (r := none) (n := 0).1 (callsIn_of_wp_marks hf hb trivial ?_ rfl)
  subst he
  refine h _ w ⟨by simp at hl; simp [hn]; omega, rfl, fun t v ht => ?_⟩ hh
  obtain ⟨_, h2⟩ := lk_argEnv args 0 t v ht
  simp only [Nat.sub_zero] at h2
  have : t < args.length := (List.getElem?_eq_some_iff.1 h2).1
  rw [Array.getElem?_append_left (by simpa using this)]
  simpa using h2
inductive ResT (e : EnvL) : List ResultVar → List Value → Prop
  | nil : ResT e [] []
  | tmp {t : Nat} {v : Value} {rs : List ResultVar} {vs : List Value} (h : lk e t = some v) (hr : ResT e rs vs) : ResT e (.tmp t :: rs) (v :: vs)
theorem ResT.ok {rs : List ResultVar} {vs : List Value} (h : ResT e rs vs) (w : World) : ResOK P e w rs vs := by
  induction h with
  | nil => exact .nil
  | tmp h _ ih => exact .tmp h ih
theorem leaves_marks {fn : Func} {tmps : Array Value} {R : Ending → World → Prop} : ∀ (Ds : List Nat) (own : List (Nat × Obj)) (w : World), HS w0 M (Ds.map (fun D => (D, Obj.deferred (some []))) ++ own) ro w →
    (∀ w', HS w0 M own ro w' → ∃ v, (results fn tmps).run P w' = .ok v w' ∧ R (.returned v) w') → LeavesInM (fw none) 0 P fn tmps R (Ds.map mark) .returning w
  | [], own, w, hh, h => h w hh
  | D :: Ds, own, w, hh, h => by
    refine ⟨by simp, .inl ⟨D, _, rfl, run_takeDeferred (hh.get 0 rfl), ?_⟩⟩
    exact leaves_marks Ds own _ ((hh.put 0 (.deferred none) rfl rfl).dropN 1 rfl) h
end
end Go.Fw
namespace Go.Fw
open Go
structure Fresh (w w' : World) (L : List (Nat × Obj)) : Prop where
  ext : Ext [] w w'
  new : ∀ p, p ∈ L → w.heap.size ≤ p.1
  get : ∀ p, p ∈ L → w'.heap[p.1]? = some p.2
  nodup : (L.map (·.1)).Nodup
theorem HS.fresh {w0 w w' : World} {M : List Nat} {own L : List (Nat × Obj)} {ro : List Sg} (h : HS w0 M own ro w) (hf : Fresh w w' L) : HS w0 M (L ++ own) ro w' := by
  have h' := h.ext hf.ext
  refine ⟨h'.os, h'.tape, h'.output, h'.size, h'.old, fun p hp => ?_, fun p hp => ?_, ?_, h'.roOK, fun s hs hn hm => ?_⟩
  · rcases List.mem_append.1 hp with hp | hp
    · exact hf.get p hp
    · exact h'.ownOK p hp
  · rcases List.mem_append.1 hp with hp | hp
    · exact .inl (Nat.le_trans h.size (hf.new p hp))
    · exact h'.new p hp
  · rw [List.map_append, List.nodup_append]
    refine ⟨hf.nodup, h.nodup, fun a ha b hb he => ?_⟩
    obtain ⟨p, hp, rfl⟩ := List.mem_map.1 ha
    obtain ⟨q, hq, rfl⟩ := List.mem_map.1 hb
    have h1 := hf.new p hp
    have h2 := h.lt hq
    omega
  · rw [List.map_append] at hm
    rcases List.mem_append.1 hm with hm | hm
    · obtain ⟨p, hp, he⟩ := List.mem_map.1 hm
      have h1 := hf.new p hp
      have h2 := (h.roOK s hs).lt hn
      omega
    · exact h.sep s hs hn hm
theorem HS.swap {w0 w : World} {M : List Nat} {A B C : List (Nat × Obj)} {ro : List Sg} (h : HS w0 M (A ++ (B ++ C)) ro w) : HS w0 M (B ++ (A ++ C)) ro w :=
  h.perm (by rw [← List.append_assoc, ← List.append_assoc]; exact List.perm_append_comm.append_right C)
section
variable {n : Nat} {ds : List Deferred} {e : EnvL} {P : Program} {w0 : World} {M : List Nat} {own : List (Nat × Obj)} {ro : List Sg}
end
end Go.Fw
namespace Go.Fw
open Go
def yenv : List Nat → List Value → EnvL → EnvL
  | p :: ps, v :: vs, e => yenv ps vs ((p, v) :: e)
  | _, _, e => e
theorem yenv_ok {n : Nat} : ∀ (ps : List Nat) (vs : List Value) (e : EnvL) (tmps : Array Value), ps.length = vs.length → (∀ p ∈ ps, p < n) → Env n [] e ⟨tmps, []⟩ → Env n [] (yenv ps vs e) ⟨(ps.zip vs).foldl (fun t (x : Nat × Value) => t.setIfInBounds x.1 x.2) tmps, []⟩
  | [], [], e, tmps, _, _, h => h
  | p :: ps, v :: vs, e, tmps, hl, hp, h => yenv_ok ps vs ((p, v) :: e) (tmps.setIfInBounds p v) (by simpa using hl) (fun q hq => hp q (List.mem_cons_of_mem _ hq)) (h.put (by simpa using hp p List.mem_cons_self) v)
  | [], _ :: _, _, _, hl, _, _ => by simp at hl
  | _ :: _, [], _, _, hl, _, _ => by simp at hl
section
variable {n : Nat} {ds : List Deferred} {e : EnvL} {P : Program} {Q : Exit → Act → World → Prop} {w0 : World} {M : List Nat} {own : List (Nat × Obj)} {ro : List Sg}
end
end Go.Fw

namespace Go.Fw
open Go
section
variable {P : Program}
theorem part_one {T : TypeId} {cs : Array Value} {o : Nat} {v : Value} {w : World} (hg : (isAgg T).run P w = .ok false w) (hv : cs[o]? = some v) : (part T cs o).run P w = .ok v w := by
  simp [part, hg, hv]
inductive EqF (P : Program) (xs ys : Array Value) : List Field → Bool → Prop
  | nil : EqF P xs ys [] true
  | int {f : Field} {fs : List Field} {k : IntKind} {a c : Int} {b : Bool} (hn : (f.name == "_") = false) (hg : ∀ w, (isAgg f.type).run P w = .ok false w) (hu : ∃ k', P.underlying f.type = some (.int k')) (hx : xs[f.offset]? = some (.int k a)) (hy : ys[f.offset]? = some (.int k c)) (h : EqF P xs ys fs b) : EqF P xs ys (f :: fs) (decide (a = c) && b)
  | bool {f : Field} {fs : List Field} {a c : Bool} {b : Bool} (hn : (f.name == "_") = false) (hg : ∀ w, (isAgg f.type).run P w = .ok false w) (hu : P.underlying f.type = some .bool) (hx : xs[f.offset]? = some (.bool a)) (hy : ys[f.offset]? = some (.bool c)) (h : EqF P xs ys fs b) : EqF P xs ys (f :: fs) (decide (a = c) && b)
theorem EqF.run {xs ys : Array Value} {fs : List Field} {b : Bool} (h : EqF P xs ys fs b) (d : Nat) (w : World) : (Op.eqFields (d + 1) xs ys fs).run P w = .ok b w := by
  induction h with
  | nil => rfl
  | @int f fs k a c b hn hg hu hx hy h ih =>
    obtain ⟨k', hu⟩ := hu
    have hn' : f.name ≠ "_" := by simpa using hn
    simp only [Op.eqFields, hn', ne_eq, not_false_eq_true, if_true, Sem.run_bind, part_one (hg w) hx, part_one (hg w) hy, Result.andThen_ok, Go.run_equalIn_int w d f.type k k' a c hu, Sem.run_ite]
    by_cases he : a = c
    · subst he; simp [ih]
    · simp [he]
  | @bool f fs a c b hn hg hu hx hy h ih =>
    have hn' : f.name ≠ "_" := by simpa using hn
    simp only [Op.eqFields, hn', ne_eq, not_false_eq_true, if_true, Sem.run_bind, part_one (hg w) hx, part_one (hg w) hy, Result.andThen_ok, run_equalIn_bool' w d f.type a c hu, Sem.run_ite]
    by_cases he : a = c
    · subst he; simp [ih]
    · simp [he]
theorem equal_struct {t : TypeId} {fs : Array Field} {xs ys : Array Value} {b : Bool} (hu : P.underlying t = some (.struct fs)) (hp : P.stoodInHeld t = false) (h : EqF P xs ys fs.toList b) (w : World) : (Op.equalIn 10000 t (.agg xs) (.agg ys)).run P w = .ok b w := by
  have hf : P.fieldsOf t = fs := by simp [Program.fieldsOf, hu]
  rw [show (10000 : Nat) = 9999 + 1 from rfl, run_equalIn_agg w 9999 t xs ys (by rw [hf]; exact hu) hp, hf]
  exact h.run 9998 w
theorem equal_ints_at {t e : TypeId} {n d : Nat} (hu : P.underlying t = some (.array n e)) (hz : ∀ w, (sizeOf e).run P w = .ok 1 w) (hg : ∀ w, (isAgg e).run P w = .ok false w) (he : P.underlying e = some (.int .i64)) {a c : List Int} (ha : a.length = n) (hc : c.length = n) (w : World) :
    (Op.equalIn (d + 2) t (.agg (ints a).toArray) (.agg (ints c).toArray)).run P w = .ok (decide (a = c)) w := by
  rw [Op.equalIn]
  simp only [Sem.run_bind, run_underlying hu, Result.andThen_ok, hz]
  simp only [Std.Legacy.Range.forIn_eq_forIn_range', Std.Legacy.Range.size, Nat.sub_zero, Nat.add_one_sub_one, Nat.div_one]
  have gen : ∃ j k, j + k = n ∧ List.range' 0 n = List.range' j k ∧ decide (a = c) = decide (a.drop j = c.drop j) := ⟨0, n, by omega, rfl, by simp⟩
  obtain ⟨j, k, hj, h1, h2⟩ := gen
  rw [h1, h2]
  clear h1 h2
  induction k generalizing j with
  | zero =>
    have h1 : a.drop j = [] := List.drop_eq_nil_of_le (by omega)
    have h2 : c.drop j = [] := List.drop_eq_nil_of_le (by omega)
    simp [h1, h2]
  | succ k ih =>
    have hja : j < a.length := by omega
    have hjc : j < c.length := by omega
    have h1 : (ints a).toArray[j * 1]? = some (.int .i64 a[j]) := by simp [ints, hja]
    have h2 : (ints c).toArray[j * 1]? = some (.int .i64 c[j]) := by simp [ints, hjc]
    simp only [List.range'_succ, List.forIn_cons, Sem.run_bind, part_one (hg w) h1, part_one (hg w) h2, Result.andThen_ok, Go.run_equalIn_int w d e .i64 .i64 a[j] c[j] he]
    have h3 := List.drop_eq_getElem_cons hja
    have h4 := List.drop_eq_getElem_cons hjc
    by_cases hq : a[j] = c[j]
    · have := ih (j + 1) (by omega)
      simp only [hq, beq_self_eq_true, Bool.not_true, Bool.false_eq_true, if_false, Sem.run_pure, Result.andThen_ok]
      rw [this]
      congr 1
      rw [decide_eq_decide, h3, h4, hq]
      simp only [List.cons.injEq, true_and]
    · have hb : (a[j] == c[j]) = false := by simpa using hq
      have hd : decide (a.drop j = c.drop j) = false := by
        rw [h3, h4]; simp only [List.cons.injEq, hq, false_and, decide_false]
      simp [hb, hd]
variable {e : EnvL} {w : World} {dst : Option Nat} {ty : TypeId} {pos : String} {after : Array Edge} {g : Option (Nat × Bool)}
theorem Z7 {t u : TypeId} {x y : Operand} {xs ys : Array Value} {b : Bool} (hq : (Op.equalIn 10000 t (.agg xs) (.agg ys)).run P w = .ok b w) (hm : P.eqGuardType P.depth t = false) (hx : ev e x = some (.agg xs)) (hy : ev e y = some (.agg ys)) :
    Val P e w ⟨dst, .binOp .eql t x y u, ty, pos, after, g⟩ (.bool b) := fun n ds a he => by
  have h1 := run_eqGuard_agg (P := P) w .eql t x y xs ys hm
  have h2 := run_eql_struct (P := P) w t xs ys
  rw [hq] at h2
  simp only [execOp, he.eval hx, he.eval hy, Sem.run_bind, h1, Result.andThen_ok, h2, Sem.run_pure]
theorem jaA {t u : TypeId} {x y : Operand} {xs ys : Array Value} {b : Bool} (hq : (Op.equalIn 10000 t (.agg xs) (.agg ys)).run P w = .ok b w) (hm : P.eqGuardType P.depth t = false) (hx : ev e x = some (.agg xs)) (hy : ev e y = some (.agg ys)) :
    Val P e w ⟨dst, .binOp .neq t x y u, ty, pos, after, g⟩ (.bool (!b)) := fun n ds a he => by
  have h1 := run_eqGuard_agg (P := P) w .neq t x y xs ys hm
  have h2 := run_neq_struct (P := P) w t xs ys
  rw [hq] at h2
  simp only [execOp, he.eval hx, he.eval hy, Sem.run_bind, h1, Result.andThen_ok, h2, Sem.run_pure]
end
end Go.Fw

namespace Go.Fw
open Go
structure News (w w' : World) (S : List Sg) : Prop where
  ext : Ext [] w w'
  ok : ∀ s, s ∈ S → segOK w' s
  new : ∀ s, s ∈ S → s.2.2 ≠ [] → w.heap.size ≤ s.1
theorem News.nil {w w' : World} (h : Ext [] w w') : News w w' [] := ⟨h, fun s hs => (by cases hs), fun s hs => (by cases hs)⟩
theorem News.cons {w w' : World} {s : Sg} {S : List Sg} (h : News w w' S) (h1 : segOK w' s) (h2 : s.2.2 ≠ [] → w.heap.size ≤ s.1) : News w w' (s :: S) :=
  ⟨h.ext, fun t ht => by rcases List.mem_cons.1 ht with rfl | ht; exact h1; exact h.ok t ht, fun t ht => by rcases List.mem_cons.1 ht with rfl | ht; exact h2; exact h.new t ht⟩
theorem HS.news {w0 w w' : World} {M : List Nat} {own : List (Nat × Obj)} {ro S : List Sg} (h : HS w0 M own ro w) (hn : News w w' S) : HS w0 M own (S ++ ro) w' := by
  have h' := h.ext hn.ext
  refine ⟨h'.os, h'.tape, h'.output, h'.size, h'.old, h'.ownOK, h'.new, h'.nodup, fun s hs => ?_, fun s hs hne hm => ?_⟩
  · rcases List.mem_append.1 hs with hs | hs
    · exact hn.ok s hs
    · exact h'.roOK s hs
  · rcases List.mem_append.1 hs with hs | hs
    · obtain ⟨p, hp, he⟩ := List.mem_map.1 hm
      have h1 := hn.new s hs hne
      have h2 := h.lt hp
      omega
    · exact h'.sep s hs hne hm
section
variable {n : Nat} {ds : List Deferred} {e : EnvL} {P : Program} {r : Option Nat} {Q : Exit → Act → World → Prop} {ops : Array Oper} {w0 : World} {M : List Nat} {own : List (Nat × Obj)} {ro : List Sg}
theorem jaK {X : Act → World → Prop} {own' : List (Nat × Obj)} (hp : own.Perm own') (h : G n ds e (HS w0 M own' ro) X) : G n ds e (HS w0 M own ro) X := h.pre fun _ hh => hh.perm hp
theorem perm_mid {α : Type} (A B C : List α) : (A ++ (B ++ C)).Perm ((A ++ C) ++ B) := by
  rw [List.append_assoc]; exact List.Perm.append_left A List.perm_append_comm
theorem jap (A : List (Nat × Obj)) {C : List (Nat × Obj)} {rest : List Oper} {d : Nat} {t ty E : TypeId} {x y : Operand} {z : Value} {sz bytes len cap m c : Nat} {xs sp news : List Value} {q q2 : Option (Nat × Nat)} {pos : String} {after : Array Edge}
    (ht : P.underlying t = some (.slice E)) (hi : (P.info? E).map (fun i => (i.zero, i.size, i.bytes)) = some (some z, sz, bytes)) (hz : z.cells.size = sz)
    (hx : ev e x = some (slv q len cap)) (hy : ev e y = some (slv q2 m c)) (hv : VOK sz len cap xs sp q) (hq2 : q2 ≠ none) (hm0 : 0 < m) (hl : news.length = m * sz) (hnews : ∀ w, HS w0 M (A ++ (vown E xs sp q ++ C)) ro w → segOK w (bk q2, off q2, news)) (h1 : ∀ u ∈ news, u.oneCell' = true)
    (h63 : len + m ≤ maxLen) (hbytes : (len + m) * bytes ≤ 140737488355328) (hn : Nat.blt d n = true)
    (h : ∀ q' cap' sp', VOK sz (len + m) cap' (xs ++ news) sp' (some q') → G n ds ((d, slv (some q') (len + m) cap') :: e) (HS w0 M (A ++ (vown E (xs ++ news) sp' (some q') ++ C)) ro) (wpListIn (fw r) 0 P ops Q rest)) :
    G n ds e (HS w0 M (A ++ (vown E xs sp q ++ C)) ro) (wpListIn (fw r) 0 P ops Q (⟨some d, .call ⟨.builtin .append, #[x, y], #[t, t]⟩, ty, pos, after, none⟩ :: rest)) := by
  refine jaK (perm_mid A _ C) ?_
  refine jau (own := A ++ C) ht hi hz hx hy hv hq2 hm0 hl (fun w hh => hnews w (hh.perm (perm_mid A _ C).symm)) h1 h63 hbytes hn (fun q' cap' sp' hv' _ => ?_)
  exact jaK (perm_mid A _ C).symm (h q' cap' sp' hv')
theorem VOK.noneNil {sz len cap : Nat} {xs sp : List Value} {q : Option (Nat × Nat)} (h : VOK sz len cap xs sp q) : q = none → xs = [] := fun hq => by
  have h1 := (h.hnone hq).1
  rw [← List.length_eq_zero_iff, h.hlen, h1, Nat.zero_mul]
end
end Go.Fw
namespace Go.Fw
open Go
section
variable {n : Nat} {ds : List Deferred} {e : EnvL} {P : Program} {F : Fence} {Q : Exit → Act → World → Prop} {w0 : World} {M : List Nat} {own : List (Nat × Obj)} {ro : List Sg}
end
theorem Fresh.news {w w' : World} {L : List (Nat × Obj)} {b : Nat} {cs : Array Value} {T : TypeId} {fr : Nat × Nat} (h : Fresh w w' L) (i : Nat) (hi : L[i]? = some (b, .cells cs T fr)) : News w w' [(b, 0, cs.toList)] :=
  (News.nil h.ext).cons (segOK.of_block (h.get _ (List.mem_of_getElem? hi))) (fun _ => h.new _ (List.mem_of_getElem? hi))
end Go.Fw
namespace Go.Fw
end Go.Fw

namespace Go.Fw
open Go
def mfind : List (Int × Value) → Int → Nat → Option (Nat × Value)
  | [], _, _ => none
  | (k', v) :: r, k, i => if k = k' then some (i, v) else mfind r k (i + 1)
def mget (l : List (Int × Value)) (k : Int) : Option Value := (mfind l k 0).map (·.2)
section
variable {P : Program} {e : EnvL} {w : World} {dst : Option Nat} {ty : TypeId} {pos : String} {after : Array Edge} {g : Option (Nat × Bool)}
end
section
variable {n : Nat} {ds : List Deferred} {e : EnvL} {P : Program} {r : Option Nat} {Q : Exit → Act → World → Prop} {ops : Array Oper} {w0 : World} {M : List Nat} {own : List (Nat × Obj)} {ro : List Sg}
end
end Go.Fw

namespace Go.Fw
open Go
theorem HS.replace {w0 w : World} {M : List Nat} {own : List (Nat × Obj)} {ro : List Sg} {b : Nat} {o : Obj} (k : Nat) (hk : k < own.length) (h : HS w0 M ((b, o) :: own) ro w) : HS w0 M (own.set k (b, o)) ro w := by
  have hs : own.set k (b, o) = own.take k ++ (b, o) :: own.drop (k + 1) := List.set_eq_take_append_cons_drop.trans (if_pos hk)
  have ho : own = own.take k ++ own[k] :: own.drop (k + 1) := by simp
  rw [hs]
  have hp : ((b, o) :: own).Perm (own[k] :: (own.take k ++ (b, o) :: own.drop (k + 1))) := by
    conv => lhs; rw [ho]
    refine (List.Perm.cons _ List.perm_middle).trans ?_
    refine (List.Perm.swap _ _ _).trans ?_
    exact List.Perm.cons _ List.perm_middle.symm
  exact (h.perm hp).dropN 1 rfl
section
variable {n : Nat} {ds : List Deferred} {e : EnvL} {P : Program} {r : Option Nat} {Q : Exit → Act → World → Prop} {ops : Array Oper} {w0 : World} {M : List Nat} {own : List (Nat × Obj)} {ro : List Sg}
end
end Go.Fw
namespace Go.Fw
open Go
section
variable {n : Nat} {ds : List Deferred} {e : EnvL} {P : Program} {r : Option Nat} {Q : Exit → Act → World → Prop} {ops : Array Oper} {w0 : World} {M : List Nat} {own : List (Nat × Obj)} {ro : List Sg}
end
end Go.Fw

namespace Go.Fw
open Go
section
variable {n : Nat} {e : EnvL} {H : World → Prop} {P : Program} {F : Fence} {Q : Exit → Act → World → Prop}
theorem jaU {ι : Type} {kept : EnvL} {c : Code} (m : ι → EnvL) (Inv : ι → World → Prop) (μ : ι → Nat) (ds : ι → List Deferred) (i0 : ι) (h0 : ∀ w, H w → Inv i0 w)
    (round : ∀ i, G n (ds i) (m i ++ kept) (Inv i) (c.wpIn F 0 P (thenQ (fun a' w' => ∃ j, Env n (ds j) (m j ++ kept) a' ∧ Inv j w' ∧ μ j < μ i) Q))) :
    G n (ds i0) (m i0 ++ kept) H ((Code.loop c).wpIn F 0 P Q) := by
  intro a w he hh
  have key : ∀ k i a w, μ i = k → Env n (ds i) (m i ++ kept) a → Inv i w → (Code.loop c).wpIn F 0 P Q a w := by
    intro k i a w hk ha hi
    refine wpIn_loop (fun a w => ∃ i, Env n (ds i) (m i ++ kept) a ∧ Inv i w) (fun a w => @dite Nat (∃ k, ∃ i, Env n (ds i) (m i ++ kept) a ∧ Inv i w ∧ μ i = k) (Classical.propDecidable _) (fun h => Classical.choose (p := fun k => (∃ i, Env n (ds i) (m i ++ kept) a ∧ Inv i w ∧ μ i = k) ∧ ∀ j, (∃ i, Env n (ds i) (m i ++ kept) a ∧ Inv i w ∧ μ i = j) → k ≤ j) (by
        obtain ⟨k, hk⟩ := h
        induction k using Nat.strongRecOn with
        | _ k ih =>
          by_cases hs : ∃ j, j < k ∧ ∃ i, Env n (ds i) (m i ++ kept) a ∧ Inv i w ∧ μ i = j
          · obtain ⟨j, hj, hji⟩ := hs; exact ih j hj hji
          · exact ⟨k, hk, fun j hj => Nat.le_of_not_lt fun hlt => hs ⟨j, hlt, hj⟩⟩)) (fun _ => 0)) ⟨i, ha, hi⟩ ?_
    rintro a w ⟨i, ha, hi⟩
    -- take the least ghost
    have hex : ∃ k, ∃ i, Env n (ds i) (m i ++ kept) a ∧ Inv i w ∧ μ i = k := ⟨_, i, ha, hi, rfl⟩
    have hmin : ∀ a w (hx : ∃ k, ∃ i, Env n (ds i) (m i ++ kept) a ∧ Inv i w ∧ μ i = k), ∃ k, (∃ i, Env n (ds i) (m i ++ kept) a ∧ Inv i w ∧ μ i = k) ∧ ∀ j, (∃ i, Env n (ds i) (m i ++ kept) a ∧ Inv i w ∧ μ i = j) → k ≤ j := by
      rintro a w ⟨k, hk⟩
      induction k using Nat.strongRecOn with
      | _ k ih =>
        by_cases hs : ∃ j, j < k ∧ ∃ i, Env n (ds i) (m i ++ kept) a ∧ Inv i w ∧ μ i = j
        · obtain ⟨j, hj, hji⟩ := hs; exact ih j hj hji
        · exact ⟨k, hk, fun j hj => Nat.le_of_not_lt fun hlt => hs ⟨j, hlt, hj⟩⟩
    rw [dif_pos hex]
    have hspec := Classical.choose_spec (hmin a w hex)
    obtain ⟨⟨i', ha', hi', hμ⟩, _⟩ := hspec
    have hr := round i' a w ha' hi'
    rw [thenQ_eq] at hr
    refine Go.wpIn_mono hr ?_
    intro x a2 w2 hq
    cases x with
    | normal =>
      obtain ⟨j, hj1, hj2, hj3⟩ := hq
      refine ⟨⟨j, hj1, hj2⟩, ?_⟩
      have hex2 : ∃ k, ∃ i, Env n (ds i) (m i ++ kept) a2 ∧ Inv i w2 ∧ μ i = k := ⟨_, j, hj1, hj2, rfl⟩
      rw [dif_pos hex2]
      have h2 := (Classical.choose_spec (hmin a2 w2 hex2)).2 (μ j) ⟨j, hj1, hj2, rfl⟩
      rw [hμ] at hj3
      exact Nat.lt_of_le_of_lt h2 hj3
    | _ => exact hq
  exact key _ i0 a w rfl he (h0 w hh)
end
section
variable {n : Nat} {e : EnvL} {P : Program} {F : Fence} {Q : Exit → Act → World → Prop} {w0 : World} {M : List Nat} {own : List (Nat × Obj)} {ro : List Sg}
end
end Go.Fw
namespace Go.Fw
open Go
section
variable {P : Program} {e : EnvL} {w : World} {dst : Option Nat} {ty : TypeId} {pos : String} {after : Array Edge} {g : Option (Nat × Bool)}
end
end Go.Fw

namespace Go.Gx
open Go Go.Fw

def ix {α : Type} (l : List α) (i : Int) : Option α := if i < 0 then none else l[i.toNat]?
def addc (a b : Int) : Option Int := if -9223372036854775808 ≤ a + b ∧ a + b ≤ 9223372036854775807 then some (a + b) else none
def subc (a b : Int) : Option Int := if -9223372036854775808 ≤ a - b ∧ a - b ≤ 9223372036854775807 then some (a - b) else none
def negc (a : Int) : Option Int := if -9223372036854775808 ≤ -a ∧ -a ≤ 9223372036854775807 then some (-a) else none
def remc (a b : Int) : Option Int := if b ≠ 0 then some (a.tmod b) else none
def appc {α : Type} (bytes : Nat) (l m : List α) : Option (List α) := if (l.length + m.length) * bytes ≤ 140737488355328 then some (l ++ m) else none
def makec {α : Type} (bytes : Nat) (z : α) (n c : Int) : Option (List α) := if 0 ≤ n ∧ n ≤ c ∧ (bytes : Int) * c ≤ 140737488355328 ∧ c ≤ 140737488355328 then some (List.replicate n.toNat z) else none
def iterM {σ β : Type} : Nat → (σ → Option (σ ⊕ β)) → σ → Option β
  | 0, _, _ => none
  | n + 1, f, s => match f s with
    | none => none
    | some (.inl s') => iterM n f s'
    | some (.inr b) => some b
def FU : Nat := 36893488147419103232
def oc {α β γ : Type} (o : α ⊕ β) (f : α → γ) (g : β → γ) : γ := match o with
  | .inl a => f a
  | .inr b => g b

theorem bindO {α β : Type} {o : Option α} {k : α → Option β} {r : β} (h : o.bind k = some r) : ∃ a, o = some a ∧ k a = some r := by
  cases o with
  | none => simp at h
  | some a => exact ⟨a, rfl, h⟩
theorem ifT {α : Type} {c : Prop} [Decidable c] {a b r : α} (hc : c) (h : (if c then a else b) = r) : a = r := by rw [if_pos hc] at h; exact h
theorem ifF {α : Type} {c : Prop} [Decidable c] {a b r : α} (hc : ¬ c) (h : (if c then a else b) = r) : b = r := by rw [if_neg hc] at h; exact h
theorem ifO {α : Type} {c : Prop} [Decidable c] {a : Option α} {r : α} (h : (if c then a else none) = some r) : c ∧ a = some r := by
  by_cases hc : c
  · rw [if_pos hc] at h; exact ⟨hc, h⟩
  · rw [if_neg hc] at h; cases h
theorem ocL {α β γ : Type} {a : α} {f : α → γ} {g : β → γ} {r : γ} (h : oc (.inl a) f g = r) : f a = r := h
theorem ocR {α β γ : Type} {b : β} {f : α → γ} {g : β → γ} {r : γ} (h : oc (.inr b) f g = r) : g b = r := h
theorem addcO {a b c : Int} (h : addc a b = some c) : c = a + b ∧ -9223372036854775808 ≤ a + b ∧ a + b ≤ 9223372036854775807 := by unfold addc at h; obtain ⟨h1, h2⟩ := ifO h; cases h2; exact ⟨rfl, h1⟩
theorem subcO {a b c : Int} (h : subc a b = some c) : c = a - b ∧ -9223372036854775808 ≤ a - b ∧ a - b ≤ 9223372036854775807 := by unfold subc at h; obtain ⟨h1, h2⟩ := ifO h; cases h2; exact ⟨rfl, h1⟩
theorem negcO {a c : Int} (h : negc a = some c) : c = -a ∧ -9223372036854775808 ≤ -a ∧ -a ≤ 9223372036854775807 := by unfold negc at h; obtain ⟨h1, h2⟩ := ifO h; cases h2; exact ⟨rfl, h1⟩
theorem remcO {a b c : Int} (h : remc a b = some c) : c = a.tmod b ∧ b ≠ 0 := by unfold remc at h; obtain ⟨h1, h2⟩ := ifO h; cases h2; exact ⟨rfl, h1⟩
theorem ixO {α : Type} {l : List α} {i : Int} {x : α} (h : ix l i = some x) : 0 ≤ i ∧ i.toNat < l.length ∧ l[i.toNat]? = some x := by
  unfold ix at h
  by_cases hi : i < 0
  · rw [if_pos hi] at h; cases h
  · rw [if_neg hi] at h
    obtain ⟨h1, _⟩ := List.getElem?_eq_some_iff.1 h
    exact ⟨by omega, h1, h⟩
theorem appcO {α : Type} {bytes : Nat} {l m r : List α} (h : appc bytes l m = some r) : r = l ++ m ∧ (l.length + m.length) * bytes ≤ 140737488355328 := by unfold appc at h; obtain ⟨h1, h2⟩ := ifO h; cases h2; exact ⟨rfl, h1⟩
theorem makecO {α : Type} {bytes : Nat} {z : α} {n c : Int} {r : List α} (h : makec bytes z n c = some r) : r = List.replicate n.toNat z ∧ 0 ≤ n ∧ n ≤ c ∧ (bytes : Int) * c ≤ 140737488355328 ∧ c ≤ 140737488355328 := by unfold makec at h; obtain ⟨h1, h2⟩ := ifO h; cases h2; exact ⟨rfl, h1⟩

structure Row (α : Type) where
  sz : Nat
  cells : α → List Value
  len : ∀ x, (cells x).length = sz
  one : ∀ x, ones (cells x) = true
def Row.enc {α : Type} (R : Row α) (l : List α) : List Value := l.flatMap R.cells
def RI : Row Int := ⟨1, fun n => [.int .i64 n], fun _ => rfl, fun _ => rfl⟩
def RU8 : Row Int := ⟨1, fun n => [.int .u8 n], fun _ => rfl, fun _ => rfl⟩
section rows
variable {α : Type} (R : Row α)
theorem Row.enc_nil : R.enc [] = [] := rfl
theorem Row.enc_append (l m : List α) : R.enc (l ++ m) = R.enc l ++ R.enc m := by simp [Row.enc]
theorem Row.enc_len (l : List α) : (R.enc l).length = l.length * R.sz := by
  induction l with
  | nil => simp [Row.enc]
  | cons x l ih => simp only [Row.enc, List.flatMap_cons, List.length_append, R.len, List.length_cons, Nat.add_mul, Nat.one_mul] at ih ⊢; omega
theorem Row.enc_one (l : List α) : ∀ u ∈ R.enc l, u.oneCell' = true := by
  intro u hu
  obtain ⟨x, _, hx⟩ := List.mem_flatMap.1 hu
  exact ones_all (R.one x) u hx
theorem Row.enc_get : ∀ (l : List α) (j f : Nat) (x : α), l[j]? = some x → f < R.sz → (R.enc l)[j * R.sz + f]? = (R.cells x)[f]?
  | [], j, f, x, h, _ => by simp at h
  | y :: l, 0, f, x, h, hf => by
    simp at h; subst h
    simp only [Row.enc, List.flatMap_cons, Nat.zero_mul, Nat.zero_add]
    rw [List.getElem?_append_left (by rw [R.len]; exact hf)]
  | y :: l, j + 1, f, x, h, hf => by
    have ih := Row.enc_get l j f x (by simpa using h) hf
    simp only [Row.enc, List.flatMap_cons] at ih ⊢
    rw [List.getElem?_append_right (by rw [R.len, Nat.add_mul]; omega), R.len, show (j + 1) * R.sz + f - R.sz = j * R.sz + f by rw [Nat.add_mul]; omega, ih]
theorem Row.enc_set : ∀ (l : List α) (j : Nat) (x x' : α), l[j]? = some x → (R.enc l).take (j * R.sz) ++ R.cells x' ++ (R.enc l).drop (j * R.sz + R.sz) = R.enc (l.set j x')
  | [], j, x, _, h => by simp at h
  | y :: l, 0, x, x', h => by
    simp only [Row.enc, List.flatMap_cons, List.set_cons_zero, Nat.zero_mul, List.take_zero, List.nil_append, Nat.zero_add]
    rw [← R.len y, List.drop_left]
  | y :: l, j + 1, x, x', h => by
    have ih := Row.enc_set l j x x' (by simpa using h)
    simp only [Row.enc, List.flatMap_cons, List.set_cons_succ] at ih ⊢
    rw [← ih]
    have e1 : (j + 1) * R.sz = (R.cells y).length + j * R.sz := by rw [R.len, Nat.add_mul]; omega
    rw [e1, List.take_length_add_append, Nat.add_assoc, List.drop_length_add_append]
    simp only [List.append_assoc]
theorem Row.enc_set1 : ∀ (l : List α) (j f : Nat) (x x' : α) (v : Value), l[j]? = some x → f < R.sz → (R.cells x).set f v = R.cells x' → (R.enc l).set (j * R.sz + f) v = R.enc (l.set j x')
  | [], j, f, x, _, _, h, _, _ => by simp at h
  | y :: l, 0, f, x, x', v, h, hf, hs => by
    simp at h; subst h
    simp only [Row.enc, List.flatMap_cons, List.set_cons_zero, Nat.zero_mul, Nat.zero_add]
    rw [List.set_append_left _ _ (by rw [R.len]; exact hf), hs]
  | y :: l, j + 1, f, x, x', v, h, hf, hs => by
    have ih := Row.enc_set1 l j f x x' v (by simpa using h) hf hs
    simp only [Row.enc, List.flatMap_cons, List.set_cons_succ] at ih ⊢
    rw [List.set_append_right _ _ (by rw [R.len, Nat.add_mul]; omega), R.len, show (j + 1) * R.sz + f - R.sz = j * R.sz + f by rw [Nat.add_mul]; omega, ih]
end rows

def aB (a : Option Addr) : Nat := (a.map (·.block)).getD 0
def aO (a : Option Addr) : Nat := (a.map (·.off)).getD 0
abbrev qA (q : Option (Nat × Nat)) : Option Addr := q.map fun p => ⟨p.1, p.2, none⟩
def AOK (n : Nat) (a : Option Addr) : Prop := 0 < n → ∃ b o, a = some ⟨b, o, none⟩
theorem AOK.q {n : Nat} {q : Option (Nat × Nat)} (h : 0 < n → q ≠ none) : AOK n (qA q) := fun h0 => by
  cases q with
  | none => exact absurd rfl (h h0)
  | some p => exact ⟨p.1, p.2, rfl⟩
theorem AOK.nil {a : Option Addr} : AOK 0 a := fun h => absurd h (Nat.lt_irrefl 0)
structure VR where
  E : TypeId
  xs : List Value
  sp : List Value
  q : Option (Nat × Nat)
  /-- further blocks that hang on it: its rows -/
  mo : List (Nat × Obj)
def VR.bl (v : VR) : List (Nat × Obj) := vown v.E v.xs v.sp v.q ++ v.mo
def vbl : List VR → List (Nat × Obj)
  | [] => []
  | v :: r => v.bl ++ vbl r
structure VL where
  q : Option (Nat × Nat)
  n : Nat
  cap : Nat
  sp : List Value
theorem vlen {α : Type} (R : Row α) {n cap : Nat} {l : List α} {sp : List Value} {q : Option (Nat × Nat)} (hv : VOK R.sz n cap (R.enc l) sp q) (h0 : Nat.blt 0 R.sz = true) : l.length = n := by
  have h1 := hv.hlen
  rw [R.enc_len] at h1
  exact Nat.eq_of_mul_eq_mul_right (by simpa using h0) h1
theorem vne {sz n cap : Nat} {xs sp : List Value} {q : Option (Nat × Nat)} (hv : VOK sz n cap xs sp q) : 0 < n → q ≠ none := fun h0 hq => by have := (hv.hnone hq).1; omega
theorem vbl_append : ∀ (A B : List VR), vbl (A ++ B) = vbl A ++ vbl B
  | [], _ => rfl
  | v :: A, B => by simp only [List.cons_append, vbl, vbl_append A B, List.append_assoc]
def HV (w0 : World) (M : List Nat) (S : List (Nat × Obj)) (vs : List VR) (ro : List Sg) (w : World) : Prop := HS w0 M (S ++ vbl vs) ro w
def keys (S : List (Nat × Obj)) (vs : List VR) : List Nat := (S ++ vbl vs).map (·.1)

section hv
variable {w0 w w' : World} {M : List Nat} {S : List (Nat × Obj)} {vs : List VR} {ro : List Sg}
theorem getO {α : Type} {l : List α} {i : Nat} {v : α} (h : l[i]? = some v) : l = l.take i ++ v :: l.drop (i + 1) := by
  obtain ⟨h1, h2⟩ := List.getElem?_eq_some_iff.1 h
  rw [← h2, List.getElem_cons_drop, List.take_append_drop]
theorem HV.hs (h : HV w0 M S vs ro w) : HS w0 M (S ++ vbl vs) ro w := h
theorem HV.seg (h : HV w0 M S vs ro w) (i : Nat) {s : Sg} (hi : ro[i]? = some s) : segOK w s := HS.seg h i hi
theorem HV.get (h : HV w0 M S vs ro w) (i : Nat) {b : Nat} {o : Obj} (hi : S[i]? = some (b, o)) : w.heap[b]? = some o :=
  HS.get h i (by rw [List.getElem?_append_left (List.getElem?_eq_some_iff.1 hi).1]; exact hi)
theorem HV.cell (h : HV w0 M S vs ro w) (i : Nat) {b o : Nat} {cs : Array Value} {T : TypeId} {fr : Nat × Nat} {v : Value} (hi : S[i]? = some (b, .cells cs T fr)) (hv : cs.toList[o]? = some v) : w.cell? ⟨b, o, none⟩ = some v :=
  HS.cell h i (by rw [List.getElem?_append_left (List.getElem?_eq_some_iff.1 hi).1]; exact hi) hv
theorem HV.cells (h : HV w0 M S vs ro w) (i : Nat) {b o : Nat} {cs : Array Value} {T : TypeId} {fr : Nat × Nat} {us : List Value} (hi : S[i]? = some (b, .cells cs T fr)) (hv : (cs.toList.drop o).take us.length = us) :
    ∀ j (_ : j < us.length), w.cell? ⟨b, o + j, none⟩ = some us[j] :=
  HS.cells h i (by rw [List.getElem?_append_left (List.getElem?_eq_some_iff.1 hi).1]; exact hi) hv
theorem HV.vmem (i : Nat) {v : VR} (hi : vs[i]? = some v) : ∀ p, p ∈ v.bl → p ∈ S ++ vbl vs := fun p hp => by
  rw [getO hi, vbl_append]
  simp only [vbl, List.mem_append]
  exact .inr (.inr (.inl hp))
theorem HV.vseg (h : HV w0 M S vs ro w) (i : Nat) {E : TypeId} {xs sp : List Value} {q : Option (Nat × Nat)} {sz len cap : Nat} {mo : List (Nat × Obj)} (hi : vs[i]? = some ⟨E, xs, sp, q, mo⟩) (hv : VOK sz len cap xs sp q) : segOK w (bk q, off q, xs) := by
  cases q with
  | none =>
    have : xs = [] := hv.noneNil rfl
    subst this
    exact segOK.nil
  | some p =>
    have ho := hv.hoff p rfl
    have hb := h.hs.ownOK (p.1, .cells (xs ++ sp).toArray E (0, 0)) (HV.vmem i hi _ (by simp [VR.bl, vown]))
    have h3 : segOK w (p.1, 0, xs ++ sp) := .of_block hb
    intro j hj
    have h5 : j < (xs ++ sp).length := by simp at hj ⊢; omega
    have := h3 j h5
    simp only at this hj ⊢
    simp only [bk, off, Option.getD_some, ho]
    rw [this, List.getElem_append_left hj]
theorem HV.draw (h : HV w0 M S vs ro w) (k : Nat) : HV w0 M S vs ro { w with drawn := k } := HS.draw h k
theorem HV.perm {S' : List (Nat × Obj)} {vs' : List VR} (h : HV w0 M S vs ro w) (hp : (S ++ vbl vs).Perm (S' ++ vbl vs')) : HV w0 M S' vs' ro w := HS.perm h hp

theorem pick_sub {α : Type} {l l' : List α} {idx : List Nat} (hn : idx.Nodup) (hi : idx.map (fun i => l[i]?) = l'.map some) : ∃ r, l.Perm (l' ++ r) := by
  induction l' generalizing idx l with
  | nil => exact ⟨l, .refl _⟩
  | cons p l' ih =>
    cases idx with
    | nil => simp at hi
    | cons i idx =>
      simp only [List.map_cons, List.cons.injEq] at hi
      rw [List.nodup_cons] at hn
      obtain ⟨hlt, hp⟩ := List.getElem?_eq_some_iff.1 hi.1
      have h1 : l.Perm (p :: l.eraseIdx i) := by
        have h2 := getO hi.1
        rw [List.eraseIdx_eq_take_drop_succ]
        exact (List.Perm.of_eq h2).trans List.perm_middle
      let g : Nat → Nat := fun j => if j < i then j else j - 1
      have hg : (idx.map g).Nodup := by
        have : ∀ (m : List Nat), i ∉ m → m.Nodup → (m.map g).Nodup := by
          intro m
          induction m with
          | nil => intro _ _; simp
          | cons a m ihm =>
            intro hm hnd
            rw [List.nodup_cons] at hnd
            simp only [List.mem_cons, not_or] at hm
            rw [List.map_cons, List.nodup_cons]
            refine ⟨fun hmem => ?_, ihm hm.2 hnd.2⟩
            obtain ⟨c, hc, hce⟩ := List.mem_map.1 hmem
            have hci : c ≠ i := fun e => hm.2 (e ▸ hc)
            have hac : c ≠ a := fun e => hnd.1 (e ▸ hc)
            simp only [g] at hce
            split at hce <;> split at hce <;> omega
        exact this idx hn.1 hn.2
      have hmap : (idx.map g).map (fun k => (l.eraseIdx i)[k]?) = l'.map some := by
        rw [← hi.2, List.map_map]
        apply List.map_congr_left
        intro j hj
        have hji : j ≠ i := fun e => hn.1 (e ▸ hj)
        simp only [Function.comp_apply, g, List.getElem?_eraseIdx]
        by_cases h : j < i
        · simp [h]
        · have h2 : ¬ (j - 1 < i) := by omega
          simp only [h, h2, if_false]
          rw [show j - 1 + 1 = j by omega]
      obtain ⟨r, hr⟩ := ih hg hmap
      exact ⟨r, h1.trans (hr.cons p)⟩
theorem vbl_perm {a b : List VR} (h : a.Perm b) : (vbl a).Perm (vbl b) := by
  induction h with
  | nil => exact .refl _
  | cons x _ ih => exact List.Perm.append_left _ ih
  | swap x y l =>
    simp only [vbl]
    rw [← List.append_assoc, ← List.append_assoc]
    exact List.Perm.append_right _ List.perm_append_comm
  | trans _ _ h1 h2 => exact h1.trans h2
theorem HV.sel {S' : List (Nat × Obj)} {vs' : List VR} {ro' : List Sg} (h : HV w0 M S vs ro w) (iS iV : List Nat) (k : Nat) (hn : iS.Nodup) (hm : iV.Nodup) (hS : iS.map (fun i => S[i]?) = S'.map some) (hV : iV.map (fun i => vs[i]?) = vs'.map some) (hr : ro.drop k = ro') : HV w0 M S' vs' ro' w := by
  obtain ⟨r, hr1⟩ := pick_sub hn hS
  obtain ⟨u, hu⟩ := pick_sub hm hV
  have hp : (S ++ vbl vs).Perm ((S' ++ vbl vs') ++ (r ++ vbl u)) := by
    have h1 := hr1.append (vbl_perm hu)
    refine h1.trans ?_
    rw [vbl_append]
    simp only [List.append_assoc]
    refine List.Perm.append_left _ ?_
    rw [← List.append_assoc, ← List.append_assoc]
    exact List.Perm.append_right _ List.perm_append_comm
  have h2 : HS w0 M ((S' ++ vbl vs') ++ (r ++ vbl u)) ro w := HS.perm h hp
  have h3 : HS w0 M (S' ++ vbl vs') ro w := h2.drop (List.sublist_append_left _ _)
  exact h3.dropRo (fun s hs => List.mem_of_mem_drop (hr ▸ hs : s ∈ ro.drop k))

theorem HV.vsegA (h : HV w0 M S vs ro w) (i : Nat) {E : TypeId} {xs sp : List Value} {q : Option (Nat × Nat)} {sz len cap : Nat} {mo : List (Nat × Obj)} (hi : vs[i]? = some ⟨E, xs, sp, q, mo⟩) (hv : VOK sz len cap xs sp q) : segOK w (aB (qA q), aO (qA q), xs) := by
  have := h.vseg i hi hv
  cases q <;> exact this

theorem HV.callee {S0 : List (Nat × Obj)} {vs0 : List VR} {ro0 : List Sg} (h : HV w0 M (S0 ++ S) (vs0 ++ vs) ro w) (hr : ∀ s, s ∈ ro0 → segOK w s ∧ (s.2.2 ≠ [] → s.1 ∉ keys S0 vs0)) : HV w (keys S0 vs0) S0 vs0 ro0 w := by
  have hp : ((S0 ++ S) ++ vbl (vs0 ++ vs)).Perm ((S0 ++ vbl vs0) ++ (S ++ vbl vs)) := by
    rw [vbl_append]
    simp only [List.append_assoc]
    refine List.Perm.append_left _ ?_
    rw [← List.append_assoc, ← List.append_assoc]
    exact List.Perm.append_right _ List.perm_append_comm
  have h2 : HS w0 M (S0 ++ vbl vs0) ro w := (HS.perm h hp).drop (List.sublist_append_left _ _)
  exact ⟨rfl, rfl, rfl, Nat.le_refl _, fun _ _ _ => rfl, h2.ownOK, fun p hp => .inr (List.mem_map_of_mem hp), h2.nodup, fun s hs => (hr s hs).1, fun s hs => (hr s hs).2⟩
theorem HS.back {B0 B B1 : List (Nat × Obj)} (h : HS w0 M (B0 ++ B) ro w) (hc : HS w (B0.map (·.1)) B1 [] w') : HS w0 M (B1 ++ B) ro w' := by
  have hnd := h.nodup
  rw [List.map_append, List.nodup_append] at hnd
  have hK : ∀ k, k ∈ B0.map (·.1) → k < w.heap.size := fun k hk => by
    obtain ⟨p, hp, rfl⟩ := List.mem_map.1 hk
    exact h.lt (List.mem_append_left _ hp)
  have hB : ∀ p, p ∈ B → p.1 < w.heap.size ∧ p.1 ∉ B0.map (·.1) := fun p hp => ⟨h.lt (List.mem_append_right _ hp), fun hm => hnd.2.2 _ hm _ (List.mem_map_of_mem hp) rfl⟩
  refine ⟨hc.os.trans h.os, hc.tape.trans h.tape, hc.output.trans h.output, Nat.le_trans h.size hc.size, ?_, ?_, ?_, ?_, ?_, ?_⟩
  · intro k hk hM
    refine (hc.old k (Nat.lt_of_lt_of_le hk h.size) (fun hm => ?_)).trans (h.old k hk hM)
    obtain ⟨p, hp, rfl⟩ := List.mem_map.1 hm
    rcases h.new p (List.mem_append_left _ hp) with h1 | h1
    · omega
    · exact hM h1
  · intro p hp
    rcases List.mem_append.1 hp with hp | hp
    · exact hc.ownOK p hp
    · exact (hc.old p.1 (hB p hp).1 (hB p hp).2).trans (h.ownOK p (List.mem_append_right _ hp))
  · intro p hp
    rcases List.mem_append.1 hp with hp | hp
    · rcases hc.new p hp with h1 | h1
      · exact .inl (Nat.le_trans h.size h1)
      · obtain ⟨p', hp', he⟩ := List.mem_map.1 h1
        rw [← he]
        exact h.new p' (List.mem_append_left _ hp')
    · exact h.new p (List.mem_append_right _ hp)
  · rw [List.map_append, List.nodup_append]
    refine ⟨hc.nodup, hnd.2.1, fun a ha b hb he => ?_⟩
    obtain ⟨p, hp, rfl⟩ := List.mem_map.1 ha
    obtain ⟨q, hq, rfl⟩ := List.mem_map.1 hb
    have h2 := hB q hq
    rcases hc.new p hp with h1 | h1
    · omega
    · exact h2.2 (he ▸ h1)
  · intro s hs j hj
    have hne : s.2.2 ≠ [] := by intro e; rw [e] at hj; simp at hj
    have h1 := h.roOK s hs
    have h2 := h.sep s hs hne
    rw [List.map_append, List.mem_append] at h2
    rw [cell_of_block (hc.old s.1 (h1.lt hne) (fun hm => h2 (.inl hm)))]
    exact h1 j hj
  · intro s hs hne hm
    have h1 := (h.roOK s hs).lt hne
    have h2 := h.sep s hs hne
    rw [List.map_append, List.mem_append] at h2
    rw [List.map_append, List.mem_append] at hm
    rcases hm with hm | hm
    · obtain ⟨p, hp, he⟩ := List.mem_map.1 hm
      rcases hc.new p hp with h3 | h3
      · omega
      · exact h2 (.inl (he ▸ h3))
    · exact h2 (.inr hm)
theorem HV.back {S0 S1 : List (Nat × Obj)} {vs0 vs1 : List VR} (h : HV w0 M (S0 ++ S) (vs0 ++ vs) ro w) (hc : HV w (keys S0 vs0) S1 vs1 [] w') : HV w0 M (S1 ++ S) (vs1 ++ vs) ro w' := by
  have hp : ∀ (A : List (Nat × Obj)) (a : List VR), ((A ++ S) ++ vbl (a ++ vs)).Perm ((A ++ vbl a) ++ (S ++ vbl vs)) := fun A a => by
    rw [vbl_append]
    simp only [List.append_assoc]
    refine List.Perm.append_left _ ?_
    rw [← List.append_assoc, ← List.append_assoc]
    exact List.Perm.append_right _ List.perm_append_comm
  exact HS.perm (HS.back (HS.perm h (hp S0 vs0)) hc) (hp S1 vs1).symm
theorem HV.vsep {S0 : List (Nat × Obj)} {vs0 : List VR} (h : HV w0 M (S0 ++ S) (vs0 ++ vs) ro w) (i : Nat) {E : TypeId} {xs sp : List Value} {q : Option (Nat × Nat)} {sz len cap : Nat} {mo : List (Nat × Obj)} (hi : vs[i]? = some ⟨E, xs, sp, q, mo⟩) (hv : VOK sz len cap xs sp q) : segOK w (bk q, off q, xs) ∧ (xs ≠ [] → bk q ∉ keys S0 vs0) := by
  have hseg : segOK w (bk q, off q, xs) := HV.vseg h (vs0.length + i) (by rw [List.getElem?_append_right (by omega)]; simpa using hi) hv
  refine ⟨hseg, fun hne hm => ?_⟩
  cases q with
  | none => exact hne (hv.noneNil rfl)
  | some p =>
    have hp : ((S0 ++ S) ++ vbl (vs0 ++ vs)).Perm ((S0 ++ vbl vs0) ++ (S ++ vbl vs)) := by
      rw [vbl_append]
      simp only [List.append_assoc]
      refine List.Perm.append_left _ ?_
      rw [← List.append_assoc, ← List.append_assoc]
      exact List.Perm.append_right _ List.perm_append_comm
    have hnd := (HS.perm h hp).nodup
    rw [List.map_append, List.nodup_append] at hnd
    refine hnd.2.2 _ hm p.1 ?_ (by simp [bk])
    exact List.mem_map.2 ⟨_, HV.vmem (S := S) i hi (p.1, .cells (xs ++ sp).toArray E (0, 0)) (by simp [VR.bl, vown]), rfl⟩
theorem HV.vsepA {S0 : List (Nat × Obj)} {vs0 : List VR} (h : HV w0 M (S0 ++ S) (vs0 ++ vs) ro w) (i : Nat) {E : TypeId} {xs sp : List Value} {q : Option (Nat × Nat)} {sz len cap : Nat} {mo : List (Nat × Obj)} (hi : vs[i]? = some ⟨E, xs, sp, q, mo⟩) (hv : VOK sz len cap xs sp q) : segOK w (aB (qA q), aO (qA q), xs) ∧ (xs ≠ [] → aB (qA q) ∉ keys S0 vs0) := by
  have := h.vsep i hi hv
  cases q <;> exact this
theorem HV.rsep {S0 : List (Nat × Obj)} {vs0 : List VR} (h : HV w0 M (S0 ++ S) (vs0 ++ vs) ro w) (i : Nat) {s : Sg} (hi : ro[i]? = some s) : segOK w s ∧ (s.2.2 ≠ [] → s.1 ∉ keys S0 vs0) := by
  refine ⟨HS.seg h i hi, fun hne hm => h.hs.sep s (List.mem_of_getElem? hi) hne ?_⟩
  obtain ⟨p, hp, he⟩ := List.mem_map.1 hm
  refine List.mem_map.2 ⟨p, ?_, he⟩
  rw [vbl_append]
  simp only [List.mem_append] at hp ⊢
  rcases hp with hp | hp
  · exact .inl (.inl hp)
  · exact .inr (.inl hp)
end hv
theorem roC {w : World} {K : List Nat} {s : Sg} {ro : List Sg} (h : segOK w s ∧ (s.2.2 ≠ [] → s.1 ∉ K)) (hr : ∀ t, t ∈ ro → segOK w t ∧ (t.2.2 ≠ [] → t.1 ∉ K)) : ∀ t, t ∈ s :: ro → segOK w t ∧ (t.2.2 ≠ [] → t.1 ∉ K) := fun t ht => by
  rcases List.mem_cons.1 ht with rfl | ht
  · exact h
  · exact hr t ht
theorem roN {w : World} {K : List Nat} : ∀ t, t ∈ ([] : List Sg) → segOK w t ∧ (t.2.2 ≠ [] → t.1 ∉ K) := fun t ht => by cases ht
end Go.Gx

namespace Go.Gx
open Go Go.Fw

section control
variable {n : Nat} {ds : List Deferred} {e : EnvL} {H : World → Prop} {P : Program} {F : Fence} {Q : Exit → Act → World → Prop} {w0 : World} {M : List Nat} {S : List (Nat × Obj)} {vs : List VR} {ro : List Sg}

def Jn (n : Nat) (ds : List Deferred) (w0 : World) (M : List Nat) (ro : List Sg) {ι : Type} (p : ι → Prop) (m : ι → EnvL) (mo : ι → List (Nat × Obj)) (mv : ι → List VR) : Act → World → Prop :=
  fun a w => ∃ j, p j ∧ Env n ds (m j) a ∧ HV w0 M (mo j) (mv j) ro w

theorem j3 {ι : Type} {x : Code} (p : ι → Prop) (m : ι → EnvL) (mo : ι → List (Nat × Obj)) (mv : ι → List VR)
    (hx : G n ds e (HV w0 M S vs ro) (x.wpIn F 0 P (thenQ (Jn n ds w0 M ro p m mo mv) Q)))
    (hy : ∀ j, p j → G n ds (m j) (HV w0 M (mo j) (mv j) ro) (Q .normal)) : G n ds e (HV w0 M S vs ro) (x.wpIn F 0 P Q) := by
  refine hx.mono fun a w h => ?_
  rw [thenQ_eq] at h
  refine Go.wpIn_mono h (fun ex a w hq => ?_)
  cases ex with
  | normal =>
    obtain ⟨j, hp, he, hw⟩ := hq
    exact hy j hp a w he hw
  | _ => exact hq
theorem jk {ι : Type} {p : ι → Prop} {m : ι → EnvL} {mo : ι → List (Nat × Obj)} {mv : ι → List VR} (j : ι) (hp : p j) (he : Sub e (m j)) (hw : ∀ w, H w → HV w0 M (mo j) (mv j) ro w) :
    G n ds e H (Jn n ds w0 M ro p m mo mv) := fun _ w ha hh => ⟨j, hp, ha.sub he, hw w hh⟩

def Ag (n : Nat) (ds : List Deferred) (w0 : World) (M : List Nat) (ro : List Sg) {σ β ι : Type} (r : σ ⊕ β) (pl : σ → ι → Prop) (m : σ → ι → EnvL) (mo : σ → ι → List (Nat × Obj)) (mv : σ → ι → List VR) : Act → World → Prop :=
  fun a w => ∃ s l, r = .inl s ∧ pl s l ∧ Env n ds (m s l) a ∧ HV w0 M (mo s l) (mv s l) ro w
theorem kk {σ β ι : Type} {c : Code} {f : σ → Option (σ ⊕ β)} {o : β} {N : Nat} {s0 : σ} (hN : iterM N f s0 = some o) (pl : σ → ι → Prop) (m : σ → ι → EnvL) (mo : σ → ι → List (Nat × Obj)) (mv : σ → ι → List VR)
    (l0 : ι) (h0 : pl s0 l0) (he : Sub e (m s0 l0)) (hw : ∀ w, HV w0 M S vs ro w → HV w0 M (mo s0 l0) (mv s0 l0) ro w)
    (round : ∀ s l r, pl s l → f s = some r → (∀ b, r = .inr b → b = o) → G n ds (m s l) (HV w0 M (mo s l) (mv s l) ro) (c.wpIn F 0 P (thenQ (Ag n ds w0 M ro r pl m mo mv) Q))) :
    G n ds e (HV w0 M S vs ro) ((Code.loop c).wpIn F 0 P Q) := by
  have key : ∀ (i : Nat × σ × ι), G n ds (m i.2.1 i.2.2 ++ []) (fun w => iterM i.1 f i.2.1 = some o ∧ pl i.2.1 i.2.2 ∧ HV w0 M (mo i.2.1 i.2.2) (mv i.2.1 i.2.2) ro w)
      (c.wpIn F 0 P (thenQ (fun a' w' => ∃ j : Nat × σ × ι, Env n ds (m j.2.1 j.2.2 ++ []) a' ∧ (iterM j.1 f j.2.1 = some o ∧ pl j.2.1 j.2.2 ∧ HV w0 M (mo j.2.1 j.2.2) (mv j.2.1 j.2.2) ro w') ∧ j.1 < i.1) Q)) := by
    rintro ⟨k, s, l⟩ a w ha ⟨hk, hp, hh⟩
    simp only [List.append_nil] at ha ⊢
    cases k with
    | zero => simp [iterM] at hk
    | succ k =>
      unfold iterM at hk
      cases hf : f s with
      | none => rw [hf] at hk; cases hk
      | some r =>
        rw [hf] at hk
        have hr := round s l r hp hf (fun b hb => by subst hb; simpa using hk) a w ha hh
        rw [thenQ_eq] at hr ⊢
        refine Go.wpIn_mono hr (fun ex a w hq => ?_)
        cases ex with
        | normal =>
          obtain ⟨s', l', rfl, hp', he', hw'⟩ := hq
          exact ⟨(k, s', l'), he', ⟨hk, hp', hw'⟩, Nat.lt_succ_self k⟩
        | _ => exact hq
  have hl := jaG (kept := []) (H := fun w => iterM N f s0 = some o ∧ pl s0 l0 ∧ HV w0 M (mo s0 l0) (mv s0 l0) ro w) (fun i : Nat × σ × ι => m i.2.1 i.2.2) (fun i w => iterM i.1 f i.2.1 = some o ∧ pl i.2.1 i.2.2 ∧ HV w0 M (mo i.2.1 i.2.2) (mv i.2.1 i.2.2) ro w) (fun i => i.1) (N, s0, l0) (fun w h => h) key
  simp only [List.append_nil] at hl
  exact ZD he (hl.pre fun w hh => ⟨hN, h0, hw w hh⟩)
theorem jN {σ β ι : Type} {r : σ ⊕ β} {pl : σ → ι → Prop} {m : σ → ι → EnvL} {mo : σ → ι → List (Nat × Obj)} {mv : σ → ι → List VR} (s : σ) (l : ι) (hr : r = .inl s) (hp : pl s l) (he : Sub e (m s l)) (hw : ∀ w, H w → HV w0 M (mo s l) (mv s l) ro w) :
    G n ds e H (Ag n ds w0 M ro r pl m mo mv) := fun _ w ha hh => ⟨s, l, hr, hp, ha.sub he, hw w hh⟩
theorem jad {X : Act → World → Prop} {S' : List (Nat × Obj)} {vs' : List VR} {ro' : List Sg} (iS iV : List Nat) (k : Nat) (hn : iS.Nodup) (hm : iV.Nodup) (hS : iS.map (fun i => S[i]?) = S'.map some) (hV : iV.map (fun i => vs[i]?) = vs'.map some) (hr : ro.drop k = ro')
    (h : G n ds e (HV w0 M S' vs' ro') X) : G n ds e (HV w0 M S vs ro) X := h.pre fun _ hh => hh.sel iS iV k hn hm hS hV hr
theorem zV {X : Act → World → Prop} (E : TypeId) (h : G n ds e (HV w0 M S (⟨E, [], [], none, []⟩ :: vs) ro) X) : G n ds e (HV w0 M S vs ro) X := h.pre fun _ hh => hh
end control

section ops
variable {n : Nat} {ds : List Deferred} {e : EnvL} {P : Program} {r : Option Nat} {Q : Exit → Act → World → Prop} {ops : Array Oper} {w0 : World} {M : List Nat} {S : List (Nat × Obj)} {vs : List VR} {ro : List Sg} {rest : List Oper}

theorem jb {H : World → Prop} {dst : Option Nat} {op : Op} {ty : TypeId} {pos : String} {after : Array Edge} {j t : Nat} {want : Bool} (hj : (ops[j]?).bind (·.dst) = some t) (ht : lk e t = some (.bool want))
    (h : G n ds e H (wpListIn (fw r) 0 P ops Q (⟨dst, op, ty, pos, after, none⟩ :: rest))) : G n ds e H (wpListIn (fw r) 0 P ops Q (⟨dst, op, ty, pos, after, some (j, want)⟩ :: rest)) := fun a w he hh => by
  have h1 := h a w he hh
  unfold wpListIn at h1 ⊢
  rw [if_pos (wanted_none rfl _)] at h1
  rw [if_pos (by rw [wanted_some he rfl hj ht]; simp)]
  refine ⟨fun _ _ => trivial, ?_⟩
  have h2 := h1.2
  exact h2
theorem wanted_undef' {o : Oper} {a : Act} {j t : Nat} {want : Bool} (he : Env n ds e a) (hg : o.guard = some (j, want)) (hj : (ops[j]?).bind (·.dst) = some t) (ht : lk e t = some undef) :
    Region.wanted o (yielded ops a.tmps) = false := by
  have h1 := he.get _ _ ht
  simp [Region.wanted, hg, yielded, hj, h1, undef]
theorem jC {H : World → Prop} {o : Oper} {d j t : Nat} {want : Bool} (hd : o.dst = some d) (hg : o.guard = some (j, want)) (hj : (ops[j]?).bind (·.dst) = some t) (ht : lk e t = some undef) (hn : Nat.blt d n = true)
    (h : G n ds ((d, undef) :: e) H (wpListIn (fw r) 0 P ops Q rest)) : G n ds e H (wpListIn (fw r) 0 P ops Q (o :: rest)) := fun a w he hh => by
  unfold wpListIn
  rw [if_neg (by rw [wanted_undef' he hg hj ht]; simp)]
  refine ⟨fun _ _ => trivial, ?_⟩
  rw [hd]
  exact h _ w (he.put hn undef) hh
theorem jI {d : Nat} {T : TypeId} {x : Operand} {v : Value} {ty : TypeId} {pos : String} {after : Array Edge} (hx : ev e x = some v) (hn : Nat.blt d n = true)
    (h : ∀ b, w0.heap.size ≤ b → G n ds ((d, ptr b 0) :: e) (HV w0 M ((b, .cells v.cells T (0, 0)) :: S) vs ro) (wpListIn (fw r) 0 P ops Q rest)) :
    G n ds e (HV w0 M S vs ro) (wpListIn (fw r) 0 P ops Q (⟨some d, .box T x, ty, pos, after, none⟩ :: rest)) := jbg hx hn h
theorem js {d : Nat} {T : TypeId} {z : Value} {ty : TypeId} {pos : String} {after : Array Edge} (hz : ∀ w, (zeroValue T).run P w = .ok z w) (hn : Nat.blt d n = true)
    (h : ∀ b, w0.heap.size ≤ b → G n ds ((d, ptr b 0) :: e) (HV w0 M ((b, .cells z.cells T (0, 0)) :: S) vs ro) (wpListIn (fw r) 0 P ops Q rest)) :
    G n ds e (HV w0 M S vs ro) (wpListIn (fw r) 0 P ops Q (⟨some d, .alloc T, ty, pos, after, none⟩ :: rest)) := jaT hz hn h
theorem q4 {t : TypeId} {x y : Operand} {b o : Nat} {cs cs' : Array Value} {T : TypeId} {v : Value} {S' : List (Nat × Obj)} {ty : TypeId} {pos : String} {after : Array Edge} (i : Nat)
    (hz : ∀ w, (sizeOf t).run P w = .ok 1 w) (hx : ev e x = some (ptr b o)) (hy : ev e y = some v) (h1 : v.oneCell' = true) (hi : S[i]? = some (b, .cells cs T (0, 0))) (ho : Nat.blt o cs.size = true) (hcs : cs.setIfInBounds o v = cs') (hS : S.set i (b, .cells cs' T (0, 0)) = S')
    (h : G n ds e (HV w0 M S' vs ro) (wpListIn (fw r) 0 P ops Q rest)) :
    G n ds e (HV w0 M S vs ro) (wpListIn (fw r) 0 P ops Q (⟨none, .store t x y, ty, pos, after, none⟩ :: rest)) := by
  have hl := (List.getElem?_eq_some_iff.1 hi).1
  exact jah (own' := S' ++ vbl vs) i hz hx hy h1 (by rw [List.getElem?_append_left hl]; exact hi) ho hcs (by rw [List.set_append_left _ _ hl, hS]) h
theorem kz {t : TypeId} {x y : Operand} {b o : Nat} {cs us : Array Value} {cs' : List Value} {T : TypeId} {S' : List (Nat × Obj)} {ty : TypeId} {pos : String} {after : Array Edge} (i : Nat)
    (hz : ∀ w, (sizeOf t).run P w = .ok us.size w) (hx : ev e x = some (ptr b o)) (hy : ev e y = some (.agg us)) (h1 : ones us.toList = true) (hi : S[i]? = some (b, .cells cs T (0, 0))) (ho : Nat.ble (o + us.size) cs.size = true) (hcs : cs.toList.take o ++ us.toList ++ cs.toList.drop (o + us.toList.length) = cs') (hS : S.set i (b, .cells cs'.toArray T (0, 0)) = S')
    (h : G n ds e (HV w0 M S' vs ro) (wpListIn (fw r) 0 P ops Q rest)) :
    G n ds e (HV w0 M S vs ro) (wpListIn (fw r) 0 P ops Q (⟨none, .store t x y, ty, pos, after, none⟩ :: rest)) := fun a w he hh => by
  have hl := (List.getElem?_eq_some_iff.1 hi).1
  have hi' : (S ++ vbl vs)[i]? = some (b, .cells cs T (0, 0)) := by rw [List.getElem?_append_left hl]; exact hi
  have hb := HS.get hh i hi'
  have hst := run_storeCells_at P b o T us.toList 0 cs w hb (by simp at ho; simpa using ho) (fun v hv => ones_all h1 v hv)
  simp only [Nat.add_zero, hcs] at hst
  have hs : (storeVar t ⟨b, o, none⟩ (.agg us)).run P w = .ok () (w.setRow b cs'.toArray) := by
    simp [storeVar, hz, Value.cells, hst]
  refine wpListIn_skipped (w' := w.setRow b cs'.toArray) (by simp) (wanted_none rfl _) (by simp [execOp, he.eval hx, he.eval hy, Instr.storeAt, Instr.sureAddr, hs]) ?_
  refine h a _ he (HS.upd' hh i hi' Ext.setRow (setRow_heap w b cs _ T (0, 0) hb) ?_)
  rw [List.set_append_left _ _ hl, hS]

theorem vbl_at (i : Nat) {v : VR} (hi : vs[i]? = some v) : S ++ vbl vs = (S ++ vbl (vs.take i)) ++ (v.bl ++ vbl (vs.drop (i + 1))) := by
  rw [show vbl vs = vbl (vs.take i ++ v :: vs.drop (i + 1)) from congrArg vbl (getO hi), vbl_append]
  simp only [vbl, List.append_assoc]
theorem vbl_set (i : Nat) {v v' : VR} (hi : vs[i]? = some v) : S ++ vbl (vs.set i v') = (S ++ vbl (vs.take i)) ++ (v'.bl ++ vbl (vs.drop (i + 1))) := by
  have hl := (List.getElem?_eq_some_iff.1 hi).1
  rw [show vs.set i v' = vs.take i ++ v' :: vs.drop (i + 1) by rw [List.set_eq_take_append_cons_drop, if_pos hl], vbl_append]
  simp only [vbl, List.append_assoc]

theorem vbl_atm (i : Nat) {E : TypeId} {xs sp : List Value} {q : Option (Nat × Nat)} {mo : List (Nat × Obj)} (hi : vs[i]? = some ⟨E, xs, sp, q, mo⟩) : S ++ vbl vs = (S ++ vbl (vs.take i)) ++ (vown E xs sp q ++ (mo ++ vbl (vs.drop (i + 1)))) := by
  rw [vbl_at (S := S) i hi]
  simp only [VR.bl, List.append_assoc]
theorem vbl_setm (i : Nat) {v : VR} {E : TypeId} {xs sp : List Value} {q : Option (Nat × Nat)} {mo : List (Nat × Obj)} (hi : vs[i]? = some v) : S ++ vbl (vs.set i ⟨E, xs, sp, q, mo⟩) = (S ++ vbl (vs.take i)) ++ (vown E xs sp q ++ (mo ++ vbl (vs.drop (i + 1)))) := by
  rw [vbl_set (S := S) i hi]
  simp only [VR.bl, List.append_assoc]
theorem zz {α : Type} (R : Row α) (i : Nat) {d : Nat} {t ty E : TypeId} {x y : Operand} {z : Value} {sz bytes ln mn cap c2 : Nat} {l m lm : List α} {sp : List Value} {q : Option (Nat × Nat)} {a2 : Option Addr} {pos : String} {after : Array Edge}
    (hlm : appc bytes l m = some lm) (ht : P.underlying t = some (.slice E)) (hi : (P.info? E).map (fun i => (i.zero, i.size, i.bytes)) = some (some z, sz, bytes)) (hsz : sz = R.sz) (hb0 : Nat.blt 0 bytes = true) (hz : z.cells.size = sz)
    {mo : List (Nat × Obj)} (hvi : vs[i]? = some ⟨E, R.enc l, sp, q, mo⟩) (hs0 : Nat.blt 0 R.sz = true) (hv : VOK sz ln cap (R.enc l) sp q)
    (hx : ev e x = some (slv q ln cap)) (hy : ev e y = some (.slice a2 mn c2)) (hmn : m.length = mn) (ha2 : AOK mn a2)
    (hsrc : ∀ w, HV w0 M S vs ro w → segOK w (aB a2, aO a2, R.enc m)) (hn : Nat.blt d n = true)
    (h : ∀ L : VL, VOK sz L.n L.cap (R.enc lm) L.sp L.q → ((q = none ↔ l = []) → (L.q = none ↔ lm = [])) → G n ds ((d, slv L.q L.n L.cap) :: e) (HV w0 M S (vs.set i ⟨E, R.enc lm, L.sp, L.q, mo⟩) ro) (wpListIn (fw r) 0 P ops Q rest)) :
    G n ds e (HV w0 M S vs ro) (wpListIn (fw r) 0 P ops Q (⟨some d, .call ⟨.builtin .append, #[x, y], #[t, t]⟩, ty, pos, after, none⟩ :: rest)) := by
  obtain ⟨rfl, hbytes⟩ := appcO hlm
  have hb1 : 0 < bytes := by simpa using hb0
  subst hsz hmn
  obtain rfl := vlen R hv hs0
  by_cases hm : m = []
  · subst hm
    have hrest := h ⟨q, l.length, cap, sp⟩ (by simpa using hv) (by simp)
    simp only [List.append_nil] at hrest
    have hset : vs.set i ⟨E, R.enc l, sp, q, mo⟩ = vs := by
      apply List.ext_getElem?
      intro k
      rw [List.getElem?_set]
      split
      · rename_i hik
        subst hik
        have := (List.getElem?_eq_some_iff.1 hvi).1
        rw [if_pos this, hvi]
      · rfl
    rw [hset] at hrest
    intro a w he hh
    obtain ⟨ii, hii⟩ : ∃ ii, P.info? E = some ii := by
      cases hh : P.info? E with
      | none => simp [hh] at hi
      | some ii => exact ⟨ii, rfl⟩
    have hle := hv.hle
    have hrun : (Builtin.append_ #[t, t] ty #[slv q l.length cap, .slice a2 0 c2]).run P w = .ok (slv q l.length cap) w := by
      cases q <;> cases a2 <;> simp [Builtin.append_, run_underlying ht, sizeOf, typeInfo, hii, Builtin.lenOf, Builtin.firstCells, hle, slv, storeCells, loadCells, loadCellsFrom]
    refine wpListIn_value (v := slv q l.length cap) (w' := w) (wanted_none rfl _) (by simp only [execOp, resolve]; simp [invoke, builtin, he.eval hx, he.eval (show ev e y = some (.slice a2 0 c2) from hy), hrun]) ?_
    exact hrest _ w (he.put hn _) hh
  · have hm0 : 0 < m.length := List.length_pos_iff.2 hm
    have hmx : l.length + m.length ≤ maxLen := by
      have h1 : (l.length + m.length) * 1 ≤ (l.length + m.length) * bytes := Nat.mul_le_mul_left _ hb1
      have h2 : maxLen = 9223372036854775807 := rfl
      omega
    obtain ⟨b2, o2, rfl⟩ := ha2 hm0
    have e1 := vbl_atm (S := S) i hvi
    refine G.pre (H' := HS w0 M ((S ++ vbl (vs.take i)) ++ (vown E (R.enc l) sp q ++ (mo ++ vbl (vs.drop (i + 1))))) ro) ?_ (fun w hh => ?_)
    · refine jap (q2 := some (b2, o2)) (S ++ vbl (vs.take i)) ht hi hz hx hy hv (by simp) hm0 (by rw [R.enc_len]) (fun w hh => hsrc w ?_) (R.enc_one m) hmx hbytes hn (fun q' cap' sp' hv' => ?_)
      · unfold HV; rw [e1]; exact hh
      · have := h ⟨some q', l.length + m.length, cap', sp'⟩ (by rw [R.enc_append]; exact hv') (fun _ => by simp [hm])
        refine this.pre (fun w hh => ?_)
        unfold HV
        rw [vbl_setm (S := S) i hvi, R.enc_append]
        exact hh
    · have : HS w0 M (S ++ vbl vs) ro w := hh
      rw [e1] at this
      exact this
theorem enc_rep {α : Type} (R : Row α) (z : α) : ∀ k, R.enc (List.replicate k z) = (List.replicate k (R.cells z)).flatten
  | 0 => rfl
  | k + 1 => by rw [List.replicate_succ, List.replicate_succ, List.flatten_cons, ← enc_rep R z k]; rfl
theorem made_get {z : Array Value} {sz c : Nat} (hz : z.size = sz) : (madeCells z (c * sz)).toList = (List.replicate c z.toList).flatten := by
  subst hz
  apply List.ext_getElem?
  intro j
  induction c generalizing j with
  | zero => simp [madeCells]
  | succ c ih =>
    have key : ∀ k, (madeCells z k).toList = (List.range k).map (fun i => z[i % z.size]!) := by
      intro k; simp [madeCells]
    rw [key] at ih ⊢
    rw [List.replicate_succ, List.flatten_cons]
    by_cases hj : j < z.size
    · rw [List.getElem?_append_left (by simpa using hj), List.getElem?_map, List.getElem?_range (by rw [Nat.add_mul]; omega)]
      simp [Nat.mod_eq_of_lt hj, hj]
    · rw [List.getElem?_append_right (by simpa using Nat.le_of_not_lt hj)]
      have h1 := ih (j - z.toList.length)
      rw [← h1]
      simp only [List.getElem?_map, Array.length_toList]
      by_cases hk : j < (c + 1) * z.size
      · rw [List.getElem?_range hk, List.getElem?_range (by rw [Nat.add_mul] at hk; omega)]
        simp only [Option.map_some, Option.some.injEq]
        rw [show j % z.size = (j - z.size) % z.size from by rw [Nat.mod_eq_sub_mod (by omega)]]
      · rw [List.getElem?_eq_none (by simp; omega), List.getElem?_eq_none (by simp; rw [Nat.add_mul] at hk; omega)]
theorem Y9 {α : Type} (R : Row α) (z : α) {d : Nat} {t E : TypeId} {zv : Value} {sz bytes : Nat} {x y : Operand} {k1 k2 : IntKind} {m1 m2 : Int} {l : List α} {ty : TypeId} {pos : String} {after : Array Edge}
    (hl : makec bytes z m1 m2 = some l) (ht : P.underlying t = some (.slice E)) (hi : (P.info? E).map (fun i => (i.zero, i.size, i.bytes)) = some (some zv, sz, bytes)) (hsz : sz = R.sz) (hzc : zv.cells.toList = R.cells z)
    (hx : ev e x = some (.int k1 m1)) (hy : ev e y = some (.int k2 m2)) (hn : Nat.blt d n = true)
    (h : ∀ L : VL, VOK sz L.n L.cap (R.enc l) L.sp L.q → G n ds ((d, slv L.q L.n L.cap) :: e) (HV w0 M S (⟨E, R.enc l, L.sp, L.q, []⟩ :: vs) ro) (wpListIn (fw r) 0 P ops Q rest)) :
    G n ds e (HV w0 M S vs ro) (wpListIn (fw r) 0 P ops Q (⟨some d, .makeSlice t x y, ty, pos, after, none⟩ :: rest)) := by
  obtain ⟨rfl, h0, hnc, hb, hc⟩ := makecO hl
  subst hsz
  obtain ⟨ii, hi1, hi2⟩ : ∃ ii, P.info? E = some ii ∧ (ii.zero, ii.size, ii.bytes) = (some zv, R.sz, bytes) := by
    cases hii : P.info? E with
    | none => simp [hii] at hi
    | some ii => exact ⟨ii, rfl, by simpa [hii] using hi⟩
  simp only [Prod.mk.injEq] at hi2
  have hb' : bytes * m2.toNat ≤ 281474976710656 := by
    have h1 : ((m2.toNat : Nat) : Int) = m2 := by omega
    have h2 : ((bytes * m2.toNat : Nat) : Int) = (bytes : Int) * m2 := by rw [Int.natCast_mul, h1]
    omega
  have hzs : zv.cells.size = R.sz := by rw [← Array.length_toList, hzc, R.len]
  refine Z2 (l := m1.toNat) (c := m2.toNat) ht hi1 hi2.1 hi2.2.1 hi2.2.2 hx hy (by omega) (by omega) (by omega) hb' (by omega) hn (fun b hbn => ?_)
  have hcells : (madeCells zv.cells (m2.toNat * R.sz)).toList = R.enc (List.replicate m1.toNat z) ++ R.enc (List.replicate (m2.toNat - m1.toNat) z) := by
    rw [made_get hzs, hzc, ← enc_rep, ← R.enc_append, List.replicate_append_replicate, show m1.toNat + (m2.toNat - m1.toNat) = m2.toNat by omega]
  have hv : VOK R.sz (List.replicate m1.toNat z).length m2.toNat (R.enc (List.replicate m1.toNat z)) (R.enc (List.replicate (m2.toNat - m1.toNat) z)) (some (b, 0)) :=
    ⟨R.enc_len _, by rw [← R.enc_append, R.enc_len, List.replicate_append_replicate, List.length_replicate, show m1.toNat + (m2.toNat - m1.toNat) = m2.toNat by omega], by rw [List.length_replicate]; omega, by have : maxLen = 9223372036854775807 := rfl; omega, by simp, by simp⟩
  have := h ⟨some (b, 0), (List.replicate m1.toNat z).length, m2.toNat, R.enc (List.replicate (m2.toNat - m1.toNat) z)⟩ hv
  simp only [List.length_replicate] at this
  refine this.pre (fun w hh => ?_)
  unfold HV
  simp only [vbl, VR.bl, vown]
  have e2 : (R.enc (List.replicate m1.toNat z) ++ R.enc (List.replicate (m2.toNat - m1.toNat) z)).toArray = madeCells zv.cells (m2.toNat * R.sz) := by
    apply Array.toList_inj.1; rw [hcells]
  rw [e2]
  exact HS.perm hh List.perm_middle.symm
theorem qE {α : Type} (R : Row α) (l : List α) {d : Nat} {t E : TypeId} {len sz : Nat} {parts : List (Nat × Operand)} {ps : List (Nat × Value)} {z : Value} {cells : List Value} {ty : TypeId} {pos : String} {after : Array Edge}
    (hu : ∀ w, (underlying t).run P w = .ok (.slice E) w) (hz : ∀ w, (sizeOf E).run P w = .ok sz w) (hzv : ∀ w, (zeroValue E).run P w = .ok z w) (hp : evp e parts = some ps) (hs : Nat.ble (len * sz) 16777216 = true)
    (hf : fillL sz (zsL z (len * sz)) ps = some cells) (hl0 : Nat.blt 0 (len * sz) = true) (hn : Nat.blt d n = true) (hsz : sz = R.sz) (hlen : l.length = len) (hc : cells = R.enc l)
    (h : ∀ L : VL, VOK sz L.n L.cap (R.enc l) L.sp L.q → G n ds ((d, slv L.q L.n L.cap) :: e) (HV w0 M S (⟨E, R.enc l, L.sp, L.q, []⟩ :: vs) ro) (wpListIn (fw r) 0 P ops Q rest)) :
    G n ds e (HV w0 M S vs ro) (wpListIn (fw r) 0 P ops Q (⟨some d, .buildSlice t len parts.toArray, ty, pos, after, none⟩ :: rest)) := by
  subst hc
  subst hlen
  refine ZJ hu hz hzv hp hs hf hl0 hn (fun b hb => ?_)
  have hle : l.length * sz ≤ 16777216 := Nat.le_of_ble_eq_true hs
  have hsz0 : 0 < sz := by
    have : 0 < l.length * sz := by simpa using hl0
    exact Nat.pos_of_mul_pos_left this
  have hll : l.length ≤ 16777216 := Nat.le_trans (Nat.le_mul_of_pos_right _ hsz0) hle
  have hv : VOK sz l.length l.length (R.enc l) [] (some (b, 0)) := VOK.full (by rw [R.enc_len, hsz]) (by have : maxLen = 9223372036854775807 := rfl; omega)
  have := h ⟨some (b, 0), l.length, l.length, []⟩ hv
  refine this.pre (fun w hh => ?_)
  unfold HV
  simp only [vbl, VR.bl, vown, List.append_nil]
  exact HS.perm hh List.perm_middle.symm

theorem jaq {α : Type} (R : Row α) {d : Nat} {t E : TypeId} {sz : Nat} {ty : TypeId} {pos : String} {after : Array Edge}
    (hu : ∀ w, (underlying t).run P w = .ok (.slice E) w) (hz : ∀ w, (sizeOf E).run P w = .ok sz w) (hn : Nat.blt d n = true) (hsz : sz = R.sz)
    (h : ∀ L : VL, VOK sz L.n L.cap (R.enc []) L.sp L.q → G n ds ((d, slv L.q L.n L.cap) :: e) (HV w0 M S (⟨E, R.enc [], L.sp, L.q, []⟩ :: vs) ro) (wpListIn (fw r) 0 P ops Q rest)) :
    G n ds e (HV w0 M S vs ro) (wpListIn (fw r) 0 P ops Q (⟨some d, .buildSlice t 0 #[], ty, pos, after, none⟩ :: rest)) := by
  refine jae (.cells #[] E (0, 0)) (fun b => slv (some (b, 0)) 0 0) rfl rfl hn (fun a w he _ => ?_) (fun b hb => ?_)
  · have e0 : (Array.map (fun _ => (default : Value)) (Array.range 0)) = #[] := by simp
    simp [execOp, Instr.buildSlice, hu, hz, Instr.fill, newRow, slv, e0]
  · have hv : VOK sz 0 0 (R.enc []) [] (some (b, 0)) := ⟨by simp [Row.enc], by simp [Row.enc], Nat.le_refl _, Nat.zero_le _, by simp, by simp⟩
    have := h ⟨some (b, 0), 0, 0, []⟩ hv
    refine this.pre (fun w hh => ?_)
    unfold HV
    simp only [vbl, VR.bl, vown, List.append_nil, R.enc_nil]
    exact HS.perm hh List.perm_middle.symm

theorem HV.vupd {w w' : World} (hh : HV w0 M S vs ro w) (i : Nat) {E : TypeId} {xs xs' sp : List Value} {q : Nat × Nat} {mo : List (Nat × Obj)} (hi : vs[i]? = some ⟨E, xs, sp, some q, mo⟩) (hx : Ext [q.1] w w') (ho : w'.heap[q.1]? = some (.cells (xs' ++ sp).toArray E (0, 0))) : HV w0 M S (vs.set i ⟨E, xs', sp, some q, mo⟩) ro w' := by
  have h1 : HS w0 M ((S ++ vbl (vs.take i)) ++ (vown E xs sp (some q) ++ (mo ++ vbl (vs.drop (i + 1))))) ro w := by
    have : HS w0 M (S ++ vbl vs) ro w := hh
    rw [vbl_atm (S := S) i hi] at this
    exact this
  have hk : ((S ++ vbl (vs.take i)) ++ (vown E xs sp (some q) ++ (mo ++ vbl (vs.drop (i + 1)))))[(S ++ vbl (vs.take i)).length]? = some (q.1, .cells (xs ++ sp).toArray E (0, 0)) := by
    rw [List.getElem?_append_right (Nat.le_refl _)]; simp [vown]
  have h2 := h1.upd (S ++ vbl (vs.take i)).length hk hx ho
  unfold HV
  rw [vbl_setm (S := S) i hi]
  rw [List.set_append_right _ _ (Nat.le_refl _)] at h2
  simpa [vown] using h2
theorem ja0 {α : Type} (R : Row α) (i : Nat) (f : Nat) (x1 : α) {t : TypeId} {x y : Operand} {b a : Nat} {E : TypeId} {sz ln cap : Nat} {l l' : List α} {j : Int} {x0 : α} {v : Value} {sp : List Value} {q : Option (Nat × Nat)} {ty : TypeId} {pos : String} {after : Array Edge}
    (hz : ∀ w, (sizeOf t).run P w = .ok 1 w) (hx : ev e x = some (ptr b a)) (hy : ev e y = some v) (h1 : v.oneCell' = true) {mo : List (Nat × Obj)} (hvi : vs[i]? = some ⟨E, R.enc l, sp, q, mo⟩) (hv : VOK sz ln cap (R.enc l) sp q)
    (hb : b = bk q) (ha : a = off q + j.toNat * sz + f) (hsz : sz = R.sz) (hj : ix l j = some x0) (hf : Nat.blt f sz = true) (hset : (R.cells x0).set f v = R.cells x1) (hl' : l.set j.toNat x1 = l')
    (h : VOK sz ln cap (R.enc l') sp q → G n ds e (HV w0 M S (vs.set i ⟨E, R.enc l', sp, q, mo⟩) ro) (wpListIn (fw r) 0 P ops Q rest)) :
    G n ds e (HV w0 M S vs ro) (wpListIn (fw r) 0 P ops Q (⟨none, .store t x y, ty, pos, after, none⟩ :: rest)) := fun ac w he hh => by
  subst hsz hl'
  obtain ⟨hj0, hjl, hjx⟩ := ixO hj
  have hf' : f < R.sz := by simpa using hf
  cases q with
  | none =>
    have h1 := (hv.hnone rfl).1
    have h2 := hv.hlen
    rw [R.enc_len, h1, Nat.zero_mul] at h2
    have h3 : 0 < l.length * R.sz := Nat.mul_pos (by omega) (Nat.lt_of_le_of_lt (Nat.zero_le _) hf')
    omega
  | some p =>
    have hoff := hv.hoff p rfl
    have hbk : w.heap[p.1]? = some (.cells (R.enc l ++ sp).toArray E (0, 0)) := hh.hs.ownOK (p.1, _) (HV.vmem i hvi _ (by simp [VR.bl, vown]))
    simp only [bk, off, Option.getD_some, hoff, Nat.zero_add] at hb ha
    subst hb ha
    have hlt : j.toNat * R.sz + f < (R.enc l).length := by
      rw [R.enc_len]
      have : (j.toNat + 1) * R.sz ≤ l.length * R.sz := Nat.mul_le_mul_right _ hjl
      rw [Nat.add_mul] at this
      omega
    have hs := run_storeVar_cell (P := P) (t := t) (v := v) (o := j.toNat * R.sz + f) (hz w) hbk (by simp; omega) h1
    have hset2 := R.enc_set1 l j.toNat f x0 x1 v hjx hf' hset
    have hcs : (R.enc l ++ sp).toArray.setIfInBounds (j.toNat * R.sz + f) v = (R.enc (l.set j.toNat x1) ++ sp).toArray := by
      apply Array.toList_inj.1
      rw [Array.toList_setIfInBounds]
      simp only
      rw [List.set_append_left _ _ hlt, hset2]
    rw [hcs] at hs
    refine wpListIn_skipped (w' := w.setRow p.1 (R.enc (l.set j.toNat x1) ++ sp).toArray) (by simp) (wanted_none rfl _) (by simp [execOp, he.eval hx, he.eval hy, Instr.storeAt, Instr.sureAddr, hs]) ?_
    have hlen : (R.enc (l.set j.toNat x1)).length = (R.enc l).length := by rw [R.enc_len, R.enc_len, List.length_set]
    refine h ⟨by rw [hlen]; exact hv.hlen, by rw [List.length_append, hlen, ← List.length_append]; exact hv.hcap, hv.hle, hv.hmax, (fun hn => by cases hn), hv.hoff⟩ ac _ he (hh.vupd i hvi Ext.setRow (setRow_heap w p.1 _ _ E (0, 0) hbk))
theorem jaF {α : Type} (R : Row α) (i : Nat) (x1 : α) {t : TypeId} {x y : Operand} {b a : Nat} {E : TypeId} {sz ln cap : Nat} {l l' : List α} {j : Int} {x0 : α} {us : Array Value} {sp : List Value} {q : Option (Nat × Nat)} {ty : TypeId} {pos : String} {after : Array Edge}
    (hz : ∀ w, (sizeOf t).run P w = .ok us.size w) (hx : ev e x = some (ptr b a)) (hy : ev e y = some (.agg us)) {mo : List (Nat × Obj)} (hvi : vs[i]? = some ⟨E, R.enc l, sp, q, mo⟩) (hv : VOK sz ln cap (R.enc l) sp q)
    (hb : b = bk q) (ha : a = off q + j.toNat * sz) (hsz : sz = R.sz) (hs0 : Nat.blt 0 R.sz = true) (hj : ix l j = some x0) (hset : us.toList = R.cells x1) (hl' : l.set j.toNat x1 = l')
    (h : VOK sz ln cap (R.enc l') sp q → G n ds e (HV w0 M S (vs.set i ⟨E, R.enc l', sp, q, mo⟩) ro) (wpListIn (fw r) 0 P ops Q rest)) :
    G n ds e (HV w0 M S vs ro) (wpListIn (fw r) 0 P ops Q (⟨none, .store t x y, ty, pos, after, none⟩ :: rest)) := fun ac w he hh => by
  subst hsz hl'
  obtain ⟨hj0, hjl, hjx⟩ := ixO hj
  cases q with
  | none =>
    have h1 := (hv.hnone rfl).1
    have h2 := hv.hlen
    rw [R.enc_len, h1, Nat.zero_mul] at h2
    have h3 : 0 < l.length * R.sz := Nat.mul_pos (by omega) (by simpa using hs0)
    omega
  | some p =>
    have hoff := hv.hoff p rfl
    have hbk : w.heap[p.1]? = some (.cells (R.enc l ++ sp).toArray E (0, 0)) := hh.hs.ownOK (p.1, _) (HV.vmem i hvi _ (by simp [VR.bl, vown]))
    simp only [bk, off, Option.getD_some, hoff, Nat.zero_add] at hb ha
    subst hb ha
    have hus : us.toList.length = R.sz := by rw [hset, R.len]
    have hle : j.toNat * R.sz + R.sz ≤ (R.enc l).length := by
      rw [R.enc_len]
      have : (j.toNat + 1) * R.sz ≤ l.length * R.sz := Nat.mul_le_mul_right _ hjl
      rw [Nat.add_mul] at this
      omega
    have hst := run_storeCells_at P p.1 (j.toNat * R.sz) E us.toList 0 (R.enc l ++ sp).toArray w hbk (by simp [hus]; omega) (fun v hv => ones_all (R.one x1) v (by rw [← hset]; exact hv))
    have hcs : (R.enc l ++ sp).toArray.toList.take (j.toNat * R.sz + 0) ++ us.toList ++ (R.enc l ++ sp).toArray.toList.drop (j.toNat * R.sz + 0 + us.toList.length) = R.enc (l.set j.toNat x1) ++ sp := by
      rw [← R.enc_set l j.toNat x0 x1 hjx, hus, hset]
      simp only [Nat.add_zero]
      rw [List.take_append_of_le_length (by omega), List.drop_append_of_le_length (by omega), List.append_assoc, List.append_assoc, List.append_assoc]
    rw [hcs] at hst
    have hs : (storeVar t ⟨p.1, j.toNat * R.sz, none⟩ (.agg us)).run P w = .ok () (w.setRow p.1 (R.enc (l.set j.toNat x1) ++ sp).toArray) := by
      simp [storeVar, hz, Value.cells, hst]
    refine wpListIn_skipped (w' := w.setRow p.1 (R.enc (l.set j.toNat x1) ++ sp).toArray) (by simp) (wanted_none rfl _) (by simp [execOp, he.eval hx, he.eval hy, Instr.storeAt, Instr.sureAddr, hs]) ?_
    have hlen : (R.enc (l.set j.toNat x1)).length = (R.enc l).length := by rw [R.enc_len, R.enc_len, List.length_set]
    refine h ⟨by rw [hlen]; exact hv.hlen, by rw [List.length_append, hlen, ← List.length_append]; exact hv.hcap, hv.hle, hv.hmax, (fun hn => by cases hn), hv.hoff⟩ ac _ he (hh.vupd i hvi Ext.setRow (setRow_heap w p.1 _ _ E (0, 0) hbk))

theorem jd {ι : Type} {o : Oper} {d : Nat} {p : ι → Prop} {ret : ι → Value} {f : FuncId} {x : Operand} {xs : List Operand} {ts : Array TypeId} {fst cap : Array Value} {us args : List Value} (S0 : List (Nat × Obj)) (vs0 : List VR) {S1 : ι → List (Nat × Obj)} {vs1 : ι → List VR}
    (ho : o.op = .call ⟨.value x, xs.toArray, ts⟩) (hd : o.dst = some d) (hg : o.guard = none) (hn : Nat.blt d n = true)
    (hx : ev e x = some (.func (.func f) fst cap)) (hxs : evs e xs = some us) (ha : fst.toList ++ us ++ cap.toList = args)
    (hf : ∀ args w, (callFunc f args).run P w = .ok (.enter f args) w)
    (hc : ∀ w, HV w0 M (S0 ++ S) (vs0 ++ vs) ro w → Calls P f args.toArray w (fun en w' => ∃ i, en = .returned (ret i) ∧ p i ∧ HV w (keys S0 vs0) (S1 i) (vs1 i) [] w'))
    (h : ∀ i, p i → G n ds ((d, ret i) :: e) (HV w0 M (S1 i ++ S) (vs1 i ++ vs) ro) (wpListIn (fw r) 0 P ops Q rest)) : G n ds e (HV w0 M (S0 ++ S) (vs0 ++ vs) ro) (wpListIn (fw r) 0 P ops Q (o :: rest)) :=
  Z3 (H' := fun i w' => p i ∧ HV w0 M (S1 i ++ S) (vs1 i ++ vs) ro w') ho hd hg hn hx hxs ha hf (fun w hh => (hc w hh).mono (by rintro en w' ⟨i, rfl, hp, hF⟩; exact ⟨i, rfl, hp, hh.back hF⟩))
    (fun i => Zo (fun w hh => hh.1) (fun hp => (h i hp).pre (fun w hh => hh.2)))
theorem HV.news {w w' : World} (h : HV w0 M S vs ro w) {Sg' : List Sg} (hn : News w w' Sg') : HV w0 M S vs (Sg' ++ ro) w' := HS.news h hn
end ops

section vals
variable {P : Program} {e : EnvL} {w : World} {dst : Option Tmp} {ty : TypeId} {pos : String} {after : Array Edge} {g : Option (Nat × Bool)}
theorem Kh {t u : TypeId} {x y : Operand} {a b c : Int} (h : addc a b = some c) (hx : ev e x = some (.int .i64 a)) (hy : ev e y = some (.int .i64 b)) : Val P e w ⟨dst, .binOp .add t x y u, ty, pos, after, g⟩ (.int .i64 c) := by
  obtain ⟨rfl, h1⟩ := addcO h; exact jaj hx hy (wrap_i64 h1)
theorem zO {t u : TypeId} {x y : Operand} {a b c : Int} (h : subc a b = some c) (hx : ev e x = some (.int .i64 a)) (hy : ev e y = some (.int .i64 b)) : Val P e w ⟨dst, .binOp .sub t x y u, ty, pos, after, g⟩ (.int .i64 c) := by
  obtain ⟨rfl, h1⟩ := subcO h; exact jbd hx hy (wrap_i64 h1)
theorem jba {t u : TypeId} {x y : Operand} {k : IntKind} {a b c : Int} (h : remc a b = some c) (hx : ev e x = some (.int k a)) (hy : ev e y = some (.int k b)) : Val P e w ⟨dst, .binOp .rem t x y u, ty, pos, after, g⟩ (.int k c) := by
  obtain ⟨rfl, h0⟩ := remcO h; exact jbh hx hy h0
theorem ja2 {t : TypeId} {x : Operand} {a c : Int} (h : negc a = some c) (hx : ev e x = some (.int .i64 a)) : Val P e w ⟨dst, .unOp .neg t x, ty, pos, after, g⟩ (.int .i64 c) := by
  obtain ⟨rfl, h1⟩ := negcO h; exact jbe hx (wrap_i64 h1)
theorem yc {x : Operand} (hx : ev e x = some (.slice none 0 0)) : Val P e w ⟨dst, .assign x, ty, pos, after, g⟩ (slv none 0 0) := kM hx
theorem binOp_eql_sl {t : TypeId} {a c : Option Addr} {n1 c1 n2 c2 : Nat} : binOp .eql t (.slice a n1 c1) (.slice c n2 c2) = (do pure (.bool (← Op.equal t (.slice a n1 c1) (.slice c n2 c2)))) := rfl
theorem run_eqNil {t E : TypeId} {a : Option Addr} {n c : Nat} (hu : (underlying t).run P w = .ok (.slice E) w) : (Op.equal t (.slice a n c) (.slice none 0 0)).run P w = .ok a.isNone w := by
  have : (Op.equalIn 10000 t (.slice a n c) (.slice none 0 0)).run P w = .ok a.isNone w := by
    unfold Op.equalIn
    cases a <;> simp [hu]
  exact this
theorem jav {α : Type} {l : List α} {t u E : TypeId} {x y : Operand} {q : Option (Nat × Nat)} {n c : Nat} (hn : q = none ↔ l = []) (hu : (underlying t).run P w = .ok (.slice E) w) (hx : ev e x = some (slv q n c)) (hy : ev e y = some (.slice none 0 0)) :
    Val P e w ⟨dst, .binOp .eql t x y u, ty, pos, after, g⟩ (.bool l.isEmpty) := fun n' ds a he => by
  have h2 : (eqGuard .eql t x y (slv q n c) (.slice none 0 0)).run P w = .ok () w := by cases q <;> rfl
  have h3 : (qA q).isNone = l.isEmpty := by
    rw [Bool.eq_iff_iff]
    cases q <;> cases l <;> simp_all
  have h4 : (binOp .eql t (slv q n c) (.slice none 0 0)).run P w = .ok (.bool l.isEmpty) w := by
    simp only [slv, binOp_eql_sl, Sem.run_bind, run_eqNil hu, Result.andThen_ok, Sem.run_pure]
    rw [← h3]
  simp only [execOp, he.eval hx, he.eval hy, Sem.run_bind, h2, Result.andThen_ok, h4, Sem.run_pure]
theorem jai {t u E : TypeId} {x y : Operand} (hu : (underlying t).run P w = .ok (.slice E) w) (hx : ev e x = some (slv none 0 0)) (hy : ev e y = some (.slice none 0 0)) :
    Val P e w ⟨dst, .binOp .eql t x y u, ty, pos, after, g⟩ (.bool true) := jav (l := ([] : List Nat)) (by simp) hu hx hy
theorem JR {α : Type} {l : List α} {i : Int} {x : α} (h : ix l i = some x) {t E : TypeId} {xo io : Operand} {q : Option (Nat × Nat)} {n cap sz : Nat} {k : IntKind} (hu : (underlying t).run P w = .ok (.slice E) w) (hz : (sizeOf E).run P w = .ok sz w)
    (hx : ev e xo = some (slv q n cap)) (hi : ev e io = some (.int k i)) (hn : l.length = n) (hq : 0 < n → q ≠ none) : Val P e w ⟨dst, .indexAddr t xo io, ty, pos, after, g⟩ (ptr (bk q) (off q + i.toNat * sz)) := by
  obtain ⟨h0, h1, _⟩ := ixO h
  subst hn
  exact Zb i.toNat hu hz hx hi (by omega) h1 (hq (by omega))
theorem Jy {α : Type} {l : List α} {i : Int} {x : α} (h : ix l i = some x) {t E : TypeId} {xo io : Operand} {q : Option Addr} {n cap sz : Nat} {k : IntKind} (hu : (underlying t).run P w = .ok (.slice E) w) (hz : (sizeOf E).run P w = .ok sz w)
    (hx : ev e xo = some (.slice q n cap)) (hi : ev e io = some (.int k i)) (hn : l.length = n) (hq : AOK n q) : Val P e w ⟨dst, .indexAddr t xo io, ty, pos, after, g⟩ (ptr (aB q) (aO q + i.toNat * sz)) := by
  obtain ⟨h0, h1, _⟩ := ixO h
  subst hn
  obtain ⟨b, o, rfl⟩ := hq (by omega)
  exact Zb (r := some (b, o)) i.toNat hu hz hx hi (by omega) h1 (by simp)
theorem qd {α : Type} {l : List α} {t E : TypeId} {x : Operand} {q : Option Addr} {n cap : Nat} (hn : l.length = n) (hu : (underlying t).run P w = .ok (.slice E) w) (hx : ev e x = some (.slice q n cap)) :
    Val P e w ⟨dst, .call ⟨.builtin .len, #[x], #[t]⟩, ty, pos, after, g⟩ (.int .i64 l.length) := by
  subst hn; exact jaa hu hx
theorem zr {α : Type} {l : List α} {t E : TypeId} {x : Operand} {q : Option (Nat × Nat)} {n cap : Nat} (hn : l.length = n) (hu : (underlying t).run P w = .ok (.slice E) w) (hx : ev e x = some (slv q n cap)) :
    Val P e w ⟨dst, .call ⟨.builtin .len, #[x], #[t]⟩, ty, pos, after, g⟩ (.int .i64 l.length) := by
  subst hn; exact ja6 hu hx
theorem seg_elem {α : Type} (R : Row α) {l : List α} {i : Int} {x : α} {b o : Nat} (h : ix l i = some x) (hs : segOK w (b, o, R.enc l)) (f : Nat) {v : Value} (hv : (R.cells x)[f]? = some v) : w.cell? ⟨b, o + i.toNat * R.sz + f, none⟩ = some v := by
  obtain ⟨_, h1, h2⟩ := ixO h
  have hf : f < R.sz := by rw [← R.len x]; exact (List.getElem?_eq_some_iff.1 hv).1
  have := hs.at (j := i.toNat * R.sz + f) (v := v) (by rw [R.enc_get l i.toNat f x h2 hf]; exact hv)
  rwa [← Nat.add_assoc] at this
theorem zR {α : Type} (R : Row α) (f : Nat) {l : List α} {i : Int} {x : α} (h : ix l i = some x) {t : TypeId} {xo : Operand} {b o a : Nat} {v : Value} (hg' : (isAgg t).run P w = .ok false w) (hx : ev e xo = some (ptr b a)) (hs : segOK w (b, o, R.enc l)) (hv : (R.cells x)[f]? = some v) (ha : a = o + i.toNat * R.sz + f) :
    Val P e w ⟨dst, .load t xo, ty, pos, after, g⟩ v := by
  subst ha; exact jz hg' hx (seg_elem R h hs f hv)
theorem JE {α : Type} (R : Row α) (f : Nat) (us : List Value) {l : List α} {i : Int} {x : α} (h : ix l i = some x) {t : TypeId} {xo : Operand} {b o a : Nat} (hg' : (isAgg t).run P w = .ok true w) (hz : (sizeOf t).run P w = .ok us.length w) (hx : ev e xo = some (ptr b a)) (hs : segOK w (b, o, R.enc l)) (hu : ((R.cells x).drop f).take us.length = us) (ha : a = o + i.toNat * R.sz + f) :
    Val P e w ⟨dst, .load t xo, ty, pos, after, g⟩ (.agg us.toArray) := by
  subst ha
  refine jP hg' hz hx (fun j hj => ?_)
  have := seg_elem R h hs (f + j) (take_drop_get hu j hj)
  rwa [← Nat.add_assoc] at this
end vals
end Go.Gx

namespace Go.Gx
open Go Go.Fw
set_option linter.unusedVariables false
abbrev vk (sz : Nat) (L : VL) (xs : List Value) : Prop := VOK sz L.n L.cap xs L.sp L.q
abbrev sL (L : VL) : Value := slv L.q L.n L.cap
abbrev vL (E : TypeId) (L : VL) (xs : List Value) : VR := ⟨E, xs, L.sp, L.q, []⟩
section
variable {n : Nat} {ds : List Deferred} {e : EnvL} {H : World → Prop} {P : Program} {F : Fence} {Q : Exit → Act → World → Prop}
end
section
variable {P : Program} {e : EnvL} {w : World} {dst : Option Nat} {ty : TypeId} {pos : String} {after : Array Edge} {g : Option (Nat × Bool)}
end
section ops
variable {n : Nat} {ds : List Deferred} {e : EnvL} {P : Program} {r : Option Nat} {Q : Exit → Act → World → Prop} {ops : Array Oper} {w0 : World} {M : List Nat} {S : List (Nat × Obj)} {vs : List VR} {ro : List Sg} {rest : List Oper}
end ops
section skips
variable {n : Nat} {ds : List Deferred} {e : EnvL} {H : World → Prop} {P : Program} {r : Option Nat} {ops : Array Oper} {C : World → Prop} {X : Act → World → Prop}
theorem jaC {i d j t : Nat} {want : Bool} {p : Plan} {o : Oper} (ho : ops[i]? = some o) (hd : o.dst = some d) (hg : o.guard = some (j, want)) (hj : (ops[j]?).bind (·.dst) = some t) (ht : lk e t = some undef) (hn : Nat.blt d n = true)
    (h : G n ds ((d, undef) :: e) H (walk r P ops C X p)) : G n ds e H (walk r P ops C X (.hoist i p)) := fun a w he hh =>
  ⟨o, undef, ho, .inr ⟨by rw [wanted_undef' he hg hj ht], rfl⟩, by rw [hd]; exact h _ w (he.put hn undef) hh⟩
theorem Ql {i d j t : Nat} {want : Bool} {p : Plan} {o : Oper} (ho : ops[i]? = some o) (hd : o.dst = some d) (hg : o.guard = some (j, want)) (hj : (ops[j]?).bind (·.dst) = some t) (ht : lk e t = some undef) (hn : Nat.blt d n = true)
    (h : G n ds ((d, undef) :: e) H (walk r P ops C X p)) : G n ds e H (walk r P ops C X (.free i p)) := fun a w he hh =>
  ⟨o, undef, ho, .inr ⟨by rw [wanted_undef' he hg hj ht], rfl⟩, by rw [hd]; exact h _ w (he.put hn undef) hh⟩
end skips
section share
variable {n : Nat} {ds : List Deferred} {e : EnvL} {H : World → Prop} {P : Program} {r : Option Nat} {ops : Array Oper} {C : World → Prop} {X : Act → World → Prop} {w0 : World} {M : List Nat} {S : List (Nat × Obj)} {vs : List VR} {ro : List Sg}
theorem Kn {p : Plan} (q : Plan) (T : (EnvL → List (Nat × Obj) → List VR → Prop) → Prop)
    (h2 : T fun e S vs => G n ds e (HV w0 M S vs ro) (walk r P ops C X q))
    (h1 : (T fun e S vs => G n ds e (HV w0 M S vs ro) (walk r P ops C X q)) → G n ds e (HV w0 M S vs ro) (walk r P ops C X p)) : G n ds e (HV w0 M S vs ro) (walk r P ops C X p) := h1 h2
theorem KE {q : Plan} {e' : EnvL} {S' : List (Nat × Obj)} {vs' : List VR} (h : G n ds e' (HV w0 M S' vs' ro) (walk r P ops C X q)) (he : Sub e e') (hw : ∀ w, HV w0 M S vs ro w → HV w0 M S' vs' ro w) : G n ds e (HV w0 M S vs ro) (walk r P ops C X q) :=
  ZD he (h.pre hw)
end share
section desks
variable {n : Nat} {ds : List Deferred} {e : EnvL} {P : Program} {r : Option Nat} {Q : Exit → Act → World → Prop} {ops : Array Oper} {w0 : World} {M : List Nat} {S : List (Nat × Obj)} {vs : List VR} {ro : List Sg} {rest : List Oper}
theorem HV.bseg {w : World} (h : HV w0 M S vs ro w) (i : Nat) {b : Nat} {cs : Array Value} {T : TypeId} {fr : Nat × Nat} (hi : S[i]? = some (b, .cells cs T fr)) : segOK w (b, 0, cs.toList) := .of_block (h.get i hi)
theorem bsep {w : World} {b o : Nat} {xs : List Value} (h : segOK w (b, o, xs)) : segOK w (b, o, xs) ∧ (xs ≠ [] → b ∉ keys [] []) := ⟨h, fun _ => by simp [keys, vbl]⟩
end desks
section
variable {P : Program} {e : EnvL} {w : World} {dst : Option Nat} {ty : TypeId} {pos : String} {after : Array Edge} {g : Option (Nat × Bool)}
theorem YR {t u : TypeId} {x y : Operand} {k : IntKind} {m m' : Int} (h : ¬ (m = m')) (hx : ev e x = some (.int k m)) (hy : ev e y = some (.int k m')) : Val P e w ⟨dst, .binOp .neq t x y u, ty, pos, after, g⟩ (.bool true) := by
  have := Jc (P := P) (w := w) (dst := dst) (ty := ty) (pos := pos) (after := after) (g := g) (t := t) (u := u) hx hy
  simpa [h] using this
end
section tails
theorem enc_drop {α : Type} (R : Row α) : ∀ (m : Nat) (l : List α), R.enc (l.drop m) = (R.enc l).drop (m * R.sz)
  | 0, l => by simp
  | m + 1, [] => by simp [Row.enc]
  | m + 1, x :: l => by
    rw [List.drop_succ_cons, enc_drop R m l, Nat.succ_mul, Nat.add_comm, ← List.drop_drop]
    congr 1
    have h := R.len x
    show R.enc l = (R.cells x ++ R.enc l).drop R.sz
    rw [← h, List.drop_left]
def tailQ (q : Option (Nat × Nat)) (sz m cap : Nat) : Option (Nat × Nat) := q.map fun p => (p.1, if cap = m then p.2 else p.2 + m * sz)
variable {w0 w : World} {M : List Nat} {S : List (Nat × Obj)} {vs : List VR} {ro : List Sg}
theorem HV.tail {α : Type} (R : Row α) (h : HV w0 M S vs ro w) (i : Nat) {l : List α} {q : Option (Nat × Nat)} {m cap : Nat} (hi : ro[i]? = some (bk q, off q, R.enc l)) (hq : 0 < l.length → q ≠ none) (hc : l.length ≤ cap) (hm : m ≤ l.length) :
    HV w0 M S vs ((bk (tailQ q R.sz m cap), off (tailQ q R.sz m cap), R.enc (l.drop m)) :: ro) w := by
  have h0 : HS w0 M (S ++ vbl vs) ro w := h
  have hs := h0.roOK _ (List.mem_of_getElem? hi)
  have hp := h0.sep _ (List.mem_of_getElem? hi)
  have e : R.enc (l.drop m) ≠ [] → m < l.length := fun hne => by
    refine Classical.byContradiction fun hc => hne ?_
    rw [List.drop_eq_nil_of_le (by omega)]
    rfl
  have hne : R.enc (l.drop m) ≠ [] → R.enc l ≠ [] := fun h1 h2 => by
    rw [enc_drop, h2] at h1
    simp at h1
  have hb : bk (tailQ q R.sz m cap) = bk q := by cases q <;> rfl
  refine (⟨h0.os, h0.tape, h0.output, h0.size, h0.old, h0.ownOK, h0.new, h0.nodup, fun s hs' => ?_, fun s hs' hx => ?_⟩ : HS w0 M (S ++ vbl vs) _ w)
  · rcases List.mem_cons.1 hs' with rfl | hs'
    · by_cases hn : m < l.length
      · have hoff : off (tailQ q R.sz m cap) = off q + m * R.sz ∨ q = none := by
          cases q with
          | none => exact .inr rfl
          | some p => left; show (if cap = m then p.2 else p.2 + m * R.sz) = p.2 + m * R.sz; rw [if_neg (by omega)]
        have hsub : segOK w (bk q, off q + m * R.sz, R.enc (l.drop m)) := segOK.sub hs (m * R.sz) (fun j hj => by
          simp only [enc_drop] at hj ⊢
          rw [List.getElem_drop]
          simp only [List.length_drop] at hj
          rw [List.getElem?_eq_getElem (by omega)])
        rcases hoff with h1 | h1
        · rw [hb, h1]; exact hsub
        · exact absurd h1 (hq (by omega))
      · rw [List.drop_eq_nil_of_le (by omega)]
        exact segOK.nil
    · exact h0.roOK s hs'
  · rcases List.mem_cons.1 hs' with rfl | hs'
    · show bk (tailQ q R.sz m cap) ∉ _
      rw [hb]
      exact hp (hne hx)
    · exact h0.sep s hs' hx
end tails
section
variable {P : Program} {e : EnvL} {w : World} {dst : Option Nat} {ty : TypeId} {pos : String} {after : Array Edge} {g : Option (Nat × Bool)}
end
end Go.Gx

namespace Go.Gx
open Go Go.Fw
def afind {α β : Type} [DecidableEq α] : List (α × β) → α → Nat → Option (Nat × β)
  | [], _, _ => none
  | (k', v) :: r, k, i => if k = k' then some (i, v) else afind r k (i + 1)
def aget {α β : Type} [DecidableEq α] (l : List (α × β)) (k : α) : Option β := (afind l k 0).map (·.2)
def aset {α β : Type} [DecidableEq α] (l : List (α × β)) (k : α) (v : β) : List (α × β) := match afind l k 0 with
  | some (i, _) => l.modify i (fun p => (p.1, v))
  | none => l ++ [(k, v)]
def gents {α β : Type} (ke : α → Value) (ve : β → Value) : Nat → List (α × β) → List MapEntry
  | _, [] => []
  | j, (k, v) :: r => ⟨ke k, ve v, j⟩ :: gents ke ve (j + 1) r
def gobj {α β : Type} (ke : α → Value) (ve : β → Value) (l : List (α × β)) : Obj := .map (gents ke ve 0 l).toArray l.length
section
variable {α β : Type} {ke : α → Value} {ve : β → Value}
theorem gents_append : ∀ (j : Nat) (l r : List (α × β)), gents ke ve j (l ++ r) = gents ke ve j l ++ gents ke ve (j + l.length) r
  | j, [], r => by simp [gents]
  | j, (k, v) :: l, r => by
    simp only [List.cons_append, gents, gents_append (j + 1) l r, List.length_cons]
    rw [show j + 1 + l.length = j + (l.length + 1) by omega]
theorem gents_get : ∀ (l : List (α × β)) (j i : Nat), (gents ke ve j l)[i]? = (l[i]?).map (fun p => ⟨ke p.1, ve p.2, j + i⟩)
  | [], _, _ => by simp [gents]
  | (k, v) :: r, j, 0 => by simp [gents]
  | (k, v) :: r, j, i + 1 => by
    simp only [gents, List.getElem?_cons_succ, gents_get r (j + 1) i]
    rw [show j + 1 + i = j + (i + 1) by omega]
theorem gents_modify {f : MapEntry → MapEntry} {g : α × β → α × β} : ∀ (l : List (α × β)) (j i : Nat), (∀ p, l[i]? = some p → f ⟨ke p.1, ve p.2, j + i⟩ = ⟨ke (g p).1, ve (g p).2, j + i⟩) → (gents ke ve j l).modify i f = gents ke ve j (l.modify i g)
  | [], _, _, _ => by simp [gents]
  | (k, v) :: r, j, 0, h => by
    have := h (k, v) rfl
    simp only [Nat.add_zero] at this
    simp [gents, this]
  | (k, v) :: r, j, i + 1, h => by
    have := gents_modify (f := f) (g := g) r (j + 1) i (fun p hp => by
      have := h p (by simpa using hp)
      rw [show j + 1 + i = j + (i + 1) by omega]; exact this)
    simp [gents, this]
variable [DecidableEq α]
theorem afind_some : ∀ {l : List (α × β)} {k : α} {i j : Nat} {v : β}, afind l k i = some (j, v) → i ≤ j ∧ l[j - i]? = some (k, v)
  | [], _, _, _, _, h => by cases h
  | (k', v') :: r, k, i, j, v, h => by
    unfold afind at h
    split at h
    · rename_i hk
      cases h
      subst hk
      simp
    · obtain ⟨h1, h2⟩ := afind_some h
      refine ⟨by omega, ?_⟩
      rw [show j - i = (j - (i + 1)) + 1 by omega]
      simpa using h2
def kI (n : Int) : Value := .int .i64 n
def kB (b : Bool) : Value := .bool b
structure KeyOK (P : Program) (K : TypeId) {α : Type} [DecidableEq α] (ke : α → Value) : Prop where
  chk : ∀ b k w, (Instr.checkKey b 10000 K (ke k)).run P w = .ok () w
  fnd : ∀ {β : Type} (ve : β → Value) (l : List (α × β)) (j : Nat) (k : α) (w : World), (Instr.findKey K (ke k) (gents ke ve j l)).run P w = .ok ((afind l k 0).map fun p => (p.1, ve p.2)) w
  sta : ∀ k w, (Instr.keyThatStays (ke k) (ke k)).run P w = .ok (ke k) w
theorem findNow_int {κ : IntKind} {k : Int} {ve : β → Value} : ∀ (l : List (Int × β)) (j i : Nat), Instr.findNow (.int κ) (.int .i64 k) (gents kI ve j l) i = some ((afind l k i).map fun p => (p.1, ve p.2))
  | [], _, _ => rfl
  | (k', v) :: r, j, i => by
    simp only [gents, kI, Instr.findNow, Instr.sameNow, if_true, afind]
    by_cases h : k = k'
    · simp [h]
    · have h2 : (k == k') = false := by simpa using h
      simp only [h2, h, if_false]
      exact findNow_int r (j + 1) (i + 1)
theorem KeyOK.int {P : Program} {K : TypeId} {κ : IntKind} (hu : ∀ w, (underlying K).run P w = .ok (.int κ) w) : KeyOK P K kI where
  chk b k w := by
    rw [show (10000 : Nat) = 9999 + 1 from rfl, Instr.checkKey]
    simp only [Sem.run_bind, hu, Result.andThen_ok, Sem.run_pure]
  fnd ve l j k w := by
    have h := findNow_int (κ := κ) (k := k) (ve := ve) l j 0
    simp only [Instr.findKey, Sem.run_bind, hu, Result.andThen_ok, kI, h, Sem.run_pure]
  sta k w := by simp [kI, Instr.keyThatStays, Instr.sameBits]
end
section
variable {P : Program} {w : World} {e : EnvL} {dst : Option Nat} {ty : TypeId} {pos : String} {after : Array Edge} {g : Option (Nat × Bool)}
variable {α β : Type} {ke : α → Value} {ve : β → Value}
theorem run_getG {bm : Nat} {l : List (α × β)} (hm : w.heap[bm]? = some (gobj ke ve l)) : (getObj bm).run P w = .ok (gobj ke ve l) w := by simp [getObj, Sem.run, hm, gobj]
theorem run_setG {bm : Nat} {l : List (α × β)} (o : Obj) (hm : w.heap[bm]? = some (gobj ke ve l)) : (setObj bm o).run P w = .ok () (w.putObj bm o) := by simp [setObj, Sem.run, hm, gobj, World.putObj]
variable [DecidableEq α]
theorem Qj {t K E : TypeId} {x i : Operand} {bm : Nat} {k : α} {l : List (α × β)} {z : β} (hu : (underlying t).run P w = .ok (.map K E) w) (hk : KeyOK P K ke) (hz : (zeroValue E).run P w = .ok (ve z) w)
    (hx : ev e x = some (.map (some bm))) (hi : ev e i = some (ke k)) (hm : w.heap[bm]? = some (gobj ke ve l)) : Val P e w ⟨dst, .lookup t x i false, ty, pos, after, g⟩ (ve ((aget l k).getD z)) := fun n ds a he => by
  have h1 := run_getG (P := P) hm
  simp only [execOp, he.eval hx, he.eval hi, Instr.lookup, Sem.run_bind, hu, Result.andThen_ok, h1, gobj, Sem.run_pure, hk.chk, hk.fnd, aget]
  cases hf : afind l k 0 with
  | none => simp [hz]
  | some p => simp
theorem Zv {t K E : TypeId} {x i : Operand} {bm : Nat} {k : α} {l : List (α × β)} {z : β} (hu : (underlying t).run P w = .ok (.map K E) w) (hk : KeyOK P K ke) (hz : (zeroValue E).run P w = .ok (ve z) w)
    (hx : ev e x = some (.map (some bm))) (hi : ev e i = some (ke k)) (hm : w.heap[bm]? = some (gobj ke ve l)) : Val P e w ⟨dst, .lookup t x i true, ty, pos, after, g⟩ (.tuple #[ve ((aget l k).getD z), .bool (aget l k).isSome]) := fun n ds a he => by
  have h1 := run_getG (P := P) hm
  simp only [execOp, he.eval hx, he.eval hi, Instr.lookup, Sem.run_bind, hu, Result.andThen_ok, h1, gobj, Sem.run_pure, hk.chk, hk.fnd, aget]
  cases hf : afind l k 0 with
  | none => simp [hz]
  | some p => simp
theorem run_mapUpG {t K E : TypeId} {bm : Nat} {k : α} {v : β} {l : List (α × β)} (hu : (underlying t).run P w = .ok (.map K E) w) (hk : KeyOK P K ke) (hm : w.heap[bm]? = some (gobj ke ve l)) :
    (Instr.mapUpdate t (.map (some bm)) (ke k) (ve v)).run P w = .ok () (w.putObj bm (gobj ke ve (aset l k v))) := by
  have h1 := run_getG (P := P) hm
  have h2 := fun o => run_setG (P := P) o hm
  rw [gobj] at h1
  simp only [Instr.mapUpdate, Sem.run_bind, hu, Result.andThen_ok, h1, hk.chk, hk.fnd]
  cases hf : afind l k 0 with
  | none =>
    have : aset l k v = l ++ [(k, v)] := by simp [aset, hf]
    have hm2 : gobj ke ve (l ++ [(k, v)]) = .map ((gents ke ve 0 l).toArray.push { key := ke k, val := ve v, born := l.length }) (l.length + 1) := by
      simp [gobj, gents_append, gents]
    simp only [h2, this, hm2, Option.map_none]
  | some p =>
    obtain ⟨i, u⟩ := p
    obtain ⟨_, hl⟩ := afind_some hf
    simp only [Nat.sub_zero] at hl
    have : aset l k v = l.modify i (fun p => (p.1, v)) := by simp [aset, hf]
    have hg : (gents ke ve 0 l).toArray[i]? = some ⟨ke k, ve u, i⟩ := by simp [gents_get, hl]
    have hm2 : gobj ke ve (l.modify i (fun p => (p.1, v))) = .map ((gents ke ve 0 l).toArray.modify i fun e => { e with key := ke k, val := ve v }) l.length := by
      have := gents_modify (ke := ke) (ve := ve) (f := fun e => { e with key := ke k, val := ve v }) (g := fun p => (p.1, v)) l 0 i (fun p hp => by rw [hl] at hp; cases hp; rfl)
      simp only [gobj, List.length_modify, ← this, List.modify_toArray]
    simp only [hg, Option.map_some, Option.getD_some, Sem.run_bind, hk.sta, Result.andThen_ok, h2, this, hm2]
end
section
variable {n : Nat} {ds : List Deferred} {e : EnvL} {P : Program} {r : Option Nat} {Q : Exit → Act → World → Prop} {ops : Array Oper} {w0 : World} {M : List Nat} {S : List (Nat × Obj)} {vs : List VR} {ro : List Sg} {rest : List Oper}
variable {α β : Type}
theorem Q8 (ke : α → Value) (ve : β → Value) {d : Nat} {t ty : TypeId} {pos : String} {after : Array Edge} (hn : Nat.blt d n = true)
    (h : ∀ b, w0.heap.size ≤ b → G n ds ((d, .map (some b)) :: e) (HV w0 M ((b, gobj ke ve []) :: S) vs ro) (wpListIn (fw r) 0 P ops Q rest)) :
    G n ds e (HV w0 M S vs ro) (wpListIn (fw r) 0 P ops Q (⟨some d, .makeMap t none, ty, pos, after, none⟩ :: rest)) :=
  jae (gobj ke ve []) (fun b => .map (some b)) rfl rfl hn (fun a w he _ => by simp [execOp, Instr.makeMap, gobj, gents]) h
variable {ke : α → Value} {ve : β → Value}
theorem HV.mget {w : World} (hh : HV w0 M S vs ro w) (i : Nat) {b : Nat} {l : List (α × β)} (hi : S[i]? = some (b, gobj ke ve l)) : w.heap[b]? = some (gobj ke ve l) := hh.get i hi
variable [DecidableEq α]
theorem QB {t K E : TypeId} {x y z : Operand} {b : Nat} {k : α} {v : β} {l l2 : List (α × β)} {S' : List (Nat × Obj)} {ty : TypeId} {pos : String} {after : Array Edge} (i : Nat)
    (hu : ∀ w, (underlying t).run P w = .ok (.map K E) w) (hk : KeyOK P K ke) (hx : ev e x = some (.map (some b))) (hy : ev e y = some (ke k)) (hz : ev e z = some (ve v)) (hi : S[i]? = some (b, gobj ke ve l)) (hl2 : aset l k v = l2) (hS : S.set i (b, gobj ke ve l2) = S')
    (h : G n ds e (HV w0 M S' vs ro) (wpListIn (fw r) 0 P ops Q rest)) : G n ds e (HV w0 M S vs ro) (wpListIn (fw r) 0 P ops Q (⟨none, .mapUpdate t x y z, ty, pos, after, none⟩ :: rest)) := fun a w he hh => by
  subst hl2
  have hb := hh.get i hi
  have hl := (List.getElem?_eq_some_iff.1 hi).1
  have := run_mapUpG (P := P) (v := v) (k := k) (hu w) hk hb
  refine wpListIn_skipped (w' := w.putObj b (gobj ke ve (aset l k v))) (by simp) (wanted_none rfl _) (by simp [execOp, he.eval hx, he.eval hy, he.eval hz, this]) ?_
  exact h a _ he (HS.put hh i _ (by rw [List.getElem?_append_left hl]; exact hi) (by rw [List.set_append_left _ _ hl, hS]))
end
end Go.Gx

namespace Go.Gx
open Go Go.Fw
section
variable {P : Program} {e : EnvL} {w : World} {dst : Option Tmp} {ty : TypeId} {pos : String} {after : Array Edge} {g : Option (Nat × Bool)}
theorem JS {α : Type} {l : List α} {i : Int} {x : α} (h : ix l i = some x) {t E : TypeId} {xo io : Operand} {len b o : Nat} {k : IntKind} (hl : l.length = len) (hu : (underlying t).run P w = .ok (.array len E) w) (hz : (sizeOf E).run P w = .ok 1 w)
    (hx : ev e xo = some (ptr b o)) (hi : ev e io = some (.int k i)) : Val P e w ⟨dst, .indexAddr t xo io, ty, pos, after, g⟩ (ptr b (o + i.toNat)) := by
  obtain ⟨h1, h2, _⟩ := ixO h
  exact jaO hu hz hx hi h1 (by omega)
theorem segCell {b o : Nat} {xs : List Value} (h : segOK w (b, o, xs)) (j : Nat) {v : Value} (hv : xs[j]? = some v) : w.cell? ⟨b, o + j, none⟩ = some v := h.at hv
theorem segCells {b : Nat} {xs us : List Value} (h : segOK w (b, 0, xs)) (k : Nat) (hv : (xs.drop k).take us.length = us) : ∀ j (_ : j < us.length), w.cell? ⟨b, k + j, none⟩ = some us[j] := fun j hj => by
  have h2 : xs[k + j]? = some us[j] := by
    have h3 : us[j]? = some us[j] := List.getElem?_eq_getElem hj
    have h4 : (List.take us.length (xs.drop k))[j]? = us[j]? := congrArg (fun z : List Value => z[j]?) hv
    rw [List.getElem?_take_of_lt hj, List.getElem?_drop, h3] at h4
    exact h4
  have := h.at h2
  simpa using this
theorem ixCell {α : Type} {l : List α} {i : Int} {x : α} (h : ix l i = some x) (f : α → Value) (pre post : List Value) {cs : Array Value} {o : Nat} (hc : cs.toList = pre ++ (l.map f ++ post)) (hp : pre.length = o) : cs.toList[o + i.toNat]? = some (f x) := by
  obtain ⟨h1, h2, h3⟩ := ixO h
  rw [hc, ← hp, List.getElem?_append_right (by omega), List.getElem?_append_left (by simp; omega), List.getElem?_map, show pre.length + i.toNat - pre.length = i.toNat by omega, h3]
  rfl
theorem ixCell' {α : Type} {l : List α} {i : Int} {x : α} (h : ix l i = some x) (f : α → Value) (pre post : List Value) {xs : List Value} {o : Nat} (hc : xs = pre ++ (l.map f ++ post)) (hp : pre.length = o) : xs[o + i.toNat]? = some (f x) := by
  obtain ⟨h1, h2, h3⟩ := ixO h
  rw [hc, ← hp, List.getElem?_append_right (by omega), List.getElem?_append_left (by simp; omega), List.getElem?_map, show pre.length + i.toNat - pre.length = i.toNat by omega, h3]
  rfl
theorem segCellX {b j : Nat} {xs : List Value} (h : segOK w (b, 0, xs)) {v : Value} (hv : xs[j]? = some v) : w.cell? ⟨b, j, none⟩ = some v := by
  have := h.at hv
  simpa using this
end
section
variable {w0 w : World} {M : List Nat} {S : List (Nat × Obj)} {vs : List VR} {ro : List Sg}
theorem HV.bsepH {S0 : List (Nat × Obj)} {vs0 : List VR} (h : HV w0 M (S0 ++ S) (vs0 ++ vs) ro w) (i : Nat) {b : Nat} {cs : Array Value} {T : TypeId} {fr : Nat × Nat} (hi : S[i]? = some (b, .cells cs T fr)) : segOK w (b, 0, cs.toList) ∧ (cs.toList ≠ [] → b ∉ keys S0 vs0) := by
  have hg : (S0 ++ S)[S0.length + i]? = some (b, .cells cs T fr) := by rw [List.getElem?_append_right (by omega)]; simpa using hi
  refine ⟨.of_block (h.get _ hg), fun _ hm => ?_⟩
  have hp : ((S0 ++ S) ++ vbl (vs0 ++ vs)).Perm ((S0 ++ vbl vs0) ++ (S ++ vbl vs)) := by
    rw [vbl_append]
    simp only [List.append_assoc]
    refine List.Perm.append_left _ ?_
    rw [← List.append_assoc, ← List.append_assoc]
    exact List.Perm.append_right _ List.perm_append_comm
  have hnd := (HS.perm h hp).nodup
  rw [List.map_append, List.nodup_append] at hnd
  exact hnd.2.2 _ hm b (List.mem_map.2 ⟨_, List.mem_append_left _ (List.mem_of_getElem? hi), rfl⟩) rfl
end
end Go.Gx

namespace Go.Gx
open Go Go.Fw
section
variable {P : Program} {b : Frame} {a : Act} {k : List Item} {cs : List Frame} {w : World} {F : Fence} {n : Nat}
theorem stepR_scope {c : Code} : step P (lone (b.atR a (.code (.scope c) :: k)) cs w) = .next (lone (b.atR a (.code c :: .inScope c :: k)) cs w) :=
  step_lone_go (by simp [stepG, stepG.exec, Frame.atR])
theorem stepR_inScope {c : Code} : step P (lone (b.atR a (.inScope c :: k)) cs w) = .next (lone (b.atR a k) cs w) :=
  step_lone_go (by simp [stepG, stepG.exec, Frame.atR])
def scpQ (Q : Exit → Act → World → Prop) : Exit → Act → World → Prop
  | .normal => Q .normal
  | .exit id => Q (.exit id)
  | .goto _ => fun _ _ => False
  | .ret => Q .ret
  | .panic c => Q (.panic c)
  | .outgrown => Q .outgrown
theorem wpIn_scope {c : Code} {Q : Exit → Act → World → Prop} (h : c.wpIn F n P (scpQ Q) a w) : (Code.scope c).wpIn F n P Q a w := by
  intro b k cs hro hb hr
  have h0 : (lone (b.atR a (.code (.scope c) :: k)) cs w).fenced P F := fenced_calm hb hr rfl
  obtain ⟨e, a₁, w₁, hq, harr⟩ := h b (.inScope c :: k) cs hro hb hr
  cases e with
  | normal => exact ⟨.normal, a₁, w₁, hq, .head h0 stepR_scope (StepsIn.trans harr (.one (fenced_calm hb hr rfl) stepR_inScope))⟩
  | exit id =>
    have hx : exitTo id (.inScope c :: k) = exitTo id k := by simp [exitTo]
    exact ⟨.exit id, a₁, w₁, hq, fun k' hk => .head h0 stepR_scope (harr.1 k' (by rw [hx]; exact hk)),
      fun hr' hk => let ⟨k₁, h1, h2⟩ := harr.2 hr' (by rw [hx]; exact hk); ⟨k₁, h1, .head h0 stepR_scope h2⟩⟩
  | goto l => exact hq.elim
  | ret => exact ⟨_, a₁, w₁, hq, .of_steps (.one h0 stepR_scope) harr⟩
  | panic ch => exact ⟨_, a₁, w₁, hq, .of_steps (.one h0 stepR_scope) harr⟩
  | outgrown => exact ⟨_, a₁, w₁, hq, .of_steps (.one h0 stepR_scope) harr⟩
end
section
variable {n : Nat} {ds : List Deferred} {e : EnvL} {H : World → Prop} {P : Program} {F : Fence} {Q : Exit → Act → World → Prop}
theorem jaY {c : Code} (h : G n ds e H (c.wpIn F 0 P (scpQ Q))) : G n ds e H ((Code.scope c).wpIn F 0 P Q) := fun a w he hh => wpIn_scope (h a w he hh)
theorem jaM {l : Nat} (h : G n ds e H (Q .normal)) : G n ds e H ((Code.label l).wpIn F 0 P Q) := fun a w he hh => wpIn_label (h a w he hh)
theorem ZX (h : G n ds e H (Q .ret)) : G n ds e H (scpQ Q .ret) := h
end
end Go.Gx

namespace Go.Gx
open Go Go.Fw
theorem enc_take {α : Type} (R : Row α) : ∀ (m : Nat) (l : List α), R.enc (l.take m) = (R.enc l).take (m * R.sz)
  | 0, l => by simp [Row.enc]
  | m + 1, [] => by simp [Row.enc]
  | m + 1, x :: l => by
    rw [List.take_succ_cons, Nat.succ_mul, Nat.add_comm (m * R.sz)]
    have h := R.len x
    have e : R.enc (x :: List.take m l) = R.cells x ++ R.enc (List.take m l) := rfl
    have e2 : R.enc (x :: l) = R.cells x ++ R.enc l := rfl
    rw [e, e2, enc_take R m l, ← h, List.take_length_add_append]
theorem presep {α : Type} (R : Row α) {w : World} {b o : Nat} {K : List Nat} {l : List α} (m : Nat) (h : segOK w (b, o, R.enc l) ∧ (R.enc l ≠ [] → b ∉ K)) : segOK w (b, o, R.enc (l.take m)) ∧ (R.enc (l.take m) ≠ [] → b ∉ K) := by
  refine ⟨fun j hj => ?_, fun hne => h.2 fun h0 => hne ?_⟩
  · simp only [enc_take] at hj ⊢
    rw [List.getElem_take]
    have hj' : j < (R.enc l).length := by
      have : (List.take (m * R.sz) (R.enc l)).length ≤ (R.enc l).length := by rw [List.length_take]; omega
      omega
    have := h.1 j hj'
    exact this
  · rw [enc_take, h0]; simp
theorem pre_hn {α : Type} {l : List α} {n : Nat} {i : Int} (hn : l.length = n) (h : 0 ≤ i ∧ i ≤ (l.length : Int)) : (l.take i.toNat).length = i.toNat := by
  rw [List.length_take]; omega
theorem pre_hne {α : Type} {l : List α} {n : Nat} {i : Int} {q : Option (Nat × Nat)} (hn : l.length = n) (h : 0 ≤ i ∧ i ≤ (l.length : Int)) (hq : 0 < n → q ≠ none) : 0 < i.toNat → q ≠ none := fun h0 => hq (by omega)
theorem pre_hle {α : Type} {l : List α} {n cap : Nat} {i : Int} (hn : l.length = n) (h : 0 ≤ i ∧ i ≤ (l.length : Int)) (hc : n ≤ cap) : i.toNat ≤ cap := by omega
section
variable {P : Program} {e : EnvL} {w : World} {dst : Option Nat} {ty : TypeId} {pos : String} {after : Array Edge} {g : Option (Nat × Bool)}
end
section
variable {n : Nat} {ds : List Deferred} {e : EnvL} {P : Program} {r : Option Nat} {Q : Exit → Act → World → Prop} {ops : Array Oper} {w0 : World} {M : List Nat} {S : List (Nat × Obj)} {vs : List VR} {ro : List Sg} {rest : List Oper}
theorem HV.vupd2 {w w' : World} (hh : HV w0 M S vs ro w) (i : Nat) {E : TypeId} {xs xs' sp sp' : List Value} {q : Nat × Nat} {mo : List (Nat × Obj)} (hi : vs[i]? = some ⟨E, xs, sp, some q, mo⟩) (hx : Ext [q.1] w w') (ho : w'.heap[q.1]? = some (.cells (xs' ++ sp').toArray E (0, 0))) : HV w0 M S (vs.set i ⟨E, xs', sp', some q, mo⟩) ro w' := by
  have h1 : HS w0 M ((S ++ vbl (vs.take i)) ++ (vown E xs sp (some q) ++ (mo ++ vbl (vs.drop (i + 1))))) ro w := by
    have : HS w0 M (S ++ vbl vs) ro w := hh
    rw [vbl_atm (S := S) i hi] at this
    exact this
  have hk : ((S ++ vbl (vs.take i)) ++ (vown E xs sp (some q) ++ (mo ++ vbl (vs.drop (i + 1)))))[(S ++ vbl (vs.take i)).length]? = some (q.1, .cells (xs ++ sp).toArray E (0, 0)) := by
    rw [List.getElem?_append_right (Nat.le_refl _)]; simp [vown]
  have h2 := h1.upd (S ++ vbl (vs.take i)).length hk hx ho
  unfold HV
  rw [vbl_setm (S := S) i hi]
  rw [List.set_append_right _ _ (Nat.le_refl _)] at h2
  simpa [vown] using h2
end
end Go.Gx
namespace Go.Gx
open Go Go.Fw
section
variable {P : Program} {w : World} {e : EnvL} {dst : Option Nat} {ty : TypeId} {pos : String} {after : Array Edge} {g : Option (Nat × Bool)}
theorem jaZ {t u E : TypeId} {x y : Operand} {q : Option Addr} {n c : Nat} (hn : AOK n q) (h0 : 0 < n) (hu : (underlying t).run P w = .ok (.slice E) w) (hx : ev e x = some (.slice q n c)) (hy : ev e y = some (.slice none 0 0)) :
    Val P e w ⟨dst, .binOp .eql t x y u, ty, pos, after, g⟩ (.bool false) := fun n' ds a he => by
  obtain ⟨b, o, rfl⟩ := hn h0
  have h2 : (eqGuard .eql t x y (.slice (some ⟨b, o, none⟩) n c) (.slice none 0 0)).run P w = .ok () w := rfl
  have h4 : (binOp .eql t (.slice (some ⟨b, o, none⟩) n c) (.slice none 0 0)).run P w = .ok (.bool false) w := by
    simp only [binOp_eql_sl, Sem.run_bind, run_eqNil hu, Result.andThen_ok, Sem.run_pure]
    rfl
  simp only [execOp, he.eval hx, he.eval hy, Sem.run_bind, h2, Result.andThen_ok, h4, Sem.run_pure]
theorem len_posN {α : Type} {l : List α} {n : Nat} (hn : l.length = n) (h : 0 < (l.length : Int)) : 0 < n := by omega
end
end Go.Gx

namespace Go.Gx
open Go Go.Fw

def RwH : Row VL := ⟨1, fun L => [slv L.q L.n L.cap], fun _ => rfl, fun _ => rfl⟩
abbrev vl0 : VL := ⟨none, 0, 0, []⟩
def dbl {α : Type} (E : TypeId) (R : Row α) : List (List α) → List VL → List (Nat × Obj)
  | x :: l, L :: r => vown E (R.enc x) L.sp L.q ++ dbl E R l r
  | _, _ => []
structure DOK {α : Type} (R : Row α) (l : List (List α)) (rs : List VL) : Prop where
  len : l.length = rs.length
  ok : ∀ (k : Nat) (x : List α) (L : VL), l[k]? = some x → rs[k]? = some L → VOK R.sz L.n L.cap (R.enc x) L.sp L.q
structure DL where
  v : VL
  rs : List VL

section plain
variable {α : Type} {R : Row α} {E : TypeId}
theorem DOK.nil : DOK R ([] : List (List α)) [] := ⟨rfl, fun k x L h => by simp at h⟩
theorem DOK.tail {x : List α} {l : List (List α)} {L : VL} {rs : List VL} (h : DOK R (x :: l) (L :: rs)) : DOK R l rs := ⟨by have := h.len; simpa using this, fun k y M hy hM => h.ok (k + 1) y M (by simpa using hy) (by simpa using hM)⟩
theorem DOK.rep (k : Nat) : DOK R (List.replicate k ([] : List α)) (List.replicate k vl0) := ⟨by simp, fun j x L hx hL => by
  have h1 := List.mem_of_getElem? hx
  have h2 := List.mem_of_getElem? hL
  rw [List.eq_of_mem_replicate h1, List.eq_of_mem_replicate h2]
  exact VOK.nil⟩
theorem DOK.set {l : List (List α)} {rs : List VL} (h : DOK R l rs) (k : Nat) {x : List α} {L : VL} (hv : VOK R.sz L.n L.cap (R.enc x) L.sp L.q) : DOK R (l.set k x) (rs.set k L) := ⟨by simp [h.len], fun j y M hy hM => by
  rw [List.getElem?_set] at hy hM
  by_cases hjk : k = j
  · subst hjk
    rw [if_pos rfl] at hy hM
    split at hy <;> cases hy
    split at hM <;> cases hM
    exact hv
  · rw [if_neg hjk] at hy hM
    exact h.ok j y M hy hM⟩
theorem DOK.append {l m : List (List α)} {rs rm : List VL} (h : DOK R l rs) (hm : DOK R m rm) : DOK R (l ++ m) (rs ++ rm) := ⟨by simp [h.len, hm.len], fun j y M hy hM => by
  by_cases hj : j < l.length
  · rw [List.getElem?_append_left hj] at hy
    rw [List.getElem?_append_left (by rw [← h.len]; exact hj)] at hM
    exact h.ok j y M hy hM
  · have hj2 : l.length ≤ j := Nat.le_of_not_lt hj
    rw [List.getElem?_append_right hj2] at hy
    rw [List.getElem?_append_right (by rw [← h.len]; exact hj2)] at hM
    exact hm.ok _ y M hy (by rw [h.len]; exact hM)⟩
theorem DOK.row {l : List (List α)} {rs : List VL} (h : DOK R l rs) {i : Int} {x : List α} (hx : ix l i = some x) : ∃ L : VL, ix rs i = some L ∧ VOK R.sz L.n L.cap (R.enc x) L.sp L.q := by
  obtain ⟨h0, h1, h2⟩ := ixO hx
  have h3 : i.toNat < rs.length := by rw [← h.len]; exact h1
  refine ⟨rs[i.toNat], ?_, h.ok i.toNat x _ h2 (List.getElem?_eq_getElem h3)⟩
  unfold ix
  rw [if_neg (by omega)]
  exact List.getElem?_eq_getElem h3
theorem dbl_rep : ∀ k, dbl E R (List.replicate k ([] : List α)) (List.replicate k vl0) = []
  | 0 => rfl
  | k + 1 => by rw [List.replicate_succ, List.replicate_succ, dbl, dbl_rep k]; rfl
theorem dbl_append : ∀ (l m : List (List α)) (rs rm : List VL), l.length = rs.length → dbl E R (l ++ m) (rs ++ rm) = dbl E R l rs ++ dbl E R m rm
  | [], m, [], rm, _ => rfl
  | x :: l, m, L :: rs, rm, h => by
    simp only [List.cons_append, dbl, dbl_append l m rs rm (by simpa using h), List.append_assoc]
  | [], _, _ :: _, _, h => by simp at h
  | _ :: _, _, [], _, h => by simp at h
theorem dbl_set : ∀ (l : List (List α)) (rs : List VL) (k : Nat) (x y : List α) (L M : VL), l[k]? = some x → rs[k]? = some L → (dbl E R l rs ++ vown E (R.enc y) M.sp M.q).Perm (dbl E R (l.set k y) (rs.set k M) ++ vown E (R.enc x) L.sp L.q)
  | [], _, _, _, _, _, _, h, _ => by simp at h
  | _ :: _, [], _, _, _, _, _, _, h => by simp at h
  | z :: l, N :: rs, 0, x, y, L, M, hx, hL => by
    simp only [List.getElem?_cons_zero, Option.some.injEq] at hx hL
    subst hx hL
    simp only [List.set_cons_zero, dbl]
    refine List.perm_append_comm.trans ?_
    rw [List.append_assoc]
    exact List.Perm.append_left _ List.perm_append_comm
  | z :: l, N :: rs, k + 1, x, y, L, M, hx, hL => by
    simp only [List.set_cons_succ, dbl, List.append_assoc]
    exact List.Perm.append_left _ (dbl_set l rs k x y L M (by simpa using hx) (by simpa using hL))
theorem dbl_mem : ∀ (l : List (List α)) (rs : List VL) (k : Nat) (x : List α) (L : VL), l[k]? = some x → rs[k]? = some L → ∀ p, p ∈ vown E (R.enc x) L.sp L.q → p ∈ dbl E R l rs
  | [], _, _, _, _, h, _, _, _ => by simp at h
  | _ :: _, [], _, _, _, _, h, _, _ => by simp at h
  | z :: l, N :: rs, 0, x, L, hx, hL, p, hp => by
    simp only [List.getElem?_cons_zero, Option.some.injEq] at hx hL
    subst hx hL
    simp only [dbl, List.mem_append]
    exact .inl hp
  | z :: l, N :: rs, k + 1, x, L, hx, hL, p, hp => by
    simp only [dbl, List.mem_append]
    exact .inr (dbl_mem l rs k x L (by simpa using hx) (by simpa using hL) p hp)
theorem ix_rs {rs : List VL} {i : Int} {L : VL} (h : ix rs i = some L) : rs[i.toNat]? = some L := (ixO h).2.2
theorem appcL {β : Type} {bytes : Nat} {l m r : List α} {l' m' : List β} (h : appc bytes l m = some r) (hl : l.length = l'.length) (hm : m.length = m'.length) : appc bytes l' m' = some (l' ++ m') := by
  obtain ⟨_, h1⟩ := appcO h
  unfold appc
  rw [if_pos (by rw [← hl, ← hm]; exact h1)]
end plain

section hv
variable {w0 w : World} {M : List Nat} {S : List (Nat × Obj)} {vs : List VR} {ro : List Sg} {α : Type} {R : Row α} {E E2 : TypeId}
theorem HV.re {S' : List (Nat × Obj)} {vs' : List VR} {rest : List (Nat × Obj)} (h : HV w0 M S vs ro w) (hp : (S ++ vbl vs).Perm ((S' ++ vbl vs') ++ rest)) : HV w0 M S' vs' ro w :=
  (HS.perm h hp).drop (List.sublist_append_left _ _)
theorem HV.dput {hs sp : List Value} {q : Option (Nat × Nat)} {l : List (List α)} {rs : List VL} {x : List α} {Lsp : List Value} {Lq : Option (Nat × Nat)} {k : Nat} {n cap : Nat} (h : HV w0 M S (⟨E, hs, sp, q, dbl E2 R l rs⟩ :: ⟨E2, R.enc x, Lsp, Lq, []⟩ :: vs) ro w) (hl : l.length = rs.length) (hk : k < l.length) :
    HV w0 M S (⟨E, hs, sp, q, dbl E2 R (l.set k x) (rs.set k ⟨Lq, n, cap, Lsp⟩)⟩ :: vs) ro w := by
  have h1 : l[k]? = some l[k] := List.getElem?_eq_getElem hk
  have h2 : rs[k]? = some (rs[k]'(by omega)) := List.getElem?_eq_getElem _
  refine h.re (rest := vown E2 (R.enc l[k]) (rs[k]'(by omega)).sp (rs[k]'(by omega)).q) ?_
  simp only [vbl, VR.bl, List.append_nil, List.append_assoc]
  refine List.Perm.append_left _ (List.Perm.append_left _ ?_)
  have h3 := dbl_set (E := E2) (R := R) l rs k l[k] x (rs[k]'(by omega)) ⟨Lq, n, cap, Lsp⟩ h1 h2
  rw [← List.append_assoc]
  refine (List.Perm.append_right (vbl vs) h3).trans ?_
  rw [List.append_assoc]
  exact List.Perm.append_left _ List.perm_append_comm
theorem HV.djoin {hs hs2 sp sp2 : List Value} {q q2 : Option (Nat × Nat)} {l m : List (List α)} {rs rm : List VL} (h : HV w0 M S (⟨E, hs, sp, q, dbl E2 R l rs⟩ :: ⟨E, hs2, sp2, q2, dbl E2 R m rm⟩ :: vs) ro w) (hl : l.length = rs.length) :
    HV w0 M S (⟨E, hs, sp, q, dbl E2 R (l ++ m) (rs ++ rm)⟩ :: vs) ro w := by
  refine h.re (rest := vown E hs2 sp2 q2) ?_
  rw [dbl_append l m rs rm hl]
  simp only [vbl, VR.bl, List.append_assoc]
  refine List.Perm.append_left _ (List.Perm.append_left _ (List.Perm.append_left _ ?_))
  rw [← List.append_assoc]
  exact (List.Perm.append_right (vbl vs) List.perm_append_comm).trans (by
    rw [List.append_assoc]
    exact List.Perm.append_left _ List.perm_append_comm)
theorem HV.dseg (h : HV w0 M S vs ro w) (i : Nat) {hs sp : List Value} {q : Option (Nat × Nat)} {l : List (List α)} {rs : List VL} {x : List α} {L : VL} {k : Int} (hi : vs[i]? = some ⟨E, hs, sp, q, dbl E2 R l rs⟩) (hx : ix l k = some x) (hL : ix rs k = some L) {n cap : Nat} (hv : VOK R.sz n cap (R.enc x) L.sp L.q) : segOK w (bk L.q, off L.q, R.enc x) := by
  cases hq : L.q with
  | none =>
    rw [hv.noneNil hq]
    exact segOK.nil
  | some p =>
    have ho := hv.hoff p hq
    have hm : (p.1, Obj.cells (R.enc x ++ L.sp).toArray E2 (0, 0)) ∈ S ++ vbl vs := by
      refine HV.vmem i hi _ ?_
      simp only [VR.bl, List.mem_append]
      exact .inr (dbl_mem l rs k.toNat x L (ixO hx).2.2 (ix_rs hL) _ (by simp [hq, vown]))
    have hb := h.hs.ownOK _ hm
    have h3 : segOK w (p.1, 0, R.enc x ++ L.sp) := .of_block hb
    intro j hj
    have h5 : j < (R.enc x ++ L.sp).length := by simp at hj ⊢; omega
    have := h3 j h5
    simp only at this hj ⊢
    simp only [bk, off, Option.getD_some, ho]
    rw [this, List.getElem_append_left hj]
theorem HV.dsep {S0 : List (Nat × Obj)} {vs0 : List VR} (h : HV w0 M (S0 ++ S) (vs0 ++ vs) ro w) (i : Nat) {hs sp : List Value} {q : Option (Nat × Nat)} {l : List (List α)} {rs : List VL} {x : List α} {L : VL} {k : Int} (hi : vs[i]? = some ⟨E, hs, sp, q, dbl E2 R l rs⟩) (hx : ix l k = some x) (hL : ix rs k = some L) {n cap : Nat} (hv : VOK R.sz n cap (R.enc x) L.sp L.q) : segOK w (bk L.q, off L.q, R.enc x) ∧ (R.enc x ≠ [] → bk L.q ∉ keys S0 vs0) := by
  have hseg : segOK w (bk L.q, off L.q, R.enc x) := HV.dseg h (vs0.length + i) (by rw [List.getElem?_append_right (by omega)]; simpa using hi) hx hL hv
  refine ⟨hseg, fun hne hm => ?_⟩
  cases hq : L.q with
  | none => exact hne (hv.noneNil hq)
  | some p =>
    have hp : ((S0 ++ S) ++ vbl (vs0 ++ vs)).Perm ((S0 ++ vbl vs0) ++ (S ++ vbl vs)) := by
      rw [vbl_append]
      simp only [List.append_assoc]
      refine List.Perm.append_left _ ?_
      rw [← List.append_assoc, ← List.append_assoc]
      exact List.Perm.append_right _ List.perm_append_comm
    have hnd := (HS.perm h hp).nodup
    rw [List.map_append, List.nodup_append] at hnd
    refine hnd.2.2 _ hm p.1 ?_ (by simp [hq, bk])
    refine List.mem_map.2 ⟨(p.1, .cells (R.enc x ++ L.sp).toArray E2 (0, 0)), HV.vmem (S := S) i hi _ ?_, rfl⟩
    simp only [VR.bl, List.mem_append]
    exact .inr (dbl_mem l rs k.toNat x L (ixO hx).2.2 (ix_rs hL) _ (by simp [hq, vown]))
theorem HV.dsepA {S0 : List (Nat × Obj)} {vs0 : List VR} (h : HV w0 M (S0 ++ S) (vs0 ++ vs) ro w) (i : Nat) {hs sp : List Value} {q : Option (Nat × Nat)} {l : List (List α)} {rs : List VL} {x : List α} {L : VL} {k : Int} (hi : vs[i]? = some ⟨E, hs, sp, q, dbl E2 R l rs⟩) (hx : ix l k = some x) (hL : ix rs k = some L) {n cap : Nat} (hv : VOK R.sz n cap (R.enc x) L.sp L.q) : segOK w (aB (qA L.q), aO (qA L.q), R.enc x) ∧ (R.enc x ≠ [] → aB (qA L.q) ∉ keys S0 vs0) := by
  have := h.dsep i hi hx hL hv
  cases hq : L.q <;> rw [hq] at this <;> exact this
end hv

structure AL where
  a : Option Addr
  n : Nat
  cap : Nat
def RwA : Row AL := ⟨1, fun A => [.slice A.a A.n A.cap], fun _ => rfl, fun _ => rfl⟩
def rsg {α : Type} (R : Row α) : List (List α) → List AL → List Sg
  | x :: l, A :: r => (aB A.a, aO A.a, R.enc x) :: rsg R l r
  | _, _ => []
structure DRO {α : Type} (l : List (List α)) (ar : List AL) : Prop where
  len : l.length = ar.length
  ok : ∀ (k : Nat) (x : List α) (A : AL), l[k]? = some x → ar[k]? = some A → x.length = A.n ∧ AOK A.n A.a ∧ A.n ≤ A.cap
def toAL (rs : List VL) : List AL := rs.map fun L => ⟨qA L.q, L.n, L.cap⟩
section ro
variable {α : Type} {R : Row α}
theorem DRO.row {l : List (List α)} {ar : List AL} (h : DRO l ar) {i : Int} {x : List α} (hx : ix l i = some x) : ∃ A : AL, ix ar i = some A ∧ x.length = A.n ∧ AOK A.n A.a ∧ A.n ≤ A.cap := by
  obtain ⟨h0, h1, h2⟩ := ixO hx
  have h3 : i.toNat < ar.length := by rw [← h.len]; exact h1
  refine ⟨ar[i.toNat], ?_, h.ok i.toNat x _ h2 (List.getElem?_eq_getElem h3)⟩
  unfold ix
  rw [if_neg (by omega)]
  exact List.getElem?_eq_getElem h3
theorem rsg_mem : ∀ (l : List (List α)) (ar : List AL) (k : Nat) (x : List α) (A : AL), l[k]? = some x → ar[k]? = some A → (aB A.a, aO A.a, R.enc x) ∈ rsg R l ar
  | [], _, _, _, _, h, _ => by simp at h
  | _ :: _, [], _, _, _, _, h => by simp at h
  | z :: l, N :: rs, 0, x, L, hx, hL => by
    simp only [List.getElem?_cons_zero, Option.some.injEq] at hx hL
    subst hx hL
    exact List.mem_cons_self
  | z :: l, N :: rs, k + 1, x, L, hx, hL => List.mem_cons_of_mem _ (rsg_mem l rs k x L (by simpa using hx) (by simpa using hL))
theorem rsg_of : ∀ (l : List (List α)) (ar : List AL) (t : Sg), t ∈ rsg R l ar → ∃ (k : Nat) (x : List α) (A : AL), l[k]? = some x ∧ ar[k]? = some A ∧ t = (aB A.a, aO A.a, R.enc x)
  | [], _, t, h => by simp [rsg] at h
  | _ :: _, [], t, h => by simp [rsg] at h
  | z :: l, N :: rs, t, h => by
    simp only [rsg, List.mem_cons] at h
    rcases h with h | h
    · exact ⟨0, z, N, rfl, rfl, h⟩
    · obtain ⟨k, x, A, h1, h2, h3⟩ := rsg_of l rs t h
      exact ⟨k + 1, x, A, by simpa using h1, by simpa using h2, h3⟩
theorem rsg_ix {l : List (List α)} {ar : List AL} {i : Int} {x : List α} {A : AL} (hx : ix l i = some x) (hA : ix ar i = some A) : (aB A.a, aO A.a, R.enc x) ∈ rsg R l ar := rsg_mem l ar i.toNat x A (ixO hx).2.2 (ixO hA).2.2
theorem DOK.toDRO {l : List (List α)} {rs : List VL} (h : DOK R l rs) (h0 : Nat.blt 0 R.sz = true) : DRO l (toAL rs) := ⟨by simp [toAL, h.len], fun k x A hx hA => by
  simp only [toAL, List.getElem?_map, Option.map_eq_some_iff] at hA
  obtain ⟨L, hL, rfl⟩ := hA
  have hv := h.ok k x L hx hL
  exact ⟨vlen R hv h0, AOK.q (vne hv), hv.hle⟩⟩
theorem toAL_enc (rs : List VL) : RwA.enc (toAL rs) = RwH.enc rs := by
  induction rs with
  | nil => rfl
  | cons L rs ih =>
    simp only [Row.enc, toAL, List.map_cons, List.flatMap_cons] at ih ⊢
    rw [ih]
    rfl
theorem HV.rsepM {w0 w : World} {M : List Nat} {S S0 : List (Nat × Obj)} {vs vs0 : List VR} {ro : List Sg} (h : HV w0 M (S0 ++ S) (vs0 ++ vs) ro w) {s : Sg} (hs : s ∈ ro) : segOK w s ∧ (s.2.2 ≠ [] → s.1 ∉ keys S0 vs0) := by
  obtain ⟨i, hi⟩ := List.getElem?_of_mem hs
  exact h.rsep i hi
theorem HV.dsepT {w0 w : World} {M : List Nat} {S S0 : List (Nat × Obj)} {vs vs0 : List VR} {ro : List Sg} {E E2 : TypeId} (h : HV w0 M (S0 ++ S) (vs0 ++ vs) ro w) (i : Nat) {hs sp : List Value} {q : Option (Nat × Nat)} {l : List (List α)} {rs : List VL} (hi : vs[i]? = some ⟨E, hs, sp, q, dbl E2 R l rs⟩) (hd : DOK R l rs) : ∀ t, t ∈ rsg R l (toAL rs) → segOK w t ∧ (t.2.2 ≠ [] → t.1 ∉ keys S0 vs0) := fun t ht => by
  obtain ⟨k, x, A, hx, hA, rfl⟩ := rsg_of l (toAL rs) t ht
  simp only [toAL, List.getElem?_map, Option.map_eq_some_iff] at hA
  obtain ⟨L, hL, rfl⟩ := hA
  have e1 : ix l (k : Int) = some x := by unfold ix; rw [if_neg (by omega)]; simpa using hx
  have e2 : ix rs (k : Int) = some L := by unfold ix; rw [if_neg (by omega)]; simpa using hL
  exact h.dsepA i hi e1 e2 (hd.ok k x L hx hL)
theorem HV.oldseg {w0 w : World} {M : List Nat} {S : List (Nat × Obj)} {vs : List VR} {ro : List Sg} (h : HV w0 M S vs ro w) {s : Sg} (hs : segOK w0 s ∧ (s.2.2 ≠ [] → s.1 ∉ M)) : segOK w s := fun j hj => by
  have hne : s.2.2 ≠ [] := by intro e; rw [e] at hj; simp at hj
  rw [cell_of_block (h.hs.old s.1 (hs.1.lt hne) (hs.2 hne))]
  exact hs.1 j hj
theorem HV.oldsep {w0 w : World} {M : List Nat} {S S0 : List (Nat × Obj)} {vs vs0 : List VR} {ro : List Sg} (h : HV w0 M (S0 ++ S) (vs0 ++ vs) ro w) {s : Sg} (hs : segOK w0 s ∧ (s.2.2 ≠ [] → s.1 ∉ M)) : segOK w s ∧ (s.2.2 ≠ [] → s.1 ∉ keys S0 vs0) := by
  refine ⟨h.oldseg hs, fun hne hm => ?_⟩
  obtain ⟨p, hp, he⟩ := List.mem_map.1 hm
  have hp2 : p ∈ (S0 ++ S) ++ vbl (vs0 ++ vs) := by
    rw [vbl_append]
    simp only [List.mem_append] at hp ⊢
    rcases hp with hp | hp
    · exact .inl (.inl hp)
    · exact .inr (.inl hp)
  have hlt := hs.1.lt hne
  rcases h.hs.new p hp2 with h1 | h1
  · omega
  · exact hs.2 hne (he ▸ h1)
theorem HV.vsepD {w0 w : World} {M : List Nat} {S S0 : List (Nat × Obj)} {vs vs0 : List VR} {ro : List Sg} (h : HV w0 M (S0 ++ S) (vs0 ++ vs) ro w) (i : Nat) {E : TypeId} {rs : List VL} {sp : List Value} {q : Option (Nat × Nat)} {sz len cap : Nat} {mo : List (Nat × Obj)} (hi : vs[i]? = some ⟨E, RwH.enc rs, sp, q, mo⟩) (hv : VOK sz len cap (RwH.enc rs) sp q) : segOK w (aB (qA q), aO (qA q), RwA.enc (toAL rs)) ∧ (RwA.enc (toAL rs) ≠ [] → aB (qA q) ∉ keys S0 vs0) := by
  rw [toAL_enc]
  exact h.vsepA i hi hv
end ro

section g
variable {n : Nat} {ds : List Deferred} {e : EnvL} {P : Program} {r : Option Nat} {Q : Exit → Act → World → Prop} {ops : Array Oper} {w0 : World} {M : List Nat} {S : List (Nat × Obj)} {vs : List VR} {ro : List Sg} {rest : List Oper} {α : Type} {X : Act → World → Prop}
theorem Zq (R : Row α) {E E2 : TypeId} {hs sp : List Value} {q : Option (Nat × Nat)} {l l' : List (List α)} {rs : List VL} {x : List α} {Lsp : List Value} {Lq : Option (Nat × Nat)} (k : Int) (ln cap : Nat) {x0 : List α} (hd : DOK R l rs) (hv : VOK R.sz ln cap (R.enc x) Lsp Lq) (hk : ix l k = some x0) (hl' : l.set k.toNat x = l')
    (h : DOK R l' (rs.set k.toNat ⟨Lq, ln, cap, Lsp⟩) → G n ds e (HV w0 M S (⟨E, hs, sp, q, dbl E2 R l' (rs.set k.toNat ⟨Lq, ln, cap, Lsp⟩)⟩ :: vs) ro) X) : G n ds e (HV w0 M S (⟨E, hs, sp, q, dbl E2 R l rs⟩ :: ⟨E2, R.enc x, Lsp, Lq, []⟩ :: vs) ro) X := by
  subst hl'
  exact (h (hd.set k.toNat hv)).pre fun w hh => hh.dput hd.len (ixO hk).2.1
theorem ZZ (R : Row α) {E E2 : TypeId} {hs hs2 sp sp2 : List Value} {q q2 : Option (Nat × Nat)} {l m lm : List (List α)} {rs rm : List VL} (hd : DOK R l rs) (hm : DOK R m rm) (hlm : l ++ m = lm)
    (h : DOK R lm (rs ++ rm) → G n ds e (HV w0 M S (⟨E, hs, sp, q, dbl E2 R lm (rs ++ rm)⟩ :: vs) ro) X) : G n ds e (HV w0 M S (⟨E, hs, sp, q, dbl E2 R l rs⟩ :: ⟨E, hs2, sp2, q2, dbl E2 R m rm⟩ :: vs) ro) X := by
  subst hlm
  exact (h (hd.append hm)).pre fun w hh => hh.djoin hd.len
theorem Zs (R : Row α) {E E2 : TypeId} {sp : List Value} {q : Option (Nat × Nat)} {hs : List Value} {l : List (List α)} (k : Nat) (hl : List.replicate k [] = l) (h : DOK R l (List.replicate k vl0) → G n ds e (HV w0 M S (⟨E, hs, sp, q, dbl E2 R l (List.replicate k vl0)⟩ :: vs) ro) X) : G n ds e (HV w0 M S (⟨E, hs, sp, q, []⟩ :: vs) ro) X := by
  subst hl
  refine (h (DOK.rep k)).pre fun w hh => ?_
  rw [dbl_rep]
  exact hh
end g
end Go.Gx

namespace Go.Gx
open Go Go.Fw
def kR {α : Type} (R : Row α) (x : α) : Value := .agg (R.cells x).toArray
section key
variable {P : Program}
inductive CkF (P : Program) (xs : Array Value) : List Field → Prop
  | nil : CkF P xs []
  | int {f : Field} {fs : List Field} {κ k : IntKind} {n : Int} (hg : ∀ w, (isAgg f.type).run P w = .ok false w) (hu : ∀ w, (underlying f.type).run P w = .ok (.int κ) w) (hv : xs[f.offset]? = some (.int k n)) (h : CkF P xs fs) : CkF P xs (f :: fs)
theorem checkKey_int {b : Bool} {d : Nat} {t : TypeId} {κ k : IntKind} {n : Int} {w : World} (hu : (underlying t).run P w = .ok (.int κ) w) : (Instr.checkKey b (d + 1) t (.int k n)).run P w = .ok () w := by
  rw [Instr.checkKey]
  simp only [Sem.run_bind, hu, Result.andThen_ok, Sem.run_pure]
theorem checkKey_struct {b : Bool} {d : Nat} {t : TypeId} {fs : Array Field} {xs : Array Value} (hu : ∀ w, (underlying t).run P w = .ok (.struct fs) w) (h : CkF P xs fs.toList) (w : World) : (Instr.checkKey b (d + 2) t (.agg xs)).run P w = .ok () w := by
  rw [Instr.checkKey]
  simp only [Sem.run_bind, hu, Result.andThen_ok]
  rw [← Array.forIn_toList]
  generalize fs.toList = l at h
  induction h with
  | nil => simp
  | @int f l κ k n hg hu' hv _ ih =>
    simp only [List.forIn_cons, Sem.run_bind]
    by_cases hn : f.name = "_"
    · simp only [hn, ne_eq, not_true, if_false, Sem.run_pure, Result.andThen_ok]
      exact ih
    · simp only [ne_eq, hn, not_false_iff, if_true, Sem.run_bind, part_one (hg w) hv, Result.andThen_ok, checkKey_int (hu' w), Sem.run_pure]
      exact ih
theorem findNow_struct {α β : Type} {fs : Array Field} {ke : α → Value} {ve : β → Value} {k : Value} : ∀ (l : List (α × β)) (j i : Nat), Instr.findNow (.struct fs) k (gents ke ve j l) i = (match l with | [] => some none | _ :: _ => none)
  | [], _, _ => rfl
  | (k', v) :: r, j, i => by simp [gents, Instr.findNow, Instr.sameNow]
theorem findAsking_eq {α β : Type} [DecidableEq α] {K : TypeId} {ke : α → Value} (heq : ∀ (x y : α) (w : World), (Op.equalIn 10000 K (ke x) (ke y)).run P w = .ok (decide (x = y)) w) (ve : β → Value) (k : α) (w : World) : ∀ (l : List (α × β)) (j i : Nat), (Instr.findAsking K (ke k) (gents ke ve j l) i).run P w = .ok ((afind l k i).map fun p => (p.1, ve p.2)) w
  | [], _, _ => by simp [gents, Instr.findAsking, afind]
  | (k', v) :: r, j, i => by
    have h : (Op.equal K (ke k) (ke k')).run P w = .ok (decide (k = k')) w := heq k k' w
    simp only [gents, Instr.findAsking, Sem.run_bind, h, Result.andThen_ok, afind]
    by_cases hk : k = k'
    · simp [hk]
    · simp only [hk, decide_false, if_false]
      exact findAsking_eq heq ve k w r (j + 1) (i + 1)
theorem KeyOK.row {α : Type} [DecidableEq α] {K : TypeId} {fs : Array Field} (R : Row α) (hu : ∀ w, (underlying K).run P w = .ok (.struct fs) w) (hc : ∀ x, CkF P (R.cells x).toArray fs.toList)
    (heq : ∀ (x y : α) (w : World), (Op.equalIn 10000 K (kR R x) (kR R y)).run P w = .ok (decide (x = y)) w) (hs : ∀ x, ((R.cells x).zip (R.cells x)).all (fun p => Instr.sameBits 9999 p.1 p.2) = true) : KeyOK P K (kR R) where
  chk b k w := checkKey_struct (d := 9998) hu (hc k) w
  fnd ve l j k w := by
    simp only [Instr.findKey, Sem.run_bind, hu, Result.andThen_ok, findNow_struct]
    cases l with
    | nil => simp [afind]
    | cons p r =>
      simp only
      exact findAsking_eq heq ve k w (p :: r) j 0
  sta k w := by
    have : Instr.sameBits 10000 (kR R k) (kR R k) = true := by
      rw [show (10000 : Nat) = 9999 + 1 from rfl, kR, Instr.sameBits]
      simpa using hs k
    simp [Instr.keyThatStays, this]
end key
end Go.Gx

namespace Go.Gx
open Go Go.Fw
def iterL {α σ : Type} (f : α → σ → Option σ) : List α → σ → Option σ
  | [], s => some s
  | x :: l, s => (f x s).bind fun s' => iterL f l s'
section
variable {n : Nat} {ds : List Deferred} {e : EnvL} {P : Program} {Q : Exit → Act → World → Prop} {w0 : World} {M : List Nat} {S : List (Nat × Obj)} {vs : List VR} {ro : List Sg}
end
end Go.Gx

namespace Go.Gx
open Go Go.Fw
def mkV (Ds : List Nat) : VR := ⟨0, [], [], none, Ds.map (fun D => (D, .deferred (some [])))⟩
abbrev mks (Ds : List Nat) : List Deferred := Ds.map Go.Fw.mark
section control
variable {n : Nat} {ds : List Deferred} {e : EnvL} {H : World → Prop} {P : Program} {F : Fence} {Q : Exit → Act → World → Prop} {w0 : World} {M : List Nat} {S : List (Nat × Obj)} {vs : List VR} {ro : List Sg}
def JnM (n : Nat) (w0 : World) (M : List Nat) (ro : List Sg) {ι : Type} (md : ι → List Deferred) (p : ι → Prop) (m : ι → EnvL) (mo : ι → List (Nat × Obj)) (mv : ι → List VR) : Act → World → Prop :=
  fun a w => ∃ j, p j ∧ Env n (md j) (m j) a ∧ HV w0 M (mo j) (mv j) ro w
theorem YQ {ι : Type} {x : Code} (md : ι → List Deferred) (p : ι → Prop) (m : ι → EnvL) (mo : ι → List (Nat × Obj)) (mv : ι → List VR)
    (hx : G n ds e (HV w0 M S vs ro) (x.wpIn F 0 P (thenQ (JnM n w0 M ro md p m mo mv) Q)))
    (hy : ∀ j, p j → G n (md j) (m j) (HV w0 M (mo j) (mv j) ro) (Q .normal)) : G n ds e (HV w0 M S vs ro) (x.wpIn F 0 P Q) := by
  refine hx.mono fun a w h => ?_
  rw [thenQ_eq] at h
  refine Go.wpIn_mono h (fun ex a w hq => ?_)
  cases ex with
  | normal =>
    obtain ⟨j, hp, he, hw⟩ := hq
    exact hy j hp a w he hw
  | _ => exact hq
theorem J8 {ι : Type} {md : ι → List Deferred} {p : ι → Prop} {m : ι → EnvL} {mo : ι → List (Nat × Obj)} {mv : ι → List VR} (j : ι) (hd : md j = ds) (hp : p j) (he : Sub e (m j)) (hw : ∀ w, H w → HV w0 M (mo j) (mv j) ro w) :
    G n ds e H (JnM n w0 M ro md p m mo mv) := fun _ w ha hh => ⟨j, hp, by rw [hd]; exact ha.sub he, hw w hh⟩
def AgM (n : Nat) (w0 : World) (M : List Nat) (ro : List Sg) {σ β ι : Type} (r : σ ⊕ β) (md : σ → ι → List Deferred) (pl : σ → ι → Prop) (m : σ → ι → EnvL) (mo : σ → ι → List (Nat × Obj)) (mv : σ → ι → List VR) : Act → World → Prop :=
  fun a w => ∃ s l, r = .inl s ∧ pl s l ∧ Env n (md s l) (m s l) a ∧ HV w0 M (mo s l) (mv s l) ro w
theorem Q6 {σ β ι : Type} {r : σ ⊕ β} {md : σ → ι → List Deferred} {pl : σ → ι → Prop} {m : σ → ι → EnvL} {mo : σ → ι → List (Nat × Obj)} {mv : σ → ι → List VR} (s : σ) (l : ι) (hr : r = .inl s) (hd : md s l = ds) (hp : pl s l) (he : Sub e (m s l)) (hw : ∀ w, H w → HV w0 M (mo s l) (mv s l) ro w) :
    G n ds e H (AgM n w0 M ro r md pl m mo mv) := fun _ w ha hh => ⟨s, l, hr, hp, by rw [hd]; exact ha.sub he, hw w hh⟩
theorem YE {X : Act → World → Prop} {D : Nat} {Ds : List Nat} (i : Nat) (hi : vs[i]? = some (mkV Ds)) (hd : ds = mks Ds)
    (h : G n (mks (D :: Ds)) e (HV w0 M S (vs.set i (mkV (D :: Ds))) ro) X) : G n (Go.Fw.mark D :: ds) e (HV w0 M ((D, .deferred (some [])) :: S) vs ro) X := by
  subst hd
  refine G.pre h (fun w hh => ?_)
  refine HS.perm hh ?_
  have h1 := vbl_at (S := S) i hi
  have h2 := vbl_set (S := S) (v' := mkV (D :: Ds)) i hi
  show ((D, Obj.deferred (some [])) :: (S ++ vbl vs)).Perm (S ++ vbl (vs.set i (mkV (D :: Ds))))
  rw [h1, h2]
  have e1 : (mkV (D :: Ds)).bl = (D, Obj.deferred (some [])) :: (mkV Ds).bl := rfl
  rw [e1]
  exact List.perm_middle.symm
theorem QZ {X : Act → World → Prop} (h : G n (mks []) e (HV w0 M S (vs ++ [mkV []]) ro) X) : G n [] e (HV w0 M S vs ro) X := h.pre fun w hh => by
  show HS w0 M (S ++ vbl (vs ++ [mkV []])) ro w
  have e1 : vbl [mkV []] = [] := rfl
  rw [vbl_append, e1, List.append_nil]
  exact hh
theorem YF {σ β ι : Type} {c : Code} {f : σ → Option (σ ⊕ β)} {o : β} {N : Nat} {s0 : σ} (hN : iterM N f s0 = some o) (md : σ → ι → List Deferred) (pl : σ → ι → Prop) (m : σ → ι → EnvL) (mo : σ → ι → List (Nat × Obj)) (mv : σ → ι → List VR)
    (l0 : ι) (hd : md s0 l0 = ds) (h0 : pl s0 l0) (he : Sub e (m s0 l0)) (hw : ∀ w, HV w0 M S vs ro w → HV w0 M (mo s0 l0) (mv s0 l0) ro w)
    (round : ∀ s l r, pl s l → f s = some r → (∀ b, r = .inr b → b = o) → G n (md s l) (m s l) (HV w0 M (mo s l) (mv s l) ro) (c.wpIn F 0 P (thenQ (AgM n w0 M ro r md pl m mo mv) Q))) :
    G n ds e (HV w0 M S vs ro) ((Code.loop c).wpIn F 0 P Q) := by
  subst hd
  have key : ∀ (i : Nat × σ × ι), G n (md i.2.1 i.2.2) (m i.2.1 i.2.2 ++ []) (fun w => iterM i.1 f i.2.1 = some o ∧ pl i.2.1 i.2.2 ∧ HV w0 M (mo i.2.1 i.2.2) (mv i.2.1 i.2.2) ro w)
      (c.wpIn F 0 P (thenQ (fun a' w' => ∃ j : Nat × σ × ι, Env n (md j.2.1 j.2.2) (m j.2.1 j.2.2 ++ []) a' ∧ (iterM j.1 f j.2.1 = some o ∧ pl j.2.1 j.2.2 ∧ HV w0 M (mo j.2.1 j.2.2) (mv j.2.1 j.2.2) ro w') ∧ j.1 < i.1) Q)) := by
    rintro ⟨k, s, l⟩ a w ha ⟨hk, hp, hh⟩
    simp only [List.append_nil] at ha ⊢
    cases k with
    | zero => simp [iterM] at hk
    | succ k =>
      unfold iterM at hk
      cases hf : f s with
      | none => rw [hf] at hk; cases hk
      | some r =>
        rw [hf] at hk
        have hr := round s l r hp hf (fun b hb => by subst hb; simpa using hk) a w ha hh
        rw [thenQ_eq] at hr ⊢
        refine Go.wpIn_mono hr (fun ex a w hq => ?_)
        cases ex with
        | normal =>
          obtain ⟨s', l', rfl, hp', he', hw'⟩ := hq
          exact ⟨(k, s', l'), he', ⟨hk, hp', hw'⟩, Nat.lt_succ_self k⟩
        | _ => exact hq
  have hl := jaU (kept := []) (H := fun w => iterM N f s0 = some o ∧ pl s0 l0 ∧ HV w0 M (mo s0 l0) (mv s0 l0) ro w) (fun i : Nat × σ × ι => m i.2.1 i.2.2) (fun i w => iterM i.1 f i.2.1 = some o ∧ pl i.2.1 i.2.2 ∧ HV w0 M (mo i.2.1 i.2.2) (mv i.2.1 i.2.2) ro w) (fun i => i.1) (fun i => md i.2.1 i.2.2) (N, s0, l0) (fun w h => h) key
  simp only [List.append_nil] at hl
  exact ZD he (hl.pre fun w hh => ⟨hN, h0, hw w hh⟩)
end control
end Go.Gx

namespace Go.Gx
open Go Go.Fw
def iterX {α σ β : Type} (f : α → σ → Option (σ ⊕ β)) : List α → σ → Option (σ ⊕ β)
  | [], s => some (.inl s)
  | x :: l, s => (f x s).bind fun r => oc r (fun s' => iterX f l s') (fun b => some (.inr b))
theorem iterX_append {α σ β : Type} {f : α → σ → Option (σ ⊕ β)} : ∀ (l m : List α) (s : σ), iterX f (l ++ m) s = (iterX f l s).bind fun r => oc r (fun s' => iterX f m s') (fun b => some (.inr b))
  | [], m, s => rfl
  | x :: l, m, s => by
    simp only [List.cons_append, iterX]
    cases f x s with
    | none => rfl
    | some r =>
      cases r with
      | inl s' => exact iterX_append l m s'
      | inr b => rfl
theorem iterX_step {α σ β : Type} {f : α → σ → Option (σ ⊕ β)} {l : List α} {s0 : σ} {o : σ ⊕ β} (h : iterX f l s0 = some o) {j : Nat} {x : α} (hx : l[j]? = some x) {s : σ} (hs : iterX f (l.take j) s0 = some (.inl s)) :
    ∃ r, f x s = some r ∧ (∀ s', r = .inl s' → iterX f (l.take (j + 1)) s0 = some (.inl s')) ∧ (∀ b, r = .inr b → o = .inr b) := by
  obtain ⟨hj, rfl⟩ := List.getElem?_eq_some_iff.1 hx
  have e1 : l = l.take (j + 1) ++ l.drop (j + 1) := (List.take_append_drop _ _).symm
  have e2 : l.take (j + 1) = l.take j ++ [l[j]] := by rw [List.take_append_getElem]
  rw [e1, iterX_append, e2, iterX_append, hs] at h
  simp only [Option.bind_some, oc, iterX] at h
  cases hf : f l[j] s with
  | none => rw [hf] at h; simp at h
  | some r =>
    refine ⟨r, rfl, fun s' hr => ?_, fun b hr => ?_⟩
    · subst hr
      rw [e2, iterX_append, hs]
      simp [iterX, oc, hf]
    · subst hr
      rw [hf] at h
      simpa [oc] using h.symm
def ItX (P : Program) (gf : FuncId) (cap : List Value) (vals : List Value) (w0 : World) (M : List Nat) (ro : List Sg) (rd : World → Prop) : Prop :=
  ∀ {γ : Type} (Y : γ → List (Nat × Obj)) (St : Nat → γ → Prop) (Sp : γ → Prop) (l : Nat), (∀ k g X w, St k g → HS w0 M (Y g ++ X) ro w → rd w) → (∀ g X w, Sp g → HS w0 M (Y g ++ X) ro w → rd w) →
    (∀ j v g X w, vals[j]? = some v → St j g → HS w0 M (Y g ++ X) ro w → YieldOK P l [v] w (fun en w' => (en = .returned (.bool true) ∧ ∃ g', St (j + 1) g' ∧ HS w0 M (Y g' ++ X) ro w') ∨ (en = .returned (.bool false) ∧ ∃ g', Sp g' ∧ HS w0 M (Y g' ++ X) ro w'))) →
    ∀ g0, St 0 g0 → ∀ w X0, HS w0 M (Y g0 ++ X0) ro w → Calls P gf ([Value.func (.yield l) #[] #[]] ++ cap).toArray w (fun en w' => ∃ v, en = .returned v ∧ ∃ g, (St vals.length g ∨ Sp g) ∧ HS w0 M (Y g ++ X0) ro w')
def bodyX {σ β ι ι' : Type} (w1 : World) (K : List Nat) (r : σ ⊕ β) (pl : σ → ι → Prop) (mo : σ → ι → List (Nat × Obj)) (mv : σ → ι → List VR) (pl' : β → ι' → Prop) (mo' : β → ι' → List (Nat × Obj)) (mv' : β → ι' → List VR) : Exit → Act → World → Prop := fun x _ w' =>
  (x = .normal ∧ ∃ s l, r = .inl s ∧ pl s l ∧ HV w1 K (mo s l) (mv s l) [] w') ∨ (x = .ret ∧ ∃ b l, r = .inr b ∧ pl' b l ∧ HV w1 K (mo' b l) (mv' b l) [] w')
section
variable {n : Nat} {ds : List Deferred} {e : EnvL} {P : Program} {Q : Exit → Act → World → Prop} {w0 : World} {M : List Nat} {S : List (Nat × Obj)} {vs : List VR} {ro : List Sg}
end
section
variable {n : Nat} {ds : List Deferred} {e : EnvL} {P : Program} {Q : Exit → Act → World → Prop} {w0 : World} {M : List Nat} {S : List (Nat × Obj)} {vs : List VR} {ro : List Sg}
theorem iterX_L {α σ : Type} {f : α → σ → Option σ} : ∀ (l : List α) (s : σ), iterX (β := Empty) (fun x s => (f x s).bind fun s' => some (.inl s')) l s = (iterL f l s).bind fun s' => some (.inl s')
  | [], s => rfl
  | x :: l, s => by
    simp only [iterX, iterL]
    cases f x s with
    | none => rfl
    | some s' => exact iterX_L l s'
def bodyL {σ ι : Type} (w1 : World) (K : List Nat) (r : σ) (pl : σ → ι → Prop) (mo : σ → ι → List (Nat × Obj)) (mv : σ → ι → List VR) : Exit → Act → World → Prop := fun x _ w' =>
  x = .normal ∧ ∃ s l, r = s ∧ pl s l ∧ HV w1 K (mo s l) (mv s l) [] w'
theorem QU {σ ι : Type} {w1 : World} {K : List Nat} {r : σ} {pl : σ → ι → Prop} {mo : σ → ι → List (Nat × Obj)} {mv : σ → ι → List VR} (s : σ) (l : ι) (hr : r = s) (hp : pl s l) (hw : ∀ w, HV w1 K S vs ro w → HV w1 K (mo s l) (mv s l) [] w) :
    G n ds e (HV w1 K S vs ro) (bodyL w1 K r pl mo mv .normal) := fun _ w _ hh => ⟨rfl, s, l, hr, hp, hw w hh⟩
end
section
variable {n : Nat} {ds : List Deferred} {e : EnvL} {P : Program} {w0 : World} {M : List Nat} {S : List (Nat × Obj)} {vs : List VR} {ro : List Sg}
theorem Ks {Ds : List Nat} {fn : Func} {rs : List ResultVar} {R : Ending → World → Prop} {vr : List Value} (hi : vs.getLast? = some (mkV Ds)) (hd : ds = mks Ds) (hr : fn.results = rs.toArray) (hv : ∀ w, HV w0 M S vs.dropLast ro w → ResOK P e w rs vr) (hR : ∀ w, HV w0 M S vs.dropLast ro w → R (.returned (retv vr)) w) :
    G n ds e (HV w0 M S vs ro) (bodyPostM (fw none) 0 P fn R .ret) := by
  subst hd
  have h1 : vs = vs.dropLast ++ [mkV Ds] := by
    obtain ⟨h2, h3⟩ := List.getLast?_eq_some_iff.1 hi
    rw [h3, List.dropLast_concat]
  have h2 : vbl vs = vbl vs.dropLast ++ Ds.map (fun D => (D, Obj.deferred (some []))) := by
    conv => lhs; rw [h1]
    rw [vbl_append]
    simp [vbl, VR.bl, vown, mkV]
  refine G.pre (H' := HS w0 M (Ds.map (fun D => (D, Obj.deferred (some []))) ++ (S ++ vbl vs.dropLast)) ro) ?_ (fun w hh => HS.perm hh (by
    rw [h2, ← List.append_assoc]
    exact List.perm_append_comm))
  intro a w he hh
  show LeavesInM (fw none) 0 P fn a.tmps R a.defers .returning w
  rw [he.defs]
  exact leaves_marks Ds _ w hh fun w' hw' => ⟨_, results_ok hr he (hv w' hw'), hR w' hw'⟩
end
end Go.Gx

namespace Go.Gx
open Go Go.Fw
section
variable {P : Program}
theorem run_copy_rows (w : World) (dT sT ty elem : TypeId) (g dLen dCap : Nat) (a : Addr) (sLen sCap k n : Nat) (cur : Array Value) (t : TypeId) (cs : List Value)
    (hu : P.underlying dT = some (.slice elem)) (hs : (P.info? elem).map (·.size) = some k) (hg : w.heap[g]? = some (.cells cur t (0, 0))) (hn : n = Nat.min sLen dLen) (hc : cs.length = n * k)
    (hsrc : ∀ j v, cs[j]? = some v → w.cell? (a.add j) = some v) (hfit : cs.length ≤ cur.size) (h1 : ∀ v ∈ cs, v.oneCell' = true) :
    (Builtin.copy_ #[dT, sT] ty #[.slice (some ⟨g, 0, none⟩) dLen dCap, .slice (some a) sLen sCap]).run P w = .ok (goInt n) (w.setRow g (cs ++ cur.toList.drop cs.length).toArray) := by
  have hl := run_loadCells_list (P := P) w a cs hsrc
  have hst := run_storeCells_at P g 0 t cs 0 cur w hg (by simpa using hfit) h1
  simp only [Nat.zero_add, List.take_zero, List.nil_append] at hst
  cases hq : P.info? elem with
  | none => simp [hq] at hs
  | some i =>
    have hi : i.size = k := by simpa [hq] using hs
    simp [Builtin.copy_, run_underlying hu, Builtin.lenOf, Builtin.firstCells, sizeOf, typeInfo, hq, hi, ← hn, ← hc, hl, hst]
theorem run_copy_zero (w : World) (dT sT ty elem : TypeId) (d a : Option Addr) (dLen dCap sLen sCap k : Nat) (hu : P.underlying dT = some (.slice elem)) (hs : (P.info? elem).map (·.size) = some k) (hn : Nat.min sLen dLen = 0) :
    (Builtin.copy_ #[dT, sT] ty #[.slice d dLen dCap, .slice a sLen sCap]).run P w = .ok (goInt 0) w := by
  cases hq : P.info? elem with
  | none => simp [hq] at hs
  | some i =>
    have hi : i.size = k := by simpa [hq] using hs
    have hl : ∀ a : Addr, (loadCells a 0).run P w = .ok #[] w := fun a => by simp [loadCells, loadCellsFrom]
    cases d <;> cases a <;> simp [Builtin.copy_, run_underlying hu, Builtin.lenOf, Builtin.firstCells, sizeOf, typeInfo, hq, hi, hn, hl, storeCells]
end
section
variable {n : Nat} {ds : List Deferred} {e : EnvL} {P : Program} {r : Option Nat} {Q : Exit → Act → World → Prop} {ops : Array Oper} {w0 : World} {M : List Nat} {S : List (Nat × Obj)} {vs : List VR} {ro : List Sg} {rest : List Oper}
theorem jaV {α : Type} (R : Row α) (i : Nat) {d : Nat} {t ty E : TypeId} {x y : Operand} {sz ln cap : Nat} {l m lm : List α} {sp : List Value} {q : Option (Nat × Nat)} {q2 : Option Addr} {n2 c2 : Nat} {mo : List (Nat × Obj)} {pos : String} {after : Array Edge}
    (hu : P.underlying t = some (.slice E)) (hs : (P.info? E).map (·.size) = some sz) (hsz : sz = R.sz) (hs0 : Nat.blt 0 R.sz = true) (hx : ev e x = some (slv q ln cap)) (hy : ev e y = some (.slice q2 n2 c2)) (hvi : vs[i]? = some ⟨E, R.enc l, sp, q, mo⟩) (hv : VOK sz ln cap (R.enc l) sp q)
    (hm : m.length = n2) (hq2 : AOK n2 q2) (hsrc : ∀ w, HV w0 M S vs ro w → segOK w (aB q2, aO q2, R.enc m)) (hle : m.length ≤ l.length) (hlm : m ++ l.drop m.length = lm) (hn : Nat.blt d n = true)
    (h : VOK sz ln cap (R.enc lm) sp q → G n ds ((d, .int .i64 (m.length : Int)) :: e) (HV w0 M S (vs.set i ⟨E, R.enc lm, sp, q, mo⟩) ro) (wpListIn (fw r) 0 P ops Q rest)) :
    G n ds e (HV w0 M S vs ro) (wpListIn (fw r) 0 P ops Q (⟨some d, .call ⟨.builtin .copy, #[x, y], #[t, t]⟩, ty, pos, after, none⟩ :: rest)) := fun a w he hh => by
  subst hsz hm
  have hln := vlen R hv hs0
  have hlen2 : lm.length = l.length := by rw [← hlm]; simp; omega
  have hv' : VOK R.sz ln cap (R.enc lm) sp q := by
    have e1 : (R.enc lm).length = (R.enc l).length := by rw [R.enc_len, R.enc_len, hlen2]
    exact ⟨by rw [e1]; exact hv.hlen, by rw [List.length_append, e1, ← List.length_append]; exact hv.hcap, hv.hle, hv.hmax, (fun hn' => by
      have := hv.hnone hn'
      refine ⟨this.1, ?_⟩
      exact this.2), hv.hoff⟩
  by_cases h0 : m = []
  · subst h0
    have e1 : lm = l := by rw [← hlm]; simp
    subst e1
    have hrun := run_copy_zero (P := P) w t t ty E (q.map fun p => ⟨p.1, p.2, none⟩) q2 ln cap 0 c2 R.sz hu hs (by exact Nat.zero_min ln)
    refine wpListIn_value (wanted_none rfl _) (v := .int .i64 0) (w' := w) (by
      have hx' : a.eval x = .slice (q.map fun p => ⟨p.1, p.2, none⟩) ln cap := he.eval hx
      have hy' : a.eval y = .slice q2 0 c2 := he.eval hy
      simp only [execOp, resolve]
      simp [invoke, builtin, hx', hy', hrun, goInt]) ?_
    refine h hv _ _ (he.put hn _) ?_
    have : vs.set i ⟨E, R.enc lm, sp, q, mo⟩ = vs := by
      apply List.ext_getElem?
      intro j
      rw [List.getElem?_set]
      split
      · rename_i hj; subst hj; split
        · exact hvi.symm
        · rename_i hlt; rw [List.getElem?_eq_none (by omega)]
      · rfl
    rw [this]
    exact hh
  · have hm0 : 0 < m.length := List.length_pos_iff.2 h0
    obtain ⟨b2, o2, rfl⟩ := hq2 hm0
    cases q with
    | none => have := (hv.hnone rfl).1; omega
    | some p =>
      have hoff := hv.hoff p rfl
      have hbk : w.heap[p.1]? = some (.cells (R.enc l ++ sp).toArray E (0, 0)) := hh.hs.ownOK (p.1, _) (HV.vmem i hvi _ (by simp [VR.bl, vown]))
      have hx' : a.eval x = .slice (some ⟨p.1, 0, none⟩) ln cap := by rw [he.eval hx]; simp [slv, hoff]
      have hy' : a.eval y = .slice (some ⟨b2, o2, none⟩) m.length c2 := he.eval hy
      have hsr : ∀ j v, (R.enc m)[j]? = some v → w.cell? ((⟨b2, o2, none⟩ : Addr).add j) = some v := fun j v hj => by
        rw [addr_add]
        exact segOK.at (hsrc w hh) hj
      have hrun := run_copy_rows (P := P) w t t ty E p.1 ln cap ⟨b2, o2, none⟩ m.length c2 R.sz m.length (R.enc l ++ sp).toArray E (R.enc m) hu hs hbk (by rw [← hln]; exact (Nat.min_eq_left hle).symm) (R.enc_len m) hsr (by
        have : m.length * R.sz ≤ l.length * R.sz := Nat.mul_le_mul_right _ hle
        simp [R.enc_len]; omega) (R.enc_one m)
      have hcs : (R.enc m ++ (R.enc l ++ sp).toArray.toList.drop (R.enc m).length).toArray = (R.enc lm ++ sp).toArray := by
        congr 1
        have h2 : l.take m.length ++ l.drop m.length = l := List.take_append_drop _ _
        have h3 : (R.enc (l.take m.length)).length = (R.enc m).length := by rw [R.enc_len, R.enc_len]; congr 1; simp; omega
        have h4 : R.enc l = R.enc (l.take m.length) ++ R.enc (l.drop m.length) := by rw [← R.enc_append, h2]
        show R.enc m ++ (R.enc l ++ sp).drop (R.enc m).length = R.enc lm ++ sp
        rw [← hlm, R.enc_append, List.append_assoc]
        congr 1
        rw [h4, List.append_assoc, ← h3, List.drop_left]
      rw [hcs] at hrun
      refine wpListIn_value (wanted_none rfl _) (v := .int .i64 m.length) (w' := w.setRow p.1 (R.enc lm ++ sp).toArray) (by simp only [execOp, resolve]; simp [invoke, builtin, hx', hy', hrun, goInt]) ?_
      refine h hv' _ _ (he.put hn _) (hh.vupd i hvi Ext.setRow (setRow_heap w p.1 _ _ E (0, 0) hbk))
end
section
variable {P : Program} {e : EnvL} {w : World} {dst : Option Tmp} {ty : TypeId} {pos : String} {after : Array Edge} {g : Option (Nat × Bool)}
end
end Go.Gx

namespace Go.Gx
open Go Go.Fw
section
variable {n : Nat} {ds : List Deferred} {e : EnvL} {P : Program} {r : Option Nat} {Q : Exit → Act → World → Prop} {ops : Array Oper} {w0 : World} {M : List Nat} {S : List (Nat × Obj)} {vs : List VR} {ro : List Sg} {rest : List Oper}
theorem Row.part {α : Type} (R : Row α) (l : List α) (j f : Nat) (x0 x1 : α) (us sp : List Value) (hx : l[j]? = some x0) (hf : f + us.length ≤ R.sz) (hset : (R.cells x0).take f ++ us ++ (R.cells x0).drop (f + us.length) = R.cells x1) :
    (R.enc l ++ sp).take (j * R.sz + f) ++ us ++ (R.enc l ++ sp).drop (j * R.sz + f + us.length) = R.enc (l.set j x1) ++ sp := by
  have hjl : j < l.length := (List.getElem?_eq_some_iff.1 hx).1
  have e0 := R.enc_set l j x0 x0 hx
  have e1 := R.enc_set l j x0 x1 hx
  have es : l.set j x0 = l := by
    apply List.ext_getElem?
    intro k
    rw [List.getElem?_set]
    split
    · rename_i hk; subst hk; simp [hjl]; exact (List.getElem?_eq_some_iff.1 hx).2.symm
    · rfl
  rw [es] at e0
  have hle : (j + 1) * R.sz ≤ l.length * R.sz := Nat.mul_le_mul_right _ hjl
  rw [Nat.add_mul, Nat.one_mul] at hle
  have hA : ((R.enc l).take (j * R.sz)).length = j * R.sz := by rw [List.length_take, R.enc_len]; omega
  have hC : (R.cells x0).length = R.sz := R.len x0
  generalize hAd : (R.enc l).take (j * R.sz) = A at e0 e1 hA
  generalize (R.enc l).drop (j * R.sz + R.sz) = D at e0 e1
  rw [← e0, ← e1, ← hset]
  have t1 : (A ++ R.cells x0 ++ D ++ sp).take (j * R.sz + f) = A ++ (R.cells x0).take f := by
    rw [List.append_assoc, List.append_assoc, List.take_append, hA, List.take_of_length_le (by omega), show j * R.sz + f - j * R.sz = f by omega, List.take_append_of_le_length (by omega)]
  have t2 : (A ++ R.cells x0 ++ D ++ sp).drop (j * R.sz + f + us.length) = (R.cells x0).drop (f + us.length) ++ D ++ sp := by
    rw [List.append_assoc, List.append_assoc, List.drop_append, hA, List.drop_eq_nil_of_le (by omega), List.nil_append, show j * R.sz + f + us.length - j * R.sz = f + us.length by omega, List.drop_append_of_le_length (by omega), List.append_assoc]
  rw [t1, t2]
  simp only [List.append_assoc]
end
end Go.Gx

namespace Go.Gx
open Go Go.Fw
section
variable {P : Program}
inductive EqG (P : Program) (xs ys : Array Value) : List Field → Bool → Prop
  | nil : EqG P xs ys [] true
  | int {f : Field} {fs : List Field} {k : IntKind} {a c : Int} {b : Bool} (hn : (f.name == "_") = false) (hg : ∀ w, (isAgg f.type).run P w = .ok false w) (hu : ∃ k', P.underlying f.type = some (.int k')) (hx : xs[f.offset]? = some (.int k a)) (hy : ys[f.offset]? = some (.int k c)) (h : EqG P xs ys fs b) : EqG P xs ys (f :: fs) (decide (a = c) && b)
  | bool {f : Field} {fs : List Field} {a c : Bool} {b : Bool} (hn : (f.name == "_") = false) (hg : ∀ w, (isAgg f.type).run P w = .ok false w) (hu : P.underlying f.type = some .bool) (hx : xs[f.offset]? = some (.bool a)) (hy : ys[f.offset]? = some (.bool c)) (h : EqG P xs ys fs b) : EqG P xs ys (f :: fs) (decide (a = c) && b)
  | sub {f : Field} {fs : List Field} {us vs : List Value} {k : Nat} {fs' : Array Field} {b b' : Bool} (hn : (f.name == "_") = false) (hg : ∀ w, (isAgg f.type).run P w = .ok true w) (hz : ∀ w, (sizeOf f.type).run P w = .ok k w) (hlx : us.length = k) (hly : vs.length = k) (hx : (xs.toList.drop f.offset).take k = us) (hy : (ys.toList.drop f.offset).take k = vs)
      (hu : P.underlying f.type = some (.struct fs')) (hp : P.stoodInHeld f.type = false) (h' : EqF P us.toArray vs.toArray fs'.toList b') (h : EqG P xs ys fs b) : EqG P xs ys (f :: fs) (b' && b)
theorem part_agg {T : TypeId} {cs : Array Value} {o : Nat} {us : List Value} {w : World} (hg : (isAgg T).run P w = .ok true w) (hz : (sizeOf T).run P w = .ok us.length w) (hv : (cs.toList.drop o).take us.length = us) : (part T cs o).run P w = .ok (.agg us.toArray) w := by
  have hsub : cs.extract o (o + us.length) = us.toArray := by
    apply Array.toList_inj.1
    rw [Array.toList_extract, List.extract_eq_take_drop]
    simpa using hv
  simp [part, hg, hz, hsub]
theorem EqG.run {xs ys : Array Value} {fs : List Field} {b : Bool} (h : EqG P xs ys fs b) (d : Nat) (w : World) : (Op.eqFields (d + 2) xs ys fs).run P w = .ok b w := by
  induction h with
  | nil => rfl
  | @int f fs k a c b hn hg hu hx hy h ih =>
    obtain ⟨k', hu⟩ := hu
    have hn' : f.name ≠ "_" := by simpa using hn
    simp only [Op.eqFields, hn', ne_eq, not_false_eq_true, if_true, Sem.run_bind, part_one (hg w) hx, part_one (hg w) hy, Result.andThen_ok, Go.run_equalIn_int w (d + 1) f.type k k' a c hu, Sem.run_ite]
    by_cases he : a = c
    · subst he; simp [ih]
    · simp [he]
  | @bool f fs a c b hn hg hu hx hy h ih =>
    have hn' : f.name ≠ "_" := by simpa using hn
    simp only [Op.eqFields, hn', ne_eq, not_false_eq_true, if_true, Sem.run_bind, part_one (hg w) hx, part_one (hg w) hy, Result.andThen_ok, run_equalIn_bool' w (d + 1) f.type a c hu, Sem.run_ite]
    by_cases he : a = c
    · subst he; simp [ih]
    · simp [he]
  | @sub f fs us vs k fs' b b' hn hg hz hlx hly hx hy hu hp h' h ih =>
    have hn' : f.name ≠ "_" := by simpa using hn
    have hf : P.fieldsOf f.type = fs' := by simp [Program.fieldsOf, hu]
    have he : (Op.equalIn (d + 2) f.type (.agg us.toArray) (.agg vs.toArray)).run P w = .ok b' w := by
      rw [run_equalIn_agg w (d + 1) f.type us.toArray vs.toArray (by rw [hf]; exact hu) hp, hf]
      exact h'.run d w
    simp only [Op.eqFields, hn', ne_eq, not_false_eq_true, if_true, Sem.run_bind, part_agg (us := us) (hg w) (by rw [hlx]; exact hz w) (by rw [hlx]; exact hx), part_agg (us := vs) (hg w) (by rw [hly]; exact hz w) (by rw [hly]; exact hy), Result.andThen_ok, he, Sem.run_ite]
    cases b' with
    | true => simp [ih]
    | false => simp
end
end Go.Gx

