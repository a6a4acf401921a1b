/- What the functions that the law StripMirrored reaches come to, and why it holds: part 3. -/
import Derived.Test.YtnkphlgohnlooaaStripMirrored2
import Derived.Shelf.Slices.CompactI
namespace Go.Proofs
open Go.Shelf
def laysCompact_ren : Go.Shelf.Ren := ⟨fun | 20 => 93 | n => n, fun | 0 => 0 | 3 => 3 | 4 => 4 | 22 => 32 | n => n, fun | n => n⟩
theorem laysCompact : Go.Proofs.Lays2.n20 Try.prog laysCompact_ren := {
  mixed := by kernel_rfl,
  f20 := Try.func93.trans (congrArg some (by kernel_rfl)),
  t0 := Try.underlying0,
  a0 := Try.isAgg0,
  z0 := Try.sizeOf0,
  v0 := Try.zeroValue0,
  t3 := Try.underlying3,
  a3 := Try.isAgg3,
  z3 := Try.sizeOf3,
  v3 := Try.zeroValue3,
  t4 := Try.underlying4,
  a4 := Try.isAgg4,
  z4 := Try.sizeOf4,
  v4 := Try.zeroValue4,
  t22 := Try.underlying32,
  a22 := Try.isAgg32,
  z22 := Try.sizeOf32,
  v22 := Try.zeroValue32,
  i3 := by kernel_rfl }
end Go.Proofs
namespace Go.Proofs.Ws
open Go Go.Fw Go.Gx Go.Sp
theorem RI_len (l : List Int) : (RI.enc l).length = l.length := by rw [RI.enc_len]; exact Nat.mul_one _
theorem RI_get {l : List Int} {j : Nat} (h : j < l.length) : (RI.enc l)[j]? = some (.int .i64 l[j]!) := by
  have := RI.enc_get l j 0 l[j]! (by simp [h]) (by decide)
  simpa [RI] using this
def yN (l : List Int) : Option (List Int) := if l.length ≤ 4611686018427387903 then some (Go.Lib.compact l) else none
theorem compact_le (l : List Int) : (Go.Lib.compact l).length ≤ l.length := by
  unfold Go.Lib.compact Go.Lib.compactUpTo
  rw [List.length_map]
  exact Nat.le_trans (List.length_filter_le _ _) (by simp)
theorem put_cells {l s : List Int} {sp : List Value} (hs : s.length = l.length) : Go.Sort.putCells (Value.int .i64) 0 s.toArray (RI.enc l ++ sp).toArray = (RI.enc s ++ sp).toArray := by
  apply Array.toList_inj.1
  apply List.ext_getElem?
  intro k
  unfold Go.Sort.putCells
  rw [Array.getElem?_toList, Array.getElem?_mapIdx]
  simp only [List.getElem?_toArray, Nat.zero_le, true_and, Nat.zero_add, List.size_toArray, Nat.sub_zero]
  by_cases hk : k < s.length
  · rw [List.getElem?_append_left (by rw [RI_len]; omega), List.getElem?_append_left (by rw [RI_len]; omega), RI_get (by omega), RI_get hk]
    simp [hk]
  · rw [List.getElem?_append_right (by rw [RI_len]; omega), List.getElem?_append_right (by rw [RI_len]; omega), RI_len, RI_len, hs]
    have h2 : ¬ k < l.length := by omega
    simp [hk, h2]
theorem JU (l : List Int) (V : VL) (w : World) (hw : HV w (keys [] [⟨3, RI.enc l, V.sp, V.q, []⟩]) [] [⟨3, RI.enc l, V.sp, V.q, []⟩] [] w) (hv : VOK 1 V.n V.cap (RI.enc l) V.sp V.q) {res : List Int} (hm : yN l = some res) :
    Calls Try.prog 93 #[slv V.q V.n V.cap] w (fun en w' => ∃ l' : VL, en = .returned (slv l'.q l'.n l'.cap) ∧ (VOK 1 l'.n l'.cap (RI.enc res) l'.sp l'.q) ∧ HV w (keys [] [⟨3, RI.enc l, V.sp, V.q, []⟩]) [] [⟨3, RI.enc res, l'.sp, l'.q, []⟩] [] w') := by
  unfold yN at hm
  obtain ⟨hl, hm⟩ := ifO hm
  obtain rfl := Option.some.inj hm
  have hn := vlen RI hv rfl
  obtain ⟨q, n, cap, sp⟩ := V
  simp only at hw hv hn ⊢
  subst hn
  have hle := compact_le l
  generalize hc : Go.Lib.compact l = r at *
  have hv' : VOK 1 r.length cap (RI.enc r) (RI.enc (List.replicate (l.length - r.length) 0) ++ sp) q := ⟨by rw [RI_len, Nat.mul_one], by
      have := hv.hcap
      rw [List.length_append, RI_len] at this
      rw [List.length_append, List.length_append, RI_len, RI_len, List.length_replicate]
      omega, by have := hv.hle; omega, hv.hmax, fun h => by
        have h1 := hv.hnone h
        have h2 : l.length = 0 := h1.1
        exact ⟨by omega, h1.2⟩, hv.hoff⟩
  cases q with
  | none =>
    have h0 := (hv.hnone rfl).1
    have e : l = [] := List.length_eq_zero_iff.1 h0
    subst e
    have er : r = [] := by rw [← hc]; rfl
    subst er
    refine Calls.mono (Any.slices_Compact_int_empty laysCompact none cap w) ?_
    rintro en w' ⟨rfl, rfl⟩
    exact ⟨⟨none, 0, cap, sp⟩, rfl, hv', by simpa using hw⟩
  | some p =>
    have ho := hv.hoff p rfl
    have hb : w.heap[p.1]? = some (.cells (RI.enc l ++ sp).toArray 3 (0, 0)) := hw.hs.ownOK (p.1, _) (by simp [vbl, VR.bl, vown])
    have hlt : p.1 < w.heap.size := (Array.getElem?_eq_some_iff.1 hb).1
    have hH : Go.Sort.Holds (Value.int .i64) w p.1 0 l.toArray := fun j hj => by
      have hj' : j < l.length := by simpa using hj
      refine ⟨?_, by simp [World.frozen?, hb]⟩
      have : (RI.enc l ++ sp)[j]? = some (.int .i64 l[j]!) := by rw [List.getElem?_append_left (by rw [RI_len]; exact hj')]; exact RI_get hj'
      simp [World.cell?, hb, this]
    have e1 : slv (some p) l.length cap = Value.slice (some ⟨p.1, 0, none⟩) l.length cap := by simp [slv, ho]
    rw [e1]
    refine Calls.mono (Any.slices_Compact_int laysCompact p.1 0 cap l w hH (by omega) hv.hle) ?_
    rw [hc]
    rintro en w' ⟨rfl, k, rfl⟩
    have e2 : Value.slice (some ⟨p.1, 0, none⟩) r.length cap = slv (some p) r.length cap := by simp [slv, ho]
    refine ⟨⟨some p, r.length, cap, RI.enc (List.replicate (l.length - r.length) 0) ++ sp⟩, by rw [e2], hv', ?_⟩
    have hput := put_cells (l := l) (s := r ++ List.replicate (l.length - r.length) 0) (sp := sp) (by simp; omega)
    have henc : RI.enc (r ++ List.replicate (l.length - r.length) 0) ++ sp = RI.enc r ++ (RI.enc (List.replicate (l.length - r.length) 0) ++ sp) := by rw [RI.enc_append, List.append_assoc]
    rw [henc] at hput
    have hmod : ∀ i : Nat, (Go.Sort.putRow (Value.int .i64) (Go.Sort.ahead w k) p.1 0 (r ++ List.replicate (l.length - r.length) 0).toArray).heap[i]? = if i = p.1 then some (.cells (RI.enc r ++ (RI.enc (List.replicate (l.length - r.length) 0) ++ sp)).toArray 3 (0, 0)) else w.heap[i]? := fun i => by
      simp only [Go.Sort.putRow, Go.Sort.mapBlock, Go.Sort.ahead]
      rw [Array.getElem?_modify]
      by_cases h : p.1 = i
      · subst h
        rw [if_pos rfl, if_pos rfl, hb]
        simp only [Option.map_some, Go.Sort.onCells, hput]
      · rw [if_neg h, if_neg (fun e => h e.symm)]
    have hhs := hw.hs
    refine ⟨rfl, rfl, rfl, ?_, fun i hi hM => ?_, fun x hx => ?_, fun x hx => ?_, ?_, fun x hx => by simp at hx, fun x hx => by simp at hx⟩
    · simp [Go.Sort.putRow, Go.Sort.mapBlock, Go.Sort.ahead]
    · have : i ≠ p.1 := fun e => hM (by simp [keys, vbl, VR.bl, vown, e])
      exact (hmod i).trans (if_neg this)
    · simp only [vbl, VR.bl, vown, List.nil_append, List.append_nil, List.mem_singleton] at hx
      subst hx
      exact (hmod p.1).trans (if_pos rfl)
    · simp only [vbl, VR.bl, vown, List.nil_append, List.append_nil, List.mem_singleton] at hx
      subst hx
      exact .inr (by simp [keys, vbl, VR.bl, vown])
    · simp [vbl, VR.bl, vown]
end Go.Proofs.Ws

namespace Go.Gx
open Go Go.Fw
section
variable {P : Program}
inductive EqG (P : Program) (xs ys : Array Value) : List Field → Bool → Prop
  | nil : EqG P xs ys [] true
  | int {f : Field} {fs : List Field} {k : IntKind} {a c : Int} {b : Bool} (hn : (f.name == "_") = false) (hg : ∀ w, (isAgg f.type).run P w = .ok false w) (hu : ∃ k', P.underlying f.type = some (.int k')) (hx : xs[f.offset]? = some (.int k a)) (hy : ys[f.offset]? = some (.int k c)) (h : EqG P xs ys fs b) : EqG P xs ys (f :: fs) (decide (a = c) && b)
  | bool {f : Field} {fs : List Field} {a c : Bool} {b : Bool} (hn : (f.name == "_") = false) (hg : ∀ w, (isAgg f.type).run P w = .ok false w) (hu : P.underlying f.type = some .bool) (hx : xs[f.offset]? = some (.bool a)) (hy : ys[f.offset]? = some (.bool c)) (h : EqG P xs ys fs b) : EqG P xs ys (f :: fs) (decide (a = c) && b)
  | sub {f : Field} {fs : List Field} {us vs : List Value} {k : Nat} {fs' : Array Field} {b b' : Bool} (hn : (f.name == "_") = false) (hg : ∀ w, (isAgg f.type).run P w = .ok true w) (hz : ∀ w, (sizeOf f.type).run P w = .ok k w) (hlx : us.length = k) (hly : vs.length = k) (hx : (xs.toList.drop f.offset).take k = us) (hy : (ys.toList.drop f.offset).take k = vs)
      (hu : P.underlying f.type = some (.struct fs')) (hp : P.stoodInHeld f.type = false) (h' : EqF P us.toArray vs.toArray fs'.toList b') (h : EqG P xs ys fs b) : EqG P xs ys (f :: fs) (b' && b)
theorem part_agg {T : TypeId} {cs : Array Value} {o : Nat} {us : List Value} {w : World} (hg : (isAgg T).run P w = .ok true w) (hz : (sizeOf T).run P w = .ok us.length w) (hv : (cs.toList.drop o).take us.length = us) : (part T cs o).run P w = .ok (.agg us.toArray) w := by
  have hsub : cs.extract o (o + us.length) = us.toArray := by
    apply Array.toList_inj.1
    rw [Array.toList_extract, List.extract_eq_take_drop]
    simpa using hv
  simp [part, hg, hz, hsub]
theorem EqG.run {xs ys : Array Value} {fs : List Field} {b : Bool} (h : EqG P xs ys fs b) (d : Nat) (w : World) : (Op.eqFields (d + 2) xs ys fs).run P w = .ok b w := by
  induction h with
  | nil => rfl
  | @int f fs k a c b hn hg hu hx hy h ih =>
    obtain ⟨k', hu⟩ := hu
    have hn' : f.name ≠ "_" := by simpa using hn
    simp only [Op.eqFields, hn', ne_eq, not_false_eq_true, if_true, Sem.run_bind, part_one (hg w) hx, part_one (hg w) hy, Result.andThen_ok, Go.run_equalIn_int w (d + 1) f.type k k' a c hu, Sem.run_ite]
    by_cases he : a = c
    · subst he; simp [ih]
    · simp [he]
  | @bool f fs a c b hn hg hu hx hy h ih =>
    have hn' : f.name ≠ "_" := by simpa using hn
    simp only [Op.eqFields, hn', ne_eq, not_false_eq_true, if_true, Sem.run_bind, part_one (hg w) hx, part_one (hg w) hy, Result.andThen_ok, run_equalIn_bool' w (d + 1) f.type a c hu, Sem.run_ite]
    by_cases he : a = c
    · subst he; simp [ih]
    · simp [he]
  | @sub f fs us vs k fs' b b' hn hg hz hlx hly hx hy hu hp h' h ih =>
    have hn' : f.name ≠ "_" := by simpa using hn
    have hf : P.fieldsOf f.type = fs' := by simp [Program.fieldsOf, hu]
    have he : (Op.equalIn (d + 2) f.type (.agg us.toArray) (.agg vs.toArray)).run P w = .ok b' w := by
      rw [run_equalIn_agg w (d + 1) f.type us.toArray vs.toArray (by rw [hf]; exact hu) hp, hf]
      exact h'.run d w
    simp only [Op.eqFields, hn', ne_eq, not_false_eq_true, if_true, Sem.run_bind, part_agg (us := us) (hg w) (by rw [hlx]; exact hz w) (by rw [hlx]; exact hx), part_agg (us := vs) (hg w) (by rw [hly]; exact hz w) (by rw [hly]; exact hy), Result.andThen_ok, he, Sem.run_ite]
    cases b' with
    | true => simp [ih]
    | false => simp
end
end Go.Gx

namespace Go.Fw
open Go Go.Gx
section
variable {n : Nat} {ds : List Deferred} {e : EnvL} {H : World → Prop} {P : Program} {F : Fence} {Q : Exit → Act → World → Prop} {r : Option Nat} {ops : Array Oper} {rest : List Oper} {d : Nat} {v : Value} {ty : TypeId} {pos : String} {after : Array Edge}
theorem jo {ops : Array Oper} {K : Act → World → Prop} (h : G n ds e H K) : G n ds e H (wpListIn F 0 P ops (thenQ K Q) []) := jx (ja h)
theorem jp {id : Nat} {l : List Oper} {y : Code} (h : G n ds e H (wpListIn F 0 P l.toArray (thenQ (y.wpIn F 0 P Q) Q) l)) : G n ds e H ((Code.seq (Code.region id l.toArray false) y).wpIn F 0 P Q) := jk (jh h)
theorem jV {ops : Array Oper} {id : Nat} {l : List Oper} {y : Code} {Q' : Exit → Act → World → Prop} (h : G n ds e H (wpListIn F 0 P l.toArray (thenQ (y.wpIn F 0 P Q) Q) l)) : G n ds e H (wpListIn F 0 P ops (thenQ ((Code.seq (Code.region id l.toArray false) y).wpIn F 0 P Q) Q') []) := jx (ja (jk (jh h)))
theorem je {x : Operand} (hn : Nat.blt d n = true) (hx : ev e x = some v) (h : G n ds ((d, v) :: e) H (wpListIn (fw r) 0 P ops Q rest)) : G n ds e H (wpListIn (fw r) 0 P ops Q (⟨some d, .move x, ty, pos, after, none⟩ :: rest)) := jb rfl rfl hn (fun _ _ => KN hx) h
theorem jl {x : Operand} (hn : Nat.blt d n = true) (hx : ev e x = some v) (h : G n ds ((d, v) :: e) H (wpListIn (fw r) 0 P ops Q rest)) : G n ds e H (wpListIn (fw r) 0 P ops Q (⟨some d, .assign x, ty, pos, after, none⟩ :: rest)) := jb rfl rfl hn (fun _ _ => jU hx) h
theorem ka {x : Operand} {i : Nat} {vs : Array Value} (hn : Nat.blt d n = true) (hx : ev e x = some (.tuple vs)) (hi : vs.toList[i]? = some v) (h : G n ds ((d, v) :: e) H (wpListIn (fw r) 0 P ops Q rest)) : G n ds e H (wpListIn (fw r) 0 P ops Q (⟨some d, .extract x i, ty, pos, after, none⟩ :: rest)) := jb rfl rfl hn (fun _ _ => q8 hx hi) h
theorem qO {c x y : Operand} (hn : Nat.blt d n = true) (hc : ev e c = some (.bool true)) (hx : ev e x = some v) (h : G n ds ((d, v) :: e) H (wpListIn (fw r) 0 P ops Q rest)) : G n ds e H (wpListIn (fw r) 0 P ops Q (⟨some d, .pick c x y, ty, pos, after, none⟩ :: rest)) := jb rfl rfl hn (fun _ _ => Kg hc hx) h
theorem yW {c x y : Operand} (hn : Nat.blt d n = true) (hc : ev e c = some (.bool false)) (hy : ev e y = some v) (h : G n ds ((d, v) :: e) H (wpListIn (fw r) 0 P ops Q rest)) : G n ds e H (wpListIn (fw r) 0 P ops Q (⟨some d, .pick c x y, ty, pos, after, none⟩ :: rest)) := jb rfl rfl hn (fun _ _ => K6 hc hy) h
theorem yA {t u : TypeId} {x y : Operand} {a b c : Int} (hm : addc a b = some c) (hn : Nat.blt d n = true) (hx : ev e x = some (.int .i64 a)) (hy : ev e y = some (.int .i64 b)) (h : G n ds ((d, .int .i64 c) :: e) H (wpListIn (fw r) 0 P ops Q rest)) : G n ds e H (wpListIn (fw r) 0 P ops Q (⟨some d, .binOp .add t x y u, ty, pos, after, none⟩ :: rest)) := jb rfl rfl hn (fun _ _ => KL hm hx hy) h
theorem zK {t u : TypeId} {x y : Operand} {k : IntKind} {m m' : Int} (hn : Nat.blt d n = true) (hx : ev e x = some (.int k m)) (hy : ev e y = some (.int k m')) (h : G n ds ((d, .bool (decide (m < m'))) :: e) H (wpListIn (fw r) 0 P ops Q rest)) : G n ds e H (wpListIn (fw r) 0 P ops Q (⟨some d, .binOp .lss t x y u, ty, pos, after, none⟩ :: rest)) := jb rfl rfl hn (fun _ _ => YN hx hy) h
theorem j7 {s T : TypeId} {x : Operand} {f b o sz : Nat} {fs : Array Field} (k : Nat) (hu : ∀ w, (underlying s).run P w = .ok (.struct fs) w) (hf : (fs[f]?).map (fun fd => (fd.type, fd.offset)) = some (T, k)) (hz : ∀ w, (sizeOf T).run P w = .ok (sz + 1) w) (hx : ev e x = some (ptr b o)) (hn : Nat.blt d n = true) (h : G n ds ((d, ptr b (o + k)) :: e) H (wpListIn (fw r) 0 P ops Q rest)) : G n ds e H (wpListIn (fw r) 0 P ops Q (⟨some d, .fieldAddr s x f, ty, pos, after, none⟩ :: rest)) := jb rfl rfl hn (fun w _ => ky k (hu w) hf (hz w) hx) h
end
end Go.Fw
namespace Go.Gx
open Go Go.Fw
theorem kx {n : Nat} {ds : List Deferred} {e : EnvL} {w0 : World} {M : List Nat} {S : List (Nat × Obj)} {vs : List VR} {ro : List (Nat × Nat × List Value)} {P : Program} {Q : Exit → Act → World → Prop} {r : Option Nat} {ops : Array Oper} {rest : List Oper} {d : Nat} {v : Value} {ty : TypeId} {pos : String} {after : Array Edge} {t T : TypeId} {x : Operand} {b o : Nat} {cs : Array Value} {fr : Nat × Nat} (i : Nat) (hg' : ∀ w, (isAgg t).run P w = .ok false w) (hx : ev e x = some (ptr b o)) (hn : Nat.blt d n = true) (hi : S[i]? = some (b, .cells cs T fr)) (hv : cs.toList[o]? = some v) (h : G n ds ((d, v) :: e) (HV w0 M S vs ro) (wpListIn (fw r) 0 P ops Q rest)) : G n ds e (HV w0 M S vs ro) (wpListIn (fw r) 0 P ops Q (⟨some d, .load t x, ty, pos, after, none⟩ :: rest)) := jb rfl rfl hn (fun w hh => jQ (hg' w) hx (hh.cell i hi hv)) h
theorem sE {e : EnvL} : ∀ {e' : EnvL}, e'.map (fun p => lk e p.1) = e'.map (fun p => some p.2) → Sub e e'
  | [], _ => .nil
  | (t, v) :: l, h => by
    simp only [List.map_cons, List.cons.injEq] at h
    exact .cons h.1 (sE h.2)
def ndB : List Nat → Bool
  | [] => true
  | x :: l => !(l.any (Nat.beq x)) && ndB l
theorem ndB_ok : ∀ {l : List Nat}, ndB l = true → l.Nodup
  | [], _ => List.nodup_nil
  | x :: l, h => by
    unfold ndB at h
    rw [Bool.and_eq_true, Bool.not_eq_true'] at h
    refine List.nodup_cons.2 ⟨fun hx => ?_, ndB_ok h.2⟩
    rw [List.any_eq_false] at h
    exact h.1 x hx (Nat.beq_refl x)
section
variable {w0 w : World} {M : List Nat} {S S' : List (Nat × Obj)} {vs vs' : List VR} {ro ro' : List Sg}
theorem HV.se (h : HV w0 M S vs ro w) (iS iV : List Nat) (k : Nat) (hn : (ndB iS && ndB iV) = true) (hS : iS.map (fun i => S[i]?) = S'.map some) (hV : iV.map (fun i => vs[i]?) = vs'.map some) (hr : ro.drop k = ro') : HV w0 M S' vs' ro' w :=
  h.sel iS iV k (ndB_ok (Bool.and_eq_true_iff.1 hn).1) (ndB_ok (Bool.and_eq_true_iff.1 hn).2) hS hV hr
theorem jH {n : Nat} {ds : List Deferred} {e : EnvL} {X : Act → World → Prop} (iS iV : List Nat) (k : Nat) (hn : (ndB iS && ndB iV) = true) (hS : iS.map (fun i => S[i]?) = S'.map some) (hV : iV.map (fun i => vs[i]?) = vs'.map some) (hr : ro.drop k = ro') (h : G n ds e (HV w0 M S' vs' ro') X) : G n ds e (HV w0 M S vs ro) X :=
  h.pre fun _ hh => hh.se iS iV k hn hS hV hr
theorem kl {n : Nat} {P : Program} {f : FuncId} {fn : Func} {c : Code} {args : List Value} {R : Ending → World → Prop} {e : EnvL}
    (hf : P.funcs[f]? = some fn) (hb : fn.body = some c) (hn : fn.ntmps = n) (hl : Nat.ble args.length n = true) (he : argEnv 0 args = e) (hw : HV w M S vs ro w)
    (h : G n [] e (HV w M S vs ro) (c.wpIn (fw none) 0 P (bodyPost P fn R))) : Calls P f args.toArray w R := Zj hf hb hn hl he hw h
theorem g_k {n : Nat} {ds : List Deferred} {e : EnvL} {H : World → Prop} {P : Program} {Q : Exit → Act → World → Prop} {r : Option Nat} {ops : Array Oper} {rest : List Oper} {d : Nat} {op : Op} {ty : TypeId} {pos : String} {after : Array Edge} {j t : Nat} {want b : Bool} (hj : (ops[j]?).bind (·.dst) = some t) (ht : lk e t = some (.bool b)) (hb : (b == want) = false) (hn : Nat.blt d n = true)
    (h : G n ds ((d, undef) :: e) H (wpListIn (fw r) 0 P ops Q rest)) : G n ds e H (wpListIn (fw r) 0 P ops Q (⟨some d, op, ty, pos, after, some (j, want)⟩ :: rest)) := Zm rfl rfl hj ht hb hn h
end
section
variable {n : Nat} {ds : List Deferred} {e : EnvL} {w0 : World} {M : List Nat} {S : List (Nat × Obj)} {vs : List VR} {ro : List Sg} {P : Program} {Q : Exit → Act → World → Prop} {r : Option Nat} {ops : Array Oper} {rest : List Oper} {d : Nat} {v : Value} {ty : TypeId} {pos : String} {after : Array Edge} {t T : TypeId} {x : Operand} {b o : Nat} {cs : Array Value} {fr : Nat × Nat} {us : List Value}
theorem qX (us : List Value) (i : Nat) (hg' : ∀ w, (isAgg t).run P w = .ok true w) (hz : ∀ w, (sizeOf t).run P w = .ok us.length w) (hx : ev e x = some (ptr b o)) (hn : Nat.blt d n = true) (hi : S[i]? = some (b, .cells cs T fr)) (hv : (cs.toList.drop o).take us.length = us) (h : G n ds ((d, .agg us.toArray) :: e) (HV w0 M S vs ro) (wpListIn (fw r) 0 P ops Q rest)) : G n ds e (HV w0 M S vs ro) (wpListIn (fw r) 0 P ops Q (⟨some d, .load t x, ty, pos, after, none⟩ :: rest)) := jb rfl rfl hn (fun w hh => zb (vs := us) (hg' w) (hz w) hx (hh.cells i hi hv)) h
theorem roR {w : World} {S0 : List (Nat × Obj)} {vs0 : List VR} {s : Sg} {ro' : List Sg} (h : HV w0 M (S0 ++ S) (vs0 ++ vs) ro w) (i : Nat) (hi : ro[i]? = some s) (hr : ∀ t, t ∈ ro' → segOK w t ∧ (t.2.2 ≠ [] → t.1 ∉ keys S0 vs0)) : ∀ t, t ∈ s :: ro' → segOK w t ∧ (t.2.2 ≠ [] → t.1 ∉ keys S0 vs0) := roC (h.rsep i hi) hr
end
theorem hsE {w0 : World} {M : List Nat} {S S' : List (Nat × Obj)} {vs vs' : List VR} {ro ro' : List Sg} (iS iV : List Nat) (k : Nat) (hn : (ndB iS && ndB iV) = true) (hS : iS.map (fun i => S[i]?) = S'.map some) (hV : iV.map (fun i => vs[i]?) = vs'.map some) (hr : ro.drop k = ro') : ∀ w, HV w0 M S vs ro w → HV w0 M S' vs' ro' w := fun _ h => h.se iS iV k hn hS hV hr
section
variable {n : Nat} {ds : List Deferred} {e : EnvL} {P : Program} {r : Option Nat} {ops : Array Oper} {C : World → Prop} {X : Act → World → Prop} {i d : Nat} {p : Plan} {v : Value} {ty : TypeId} {pos : String} {after : Array Edge} {H : World → Prop}
theorem kU {x : Operand} (ho : ops[i]? = some ⟨some d, .move x, ty, pos, after, none⟩) (hn : Nat.blt d n = true) (hx : ev e x = some v) (h : G n ds ((d, v) :: e) H (walk r P ops C X p)) : G n ds e H (walk r P ops C X (.free i p)) := jg ho rfl rfl hn (fun _ _ => KN hx) h
theorem qo {s T : TypeId} {x : Operand} {f b o sz : Nat} {fs : Array Field} (k : Nat) (hu : ∀ w, (underlying s).run P w = .ok (.struct fs) w) (hz : ∀ w, (sizeOf T).run P w = .ok (sz + 1) w) (ho : ops[i]? = some ⟨some d, .fieldAddr s x f, ty, pos, after, none⟩) (hf : (fs[f]?).map (fun fd => (fd.type, fd.offset)) = some (T, k)) (hn : Nat.blt d n = true) (hx : ev e x = some (ptr b o)) (h : G n ds ((d, ptr b (o + k)) :: e) H (walk r P ops C X p)) : G n ds e H (walk r P ops C X (.free i p)) := jg ho rfl rfl hn (fun w _ => ky k (hu w) hf (hz w) hx) h
theorem qW {w0 : World} {M : List Nat} {S : List (Nat × Obj)} {vs : List VR} {ro : List Sg} {t T : TypeId} {x : Operand} {b o : Nat} {cs : Array Value} {fr : Nat × Nat} (j : Nat) (hg' : ∀ w, (isAgg t).run P w = .ok false w) (ho : ops[i]? = some ⟨some d, .load t x, ty, pos, after, none⟩) (hx : ev e x = some (ptr b o)) (hn : Nat.blt d n = true) (hi : S[j]? = some (b, .cells cs T fr)) (hv : cs.toList[o]? = some v) (h : G n ds ((d, v) :: e) H (walk r P ops (HV w0 M S vs ro) X p)) : G n ds e H (walk r P ops (HV w0 M S vs ro) X (.hoist i p)) := jG ho rfl rfl hn (fun w hh => jQ (hg' w) hx (hh.cell j hi hv)) h
end
theorem sj {α : Type} {a b : α} (h : some a = some b) : a = b := Option.some.inj h
theorem ifN {α : Type} {x : Bool} {a b r : α} (hx : x = false) (h : (if x = true then a else b) = r) : b = r := ifF (fun hh => Bool.noConfusion (hx.symm.trans hh)) h
theorem ifE {α : Type} {c : Prop} [Decidable c] {a b r : α} (hc : decide c = false) (h : (if c then a else b) = r) : b = r := ifF (of_decide_eq_false hc) h
theorem ifD {α : Type} {c : Prop} [Decidable c] {a b r : α} (hc : decide c = true) (h : (if c then a else b) = r) : a = r := ifT (of_decide_eq_true hc) h
end Go.Gx

namespace Go.Gx
open Go Go.Fw
section
variable {n : Nat} {ds : List Deferred} {e : EnvL} {w0 : World} {M : List Nat} {S : List (Nat × Obj)} {vs : List VR} {ro : List (Nat × Nat × List Value)} {P : Program} {Q : Exit → Act → World → Prop} {r : Option Nat} {ops : Array Oper} {rest : List Oper}
theorem zero_rep {α : Type} {R : Row α} {z : Value} {z0 : α} (h : z.cells.toList = R.cells z0) (k : Nat) : (Builtin.zeroCells z.cells k).toList = R.enc (List.replicate k z0) := by
  have hs : z.cells.size = R.sz := by rw [← Array.length_toList, h, R.len]
  have e : (Builtin.zeroCells z.cells k).toList = (madeCells z.cells (k * R.sz)).toList := by
    unfold Builtin.zeroCells madeCells
    rw [hs]
  rw [e, made_get hs, h, ← enc_rep]
end
end Go.Gx

