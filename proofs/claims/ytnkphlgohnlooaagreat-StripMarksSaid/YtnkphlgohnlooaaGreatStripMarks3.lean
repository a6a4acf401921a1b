/- What the functions that the law StripMarks reaches come to, and why it holds: part 3. -/
import Derived.Test.YtnkphlgohnlooaaGreatStripMarks2
import Derived.Shelf.Slices.CompactI
namespace Go.Proofs
open Go.Shelf
def laysCompact_ren : Go.Shelf.Ren := ⟨fun | 20 => 70 | n => n, fun | 0 => 0 | 3 => 3 | 4 => 4 | 22 => 26 | n => n, fun | n => n⟩
theorem laysCompact : Go.Proofs.Lays2.n20 Tryz.prog laysCompact_ren := {
  mixed := by kernel_rfl,
  f20 := Tryz.func70.trans (congrArg some (by kernel_rfl)),
  t0 := Tryz.underlying0,
  a0 := Tryz.isAgg0,
  z0 := Tryz.sizeOf0,
  v0 := Tryz.zeroValue0,
  t3 := Tryz.underlying3,
  a3 := Tryz.isAgg3,
  z3 := Tryz.sizeOf3,
  v3 := Tryz.zeroValue3,
  t4 := Tryz.underlying4,
  a4 := Tryz.isAgg4,
  z4 := Tryz.sizeOf4,
  v4 := Tryz.zeroValue4,
  t22 := Tryz.underlying26,
  a22 := Tryz.isAgg26,
  z22 := Tryz.sizeOf26,
  v22 := Tryz.zeroValue26,
  i3 := by kernel_rfl }
end Go.Proofs
namespace Go.Proofs.Ws
open Go Go.Fw Go.Gx Go.Sp
theorem RI_len (l : List Int) : (RI.enc l).length = l.length := by rw [RI.enc_len]; exact Nat.mul_one _
theorem RI_get {l : List Int} {j : Nat} (h : j < l.length) : (RI.enc l)[j]? = some (.int .i64 l[j]!) := by
  have := RI.enc_get l j 0 l[j]! (by simp [h]) (by decide)
  simpa [RI] using this
def qk (l : List Int) : Option (List Int) := if l.length ≤ 4611686018427387903 then some (Go.Lib.compact l) else none
theorem compact_le (l : List Int) : (Go.Lib.compact l).length ≤ l.length := by
  unfold Go.Lib.compact Go.Lib.compactUpTo
  rw [List.length_map]
  exact Nat.le_trans (List.length_filter_le _ _) (by simp)
theorem put_cells {l s : List Int} {sp : List Value} (hs : s.length = l.length) : Go.Sort.putCells (Value.int .i64) 0 s.toArray (RI.enc l ++ sp).toArray = (RI.enc s ++ sp).toArray := by
  apply Array.toList_inj.1
  apply List.ext_getElem?
  intro k
  unfold Go.Sort.putCells
  rw [Array.getElem?_toList, Array.getElem?_mapIdx]
  simp only [List.getElem?_toArray, Nat.zero_le, true_and, Nat.zero_add, List.size_toArray, Nat.sub_zero]
  by_cases hk : k < s.length
  · rw [List.getElem?_append_left (by rw [RI_len]; omega), List.getElem?_append_left (by rw [RI_len]; omega), RI_get (by omega), RI_get hk]
    simp [hk]
  · rw [List.getElem?_append_right (by rw [RI_len]; omega), List.getElem?_append_right (by rw [RI_len]; omega), RI_len, RI_len, hs]
    have h2 : ¬ k < l.length := by omega
    simp [hk, h2]
theorem KA (l : List Int) (V : VL) (w : World) (hw : HV w (keys [] [⟨3, RI.enc l, V.sp, V.q, []⟩]) [] [⟨3, RI.enc l, V.sp, V.q, []⟩] [] w) (hv : VOK 1 V.n V.cap (RI.enc l) V.sp V.q) {res : List Int} (hm : qk l = some res) :
    Calls Tryz.prog 70 #[slv V.q V.n V.cap] w (fun en w' => ∃ l' : VL, en = .returned (slv l'.q l'.n l'.cap) ∧ (VOK 1 l'.n l'.cap (RI.enc res) l'.sp l'.q) ∧ HV w (keys [] [⟨3, RI.enc l, V.sp, V.q, []⟩]) [] [⟨3, RI.enc res, l'.sp, l'.q, []⟩] [] w') := by
  unfold qk at hm
  obtain ⟨hl, hm⟩ := ifO hm
  obtain rfl := Option.some.inj hm
  have hn := vlen RI hv rfl
  obtain ⟨q, n, cap, sp⟩ := V
  simp only at hw hv hn ⊢
  subst hn
  have hle := compact_le l
  generalize hc : Go.Lib.compact l = r at *
  have hv' : VOK 1 r.length cap (RI.enc r) (RI.enc (List.replicate (l.length - r.length) 0) ++ sp) q := ⟨by rw [RI_len, Nat.mul_one], by
      have := hv.hcap
      rw [List.length_append, RI_len] at this
      rw [List.length_append, List.length_append, RI_len, RI_len, List.length_replicate]
      omega, by have := hv.hle; omega, hv.hmax, fun h => by
        have h1 := hv.hnone h
        have h2 : l.length = 0 := h1.1
        exact ⟨by omega, h1.2⟩, hv.hoff⟩
  cases q with
  | none =>
    have h0 := (hv.hnone rfl).1
    have e : l = [] := List.length_eq_zero_iff.1 h0
    subst e
    have er : r = [] := by rw [← hc]; rfl
    subst er
    refine Calls.mono (Any.slices_Compact_int_empty laysCompact none cap w) ?_
    rintro en w' ⟨rfl, rfl⟩
    exact ⟨⟨none, 0, cap, sp⟩, rfl, hv', by simpa using hw⟩
  | some p =>
    have ho := hv.hoff p rfl
    have hb : w.heap[p.1]? = some (.cells (RI.enc l ++ sp).toArray 3 (0, 0)) := hw.hs.ownOK (p.1, _) (by simp [vbl, VR.bl, vown])
    have hlt : p.1 < w.heap.size := (Array.getElem?_eq_some_iff.1 hb).1
    have hH : Go.Sort.Holds (Value.int .i64) w p.1 0 l.toArray := fun j hj => by
      have hj' : j < l.length := by simpa using hj
      refine ⟨?_, by simp [World.frozen?, hb]⟩
      have : (RI.enc l ++ sp)[j]? = some (.int .i64 l[j]!) := by rw [List.getElem?_append_left (by rw [RI_len]; exact hj')]; exact RI_get hj'
      simp [World.cell?, hb, this]
    have e1 : slv (some p) l.length cap = Value.slice (some ⟨p.1, 0, none⟩) l.length cap := by simp [slv, ho]
    rw [e1]
    refine Calls.mono (Any.slices_Compact_int laysCompact p.1 0 cap l w hH (by omega) hv.hle) ?_
    rw [hc]
    rintro en w' ⟨rfl, k, rfl⟩
    have e2 : Value.slice (some ⟨p.1, 0, none⟩) r.length cap = slv (some p) r.length cap := by simp [slv, ho]
    refine ⟨⟨some p, r.length, cap, RI.enc (List.replicate (l.length - r.length) 0) ++ sp⟩, by rw [e2], hv', ?_⟩
    have hput := put_cells (l := l) (s := r ++ List.replicate (l.length - r.length) 0) (sp := sp) (by simp; omega)
    have henc : RI.enc (r ++ List.replicate (l.length - r.length) 0) ++ sp = RI.enc r ++ (RI.enc (List.replicate (l.length - r.length) 0) ++ sp) := by rw [RI.enc_append, List.append_assoc]
    rw [henc] at hput
    have hmod : ∀ i : Nat, (Go.Sort.putRow (Value.int .i64) (Go.Sort.ahead w k) p.1 0 (r ++ List.replicate (l.length - r.length) 0).toArray).heap[i]? = if i = p.1 then some (.cells (RI.enc r ++ (RI.enc (List.replicate (l.length - r.length) 0) ++ sp)).toArray 3 (0, 0)) else w.heap[i]? := fun i => by
      simp only [Go.Sort.putRow, Go.Sort.mapBlock, Go.Sort.ahead]
      rw [Array.getElem?_modify]
      by_cases h : p.1 = i
      · subst h
        rw [if_pos rfl, if_pos rfl, hb]
        simp only [Option.map_some, Go.Sort.onCells, hput]
      · rw [if_neg h, if_neg (fun e => h e.symm)]
    have hhs := hw.hs
    refine ⟨rfl, rfl, rfl, ?_, fun i hi hM => ?_, fun x hx => ?_, fun x hx => ?_, ?_, fun x hx => by simp at hx, fun x hx => by simp at hx⟩
    · simp [Go.Sort.putRow, Go.Sort.mapBlock, Go.Sort.ahead]
    · have : i ≠ p.1 := fun e => hM (by simp [keys, vbl, VR.bl, vown, e])
      exact (hmod i).trans (if_neg this)
    · simp only [vbl, VR.bl, vown, List.nil_append, List.append_nil, List.mem_singleton] at hx
      subst hx
      exact (hmod p.1).trans (if_pos rfl)
    · simp only [vbl, VR.bl, vown, List.nil_append, List.append_nil, List.mem_singleton] at hx
      subst hx
      exact .inr (by simp [keys, vbl, VR.bl, vown])
    · simp [vbl, VR.bl, vown]
end Go.Proofs.Ws

namespace Go.Gx
open Go Go.Fw
section
variable {P : Program}
inductive EqG (P : Program) (xs ys : Array Value) : List Field → Bool → Prop
  | nil : EqG P xs ys [] true
  | int {f : Field} {fs : List Field} {k : IntKind} {a c : Int} {b : Bool} (hn : (f.name == "_") = false) (hg : ∀ w, (isAgg f.type).run P w = .ok false w) (hu : ∃ k', P.underlying f.type = some (.int k')) (hx : xs[f.offset]? = some (.int k a)) (hy : ys[f.offset]? = some (.int k c)) (h : EqG P xs ys fs b) : EqG P xs ys (f :: fs) (decide (a = c) && b)
  | bool {f : Field} {fs : List Field} {a c : Bool} {b : Bool} (hn : (f.name == "_") = false) (hg : ∀ w, (isAgg f.type).run P w = .ok false w) (hu : P.underlying f.type = some .bool) (hx : xs[f.offset]? = some (.bool a)) (hy : ys[f.offset]? = some (.bool c)) (h : EqG P xs ys fs b) : EqG P xs ys (f :: fs) (decide (a = c) && b)
  | sub {f : Field} {fs : List Field} {us vs : List Value} {k : Nat} {fs' : Array Field} {b b' : Bool} (hn : (f.name == "_") = false) (hg : ∀ w, (isAgg f.type).run P w = .ok true w) (hz : ∀ w, (sizeOf f.type).run P w = .ok k w) (hlx : us.length = k) (hly : vs.length = k) (hx : (xs.toList.drop f.offset).take k = us) (hy : (ys.toList.drop f.offset).take k = vs)
      (hu : P.underlying f.type = some (.struct fs')) (hp : P.stoodInHeld f.type = false) (h' : EqF P us.toArray vs.toArray fs'.toList b') (h : EqG P xs ys fs b) : EqG P xs ys (f :: fs) (b' && b)
theorem part_agg {T : TypeId} {cs : Array Value} {o : Nat} {us : List Value} {w : World} (hg : (isAgg T).run P w = .ok true w) (hz : (sizeOf T).run P w = .ok us.length w) (hv : (cs.toList.drop o).take us.length = us) : (part T cs o).run P w = .ok (.agg us.toArray) w := by
  have hsub : cs.extract o (o + us.length) = us.toArray := by
    apply Array.toList_inj.1
    rw [Array.toList_extract, List.extract_eq_take_drop]
    simpa using hv
  simp [part, hg, hz, hsub]
theorem EqG.run {xs ys : Array Value} {fs : List Field} {b : Bool} (h : EqG P xs ys fs b) (d : Nat) (w : World) : (Op.eqFields (d + 2) xs ys fs).run P w = .ok b w := by
  induction h with
  | nil => rfl
  | @int f fs k a c b hn hg hu hx hy h ih =>
    obtain ⟨k', hu⟩ := hu
    have hn' : f.name ≠ "_" := by simpa using hn
    simp only [Op.eqFields, hn', ne_eq, not_false_eq_true, if_true, Sem.run_bind, part_one (hg w) hx, part_one (hg w) hy, Result.andThen_ok, Go.run_equalIn_int w (d + 1) f.type k k' a c hu, Sem.run_ite]
    by_cases he : a = c
    · subst he; simp [ih]
    · simp [he]
  | @bool f fs a c b hn hg hu hx hy h ih =>
    have hn' : f.name ≠ "_" := by simpa using hn
    simp only [Op.eqFields, hn', ne_eq, not_false_eq_true, if_true, Sem.run_bind, part_one (hg w) hx, part_one (hg w) hy, Result.andThen_ok, run_equalIn_bool' w (d + 1) f.type a c hu, Sem.run_ite]
    by_cases he : a = c
    · subst he; simp [ih]
    · simp [he]
  | @sub f fs us vs k fs' b b' hn hg hz hlx hly hx hy hu hp h' h ih =>
    have hn' : f.name ≠ "_" := by simpa using hn
    have hf : P.fieldsOf f.type = fs' := by simp [Program.fieldsOf, hu]
    have he : (Op.equalIn (d + 2) f.type (.agg us.toArray) (.agg vs.toArray)).run P w = .ok b' w := by
      rw [run_equalIn_agg w (d + 1) f.type us.toArray vs.toArray (by rw [hf]; exact hu) hp, hf]
      exact h'.run d w
    simp only [Op.eqFields, hn', ne_eq, not_false_eq_true, if_true, Sem.run_bind, part_agg (us := us) (hg w) (by rw [hlx]; exact hz w) (by rw [hlx]; exact hx), part_agg (us := vs) (hg w) (by rw [hly]; exact hz w) (by rw [hly]; exact hy), Result.andThen_ok, he, Sem.run_ite]
    cases b' with
    | true => simp [ih]
    | false => simp
theorem equal_structG {t : TypeId} {fs : Array Field} {xs ys : Array Value} {b : Bool} (hu : P.underlying t = some (.struct fs)) (hp : P.stoodInHeld t = false) (h : EqG P xs ys fs.toList b) (w : World) : (Op.equalIn 10000 t (.agg xs) (.agg ys)).run P w = .ok b w := by
  have hf : P.fieldsOf t = fs := by simp [Program.fieldsOf, hu]
  rw [show (10000 : Nat) = 9999 + 1 from rfl, run_equalIn_agg w 9999 t xs ys (by rw [hf]; exact hu) hp, hf]
  exact h.run 9997 w
end
end Go.Gx

namespace Go.Fw
open Go Go.Gx
section
variable {n : Nat} {ds : List Deferred} {e : EnvL} {H : World → Prop} {P : Program} {F : Fence} {Q : Exit → Act → World → Prop} {r : Option Nat} {ops : Array Oper} {rest : List Oper} {d : Nat} {v : Value} {ty : TypeId} {pos : String} {after : Array Edge}
theorem jo {ops : Array Oper} {K : Act → World → Prop} (h : G n ds e H K) : G n ds e H (wpListIn F 0 P ops (thenQ K Q) []) := jv (ja h)
theorem jp {id : Nat} {l : List Oper} {y : Code} (h : G n ds e H (wpListIn F 0 P l.toArray (thenQ (y.wpIn F 0 P Q) Q) l)) : G n ds e H ((Code.seq (Code.region id l.toArray false) y).wpIn F 0 P Q) := jk (jh h)
theorem j3 {ops : Array Oper} {id : Nat} {l : List Oper} {y : Code} {Q' : Exit → Act → World → Prop} (h : G n ds e H (wpListIn F 0 P l.toArray (thenQ (y.wpIn F 0 P Q) Q) l)) : G n ds e H (wpListIn F 0 P ops (thenQ ((Code.seq (Code.region id l.toArray false) y).wpIn F 0 P Q) Q') []) := jv (ja (jk (jh h)))
theorem je {x : Operand} (hn : Nat.blt d n = true) (hx : ev e x = some v) (h : G n ds ((d, v) :: e) H (wpListIn (fw r) 0 P ops Q rest)) : G n ds e H (wpListIn (fw r) 0 P ops Q (⟨some d, .move x, ty, pos, after, none⟩ :: rest)) := jc rfl rfl hn (fun _ _ => k7 hx) h
theorem jm {x : Operand} (hn : Nat.blt d n = true) (hx : ev e x = some v) (h : G n ds ((d, v) :: e) H (wpListIn (fw r) 0 P ops Q rest)) : G n ds e H (wpListIn (fw r) 0 P ops Q (⟨some d, .assign x, ty, pos, after, none⟩ :: rest)) := jc rfl rfl hn (fun _ _ => jQ hx) h
theorem kt {x : Operand} {i : Nat} {vs : Array Value} (hn : Nat.blt d n = true) (hx : ev e x = some (.tuple vs)) (hi : vs.toList[i]? = some v) (h : G n ds ((d, v) :: e) H (wpListIn (fw r) 0 P ops Q rest)) : G n ds e H (wpListIn (fw r) 0 P ops Q (⟨some d, .extract x i, ty, pos, after, none⟩ :: rest)) := jc rfl rfl hn (fun _ _ => yZ hx hi) h
theorem j8 {c x y : Operand} (hn : Nat.blt d n = true) (hc : ev e c = some (.bool true)) (hx : ev e x = some v) (h : G n ds ((d, v) :: e) H (wpListIn (fw r) 0 P ops Q rest)) : G n ds e H (wpListIn (fw r) 0 P ops Q (⟨some d, .pick c x y, ty, pos, after, none⟩ :: rest)) := jc rfl rfl hn (fun _ _ => yT hc hx) h
theorem ky {c x y : Operand} (hn : Nat.blt d n = true) (hc : ev e c = some (.bool false)) (hy : ev e y = some v) (h : G n ds ((d, v) :: e) H (wpListIn (fw r) 0 P ops Q rest)) : G n ds e H (wpListIn (fw r) 0 P ops Q (⟨some d, .pick c x y, ty, pos, after, none⟩ :: rest)) := jc rfl rfl hn (fun _ _ => yW hc hy) h
theorem kS {t u : TypeId} {x y : Operand} {a b c : Int} (hm : addc a b = some c) (hn : Nat.blt d n = true) (hx : ev e x = some (.int .i64 a)) (hy : ev e y = some (.int .i64 b)) (h : G n ds ((d, .int .i64 c) :: e) H (wpListIn (fw r) 0 P ops Q rest)) : G n ds e H (wpListIn (fw r) 0 P ops Q (⟨some d, .binOp .add t x y u, ty, pos, after, none⟩ :: rest)) := jc rfl rfl hn (fun _ _ => zD hm hx hy) h
theorem q8 {t u : TypeId} {x y : Operand} {k : IntKind} {m m' : Int} (hn : Nat.blt d n = true) (hx : ev e x = some (.int k m)) (hy : ev e y = some (.int k m')) (h : G n ds ((d, .bool (decide (m < m'))) :: e) H (wpListIn (fw r) 0 P ops Q rest)) : G n ds e H (wpListIn (fw r) 0 P ops Q (⟨some d, .binOp .lss t x y u, ty, pos, after, none⟩ :: rest)) := jc rfl rfl hn (fun _ _ => Z5 hx hy) h
theorem jM {s T : TypeId} {x : Operand} {f b o sz : Nat} {fs : Array Field} (k : Nat) (hu : ∀ w, (underlying s).run P w = .ok (.struct fs) w) (hf : (fs[f]?).map (fun fd => (fd.type, fd.offset)) = some (T, k)) (hz : ∀ w, (sizeOf T).run P w = .ok (sz + 1) w) (hx : ev e x = some (ptr b o)) (hn : Nat.blt d n = true) (h : G n ds ((d, ptr b (o + k)) :: e) H (wpListIn (fw r) 0 P ops Q rest)) : G n ds e H (wpListIn (fw r) 0 P ops Q (⟨some d, .fieldAddr s x f, ty, pos, after, none⟩ :: rest)) := jc rfl rfl hn (fun w _ => kT k (hu w) hf (hz w) hx) h
end
end Go.Fw
namespace Go.Gx
open Go Go.Fw
theorem jS {n : Nat} {ds : List Deferred} {e : EnvL} {w0 : World} {M : List Nat} {S : List (Nat × Obj)} {vs : List VR} {ro : List (Nat × Nat × List Value)} {P : Program} {Q : Exit → Act → World → Prop} {r : Option Nat} {ops : Array Oper} {rest : List Oper} {d : Nat} {v : Value} {ty : TypeId} {pos : String} {after : Array Edge} {t T : TypeId} {x : Operand} {b o : Nat} {cs : Array Value} {fr : Nat × Nat} (i : Nat) (hg' : ∀ w, (isAgg t).run P w = .ok false w) (hx : ev e x = some (ptr b o)) (hn : Nat.blt d n = true) (hi : S[i]? = some (b, .cells cs T fr)) (hv : cs.toList[o]? = some v) (h : G n ds ((d, v) :: e) (HV w0 M S vs ro) (wpListIn (fw r) 0 P ops Q rest)) : G n ds e (HV w0 M S vs ro) (wpListIn (fw r) 0 P ops Q (⟨some d, .load t x, ty, pos, after, none⟩ :: rest)) := jc rfl rfl hn (fun w hh => j0 (hg' w) hx (hh.cell i hi hv)) h
theorem sE {e : EnvL} : ∀ {e' : EnvL}, e'.map (fun p => lk e p.1) = e'.map (fun p => some p.2) → Sub e e'
  | [], _ => .nil
  | (t, v) :: l, h => by
    simp only [List.map_cons, List.cons.injEq] at h
    exact .cons h.1 (sE h.2)
def ndB : List Nat → Bool
  | [] => true
  | x :: l => !(l.any (Nat.beq x)) && ndB l
theorem ndB_ok : ∀ {l : List Nat}, ndB l = true → l.Nodup
  | [], _ => List.nodup_nil
  | x :: l, h => by
    unfold ndB at h
    rw [Bool.and_eq_true, Bool.not_eq_true'] at h
    refine List.nodup_cons.2 ⟨fun hx => ?_, ndB_ok h.2⟩
    rw [List.any_eq_false] at h
    exact h.1 x hx (Nat.beq_refl x)
section
variable {w0 w : World} {M : List Nat} {S S' : List (Nat × Obj)} {vs vs' : List VR} {ro ro' : List Sg}
theorem HV.se (h : HV w0 M S vs ro w) (iS iV : List Nat) (k : Nat) (hn : (ndB iS && ndB iV) = true) (hS : iS.map (fun i => S[i]?) = S'.map some) (hV : iV.map (fun i => vs[i]?) = vs'.map some) (hr : ro.drop k = ro') : HV w0 M S' vs' ro' w :=
  h.sel iS iV k (ndB_ok (Bool.and_eq_true_iff.1 hn).1) (ndB_ok (Bool.and_eq_true_iff.1 hn).2) hS hV hr
theorem jT {n : Nat} {ds : List Deferred} {e : EnvL} {X : Act → World → Prop} (iS iV : List Nat) (k : Nat) (hn : (ndB iS && ndB iV) = true) (hS : iS.map (fun i => S[i]?) = S'.map some) (hV : iV.map (fun i => vs[i]?) = vs'.map some) (hr : ro.drop k = ro') (h : G n ds e (HV w0 M S' vs' ro') X) : G n ds e (HV w0 M S vs ro) X :=
  h.pre fun _ hh => hh.se iS iV k hn hS hV hr
theorem kj {n : Nat} {P : Program} {f : FuncId} {fn : Func} {c : Code} {args : List Value} {R : Ending → World → Prop} {e : EnvL}
    (hf : P.funcs[f]? = some fn) (hb : fn.body = some c) (hn : fn.ntmps = n) (hl : Nat.ble args.length n = true) (he : argEnv 0 args = e) (hw : HV w M S vs ro w)
    (h : G n [] e (HV w M S vs ro) (c.wpIn (fw none) 0 P (bodyPost P fn R))) : Calls P f args.toArray w R := jay hf hb hn hl he hw h
theorem g_k {n : Nat} {ds : List Deferred} {e : EnvL} {H : World → Prop} {P : Program} {Q : Exit → Act → World → Prop} {r : Option Nat} {ops : Array Oper} {rest : List Oper} {d : Nat} {op : Op} {ty : TypeId} {pos : String} {after : Array Edge} {j t : Nat} {want b : Bool} (hj : (ops[j]?).bind (·.dst) = some t) (ht : lk e t = some (.bool b)) (hb : (b == want) = false) (hn : Nat.blt d n = true)
    (h : G n ds ((d, undef) :: e) H (wpListIn (fw r) 0 P ops Q rest)) : G n ds e H (wpListIn (fw r) 0 P ops Q (⟨some d, op, ty, pos, after, some (j, want)⟩ :: rest)) := jaO rfl rfl hj ht hb hn h
end
section
variable {n : Nat} {ds : List Deferred} {e : EnvL} {w0 : World} {M : List Nat} {S : List (Nat × Obj)} {vs : List VR} {ro : List Sg} {P : Program} {Q : Exit → Act → World → Prop} {r : Option Nat} {ops : Array Oper} {rest : List Oper} {d : Nat} {v : Value} {ty : TypeId} {pos : String} {after : Array Edge} {t T : TypeId} {x : Operand} {b o : Nat} {cs : Array Value} {fr : Nat × Nat} {us : List Value}
theorem qh (us : List Value) (i : Nat) (hg' : ∀ w, (isAgg t).run P w = .ok true w) (hz : ∀ w, (sizeOf t).run P w = .ok us.length w) (hx : ev e x = some (ptr b o)) (hn : Nat.blt d n = true) (hi : S[i]? = some (b, .cells cs T fr)) (hv : (cs.toList.drop o).take us.length = us) (h : G n ds ((d, .agg us.toArray) :: e) (HV w0 M S vs ro) (wpListIn (fw r) 0 P ops Q rest)) : G n ds e (HV w0 M S vs ro) (wpListIn (fw r) 0 P ops Q (⟨some d, .load t x, ty, pos, after, none⟩ :: rest)) := jc rfl rfl hn (fun w hh => kn (vs := us) (hg' w) (hz w) hx (hh.cells i hi hv)) h
theorem roR {w : World} {S0 : List (Nat × Obj)} {vs0 : List VR} {s : Sg} {ro' : List Sg} (h : HV w0 M (S0 ++ S) (vs0 ++ vs) ro w) (i : Nat) (hi : ro[i]? = some s) (hr : ∀ t, t ∈ ro' → segOK w t ∧ (t.2.2 ≠ [] → t.1 ∉ keys S0 vs0)) : ∀ t, t ∈ s :: ro' → segOK w t ∧ (t.2.2 ≠ [] → t.1 ∉ keys S0 vs0) := roC (h.rsep i hi) hr
end
theorem hsE {w0 : World} {M : List Nat} {S S' : List (Nat × Obj)} {vs vs' : List VR} {ro ro' : List Sg} (iS iV : List Nat) (k : Nat) (hn : (ndB iS && ndB iV) = true) (hS : iS.map (fun i => S[i]?) = S'.map some) (hV : iV.map (fun i => vs[i]?) = vs'.map some) (hr : ro.drop k = ro') : ∀ w, HV w0 M S vs ro w → HV w0 M S' vs' ro' w := fun _ h => h.se iS iV k hn hS hV hr
section
variable {n : Nat} {ds : List Deferred} {e : EnvL} {P : Program} {r : Option Nat} {ops : Array Oper} {C : World → Prop} {X : Act → World → Prop} {i d : Nat} {p : Plan} {v : Value} {ty : TypeId} {pos : String} {after : Array Edge} {H : World → Prop}
theorem kb {x : Operand} (ho : ops[i]? = some ⟨some d, .move x, ty, pos, after, none⟩) (hn : Nat.blt d n = true) (hx : ev e x = some v) (h : G n ds ((d, v) :: e) H (walk r P ops C X p)) : G n ds e H (walk r P ops C X (.free i p)) := ji ho rfl rfl hn (fun _ _ => k7 hx) h
theorem kF {s T : TypeId} {x : Operand} {f b o sz : Nat} {fs : Array Field} (k : Nat) (hu : ∀ w, (underlying s).run P w = .ok (.struct fs) w) (hz : ∀ w, (sizeOf T).run P w = .ok (sz + 1) w) (ho : ops[i]? = some ⟨some d, .fieldAddr s x f, ty, pos, after, none⟩) (hf : (fs[f]?).map (fun fd => (fd.type, fd.offset)) = some (T, k)) (hn : Nat.blt d n = true) (hx : ev e x = some (ptr b o)) (h : G n ds ((d, ptr b (o + k)) :: e) H (walk r P ops C X p)) : G n ds e H (walk r P ops C X (.free i p)) := ji ho rfl rfl hn (fun w _ => kT k (hu w) hf (hz w) hx) h
theorem qs {w0 : World} {M : List Nat} {S : List (Nat × Obj)} {vs : List VR} {ro : List Sg} {t T : TypeId} {x : Operand} {b o : Nat} {cs : Array Value} {fr : Nat × Nat} (j : Nat) (hg' : ∀ w, (isAgg t).run P w = .ok false w) (ho : ops[i]? = some ⟨some d, .load t x, ty, pos, after, none⟩) (hx : ev e x = some (ptr b o)) (hn : Nat.blt d n = true) (hi : S[j]? = some (b, .cells cs T fr)) (hv : cs.toList[o]? = some v) (h : G n ds ((d, v) :: e) H (walk r P ops (HV w0 M S vs ro) X p)) : G n ds e H (walk r P ops (HV w0 M S vs ro) X (.hoist i p)) := jA ho rfl rfl hn (fun w hh => j0 (hg' w) hx (hh.cell j hi hv)) h
end
theorem sj {α : Type} {a b : α} (h : some a = some b) : a = b := Option.some.inj h
theorem ifN {α : Type} {x : Bool} {a b r : α} (hx : x = false) (h : (if x = true then a else b) = r) : b = r := ifF (fun hh => Bool.noConfusion (hx.symm.trans hh)) h
theorem ifE {α : Type} {c : Prop} [Decidable c] {a b r : α} (hc : decide c = false) (h : (if c then a else b) = r) : b = r := ifF (of_decide_eq_false hc) h
theorem ifD {α : Type} {c : Prop} [Decidable c] {a b r : α} (hc : decide c = true) (h : (if c then a else b) = r) : a = r := ifT (of_decide_eq_true hc) h
end Go.Gx

namespace Go.Gx
open Go Go.Fw
section
variable {n : Nat} {ds : List Deferred} {e : EnvL} {w0 : World} {M : List Nat} {S : List (Nat × Obj)} {vs : List VR} {ro : List (Nat × Nat × List Value)} {P : Program} {Q : Exit → Act → World → Prop} {r : Option Nat} {ops : Array Oper} {rest : List Oper}
theorem zero_rep {α : Type} {R : Row α} {z : Value} {z0 : α} (h : z.cells.toList = R.cells z0) (k : Nat) : (Builtin.zeroCells z.cells k).toList = R.enc (List.replicate k z0) := by
  have hs : z.cells.size = R.sz := by rw [← Array.length_toList, h, R.len]
  have e : (Builtin.zeroCells z.cells k).toList = (madeCells z.cells (k * R.sz)).toList := by
    unfold Builtin.zeroCells madeCells
    rw [hs]
  rw [e, made_get hs, h, ← enc_rep]
theorem jae {α : Type} (R : Row α) (z0 : α) (iv : Nat) {t ty E : TypeId} {x : Operand} {z : Value} {sz ln cap : Nat} {l lm : List α} {sp : List Value} {q : Option (Nat × Nat)} {pos : String} {after : Array Edge} {mo : List (Nat × Obj)}
    (hu : ∀ w, (underlying t).run P w = .ok (.slice E) w) (hz : ∀ w, (zeroValue E).run P w = .ok z w) (hsz : sz = R.sz) (hs0 : Nat.blt 0 R.sz = true) (hvi : vs[iv]? = some ⟨E, R.enc l, sp, q, mo⟩) (hv : VOK sz ln cap (R.enc l) sp q) (hx : ev e x = some (slv q ln cap)) (hzc : z.cells.toList = R.cells z0) (hlm : List.replicate l.length z0 = lm)
    (h : VOK sz ln cap (R.enc lm) sp q → G n ds e (HV w0 M S (vs.set iv ⟨E, R.enc lm, sp, q, mo⟩) ro) (wpListIn (fw r) 0 P ops Q rest)) :
    G n ds e (HV w0 M S vs ro) (wpListIn (fw r) 0 P ops Q (⟨none, .call ⟨.builtin .clear, #[x], #[t]⟩, ty, pos, after, none⟩ :: rest)) := fun a w he hh => by
  subst hsz hlm
  have hln := vlen R hv hs0
  have hrl : (List.replicate l.length z0).length = l.length := List.length_replicate
  have hv' : VOK R.sz ln cap (R.enc (List.replicate l.length z0)) sp q := by
    have e1 : (R.enc (List.replicate l.length z0)).length = (R.enc l).length := by rw [R.enc_len, R.enc_len, hrl]
    exact ⟨by rw [e1]; exact hv.hlen, by rw [List.length_append, e1, ← List.length_append]; exact hv.hcap, hv.hle, hv.hmax, (fun hn' => hv.hnone hn'), hv.hoff⟩
  by_cases h0 : l = []
  · subst h0
    have hln0 : ln = 0 := by simpa using hln.symm
    subst hln0
    have hset : vs.set iv ⟨E, R.enc (List.replicate ([] : List α).length z0), sp, q, mo⟩ = vs := by
      apply List.ext_getElem?
      intro k
      rw [List.getElem?_set]
      split
      · rename_i hik
        subst hik
        have := (List.getElem?_eq_some_iff.1 hvi).1
        rw [if_pos this, hvi]; rfl
      · rfl
    have hrest := h hv'
    rw [hset] at hrest
    refine wpListIn_value (v := .tuple #[]) (w' := w) (wanted_none rfl _) ?_ (hrest _ w (he.putNone _) hh)
    cases q <;> simp [execOp, resolve, invoke, builtin, Builtin.clear_, he.eval hx, hu, slv]
  · have hl0 : 0 < l.length := List.length_pos_iff.2 h0
    cases q with
    | none => have := (hv.hnone rfl).1; omega
    | some p =>
      have hoff := hv.hoff p rfl
      have hbk : w.heap[p.1]? = some (.cells (R.enc l ++ sp).toArray E (0, 0)) := hh.hs.ownOK (p.1, _) (HV.vmem iv hvi _ (by simp [VR.bl, vown]))
      obtain ⟨kk, hkk⟩ : ∃ kk, ln = kk + 1 := ⟨ln - 1, by omega⟩
      have hzr := zero_rep (R := R) hzc ln
      have hzl : (R.enc (List.replicate ln z0)).length = (R.enc l).length := by rw [R.enc_len, R.enc_len, List.length_replicate, hln]
      have hz1' : ∀ v ∈ (Builtin.zeroCells z.cells ln).toList, v.oneCell' = true := fun v hv' => by
        rw [hzr] at hv'
        exact R.enc_one _ v hv'
      have hst := run_storeCells_at P p.1 0 E (Builtin.zeroCells z.cells ln).toList 0 (R.enc l ++ sp).toArray w hbk (by rw [hzr]; simp only [List.size_toArray, List.length_append]; omega) hz1'
      have hcs : (R.enc l ++ sp).toArray.toList.take (0 + 0) ++ (Builtin.zeroCells z.cells ln).toList ++ (R.enc l ++ sp).toArray.toList.drop (0 + 0 + (Builtin.zeroCells z.cells ln).toList.length) = R.enc (List.replicate l.length z0) ++ sp := by
        rw [hzr]
        simp only [Nat.add_zero, List.take_zero, List.nil_append, Nat.zero_add]
        rw [hzl, List.drop_left, hln]
      rw [hcs] at hst
      have hrun : (Builtin.clear_ #[t] ty #[slv (some p) ln cap]).run P w = .ok (.tuple #[]) (w.setRow p.1 (R.enc (List.replicate l.length z0) ++ sp).toArray) := by
        subst hkk
        simp [Builtin.clear_, hu, hz, slv, hoff, hst]
      refine wpListIn_value (v := .tuple #[]) (w' := w.setRow p.1 (R.enc (List.replicate l.length z0) ++ sp).toArray) (wanted_none rfl _) (by simp only [execOp, resolve]; simp [invoke, builtin, he.eval hx, hrun]) ?_
      exact h hv' _ _ (he.putNone _) (hh.vupd iv hvi Ext.setRow (setRow_heap w p.1 _ _ E (0, 0) hbk))
end
end Go.Gx

namespace Go.Gx
open Go Go.Fw
theorem Y {α : Sort _} {a : α} : a = a := rfl
abbrev kc (b : Nat) (cs : Array Value) (T : TypeId) : Nat × Obj := (b, .cells cs T (0, 0))
end Go.Gx

namespace Go.Proofs.Ws
set_option maxHeartbeats 4000000
set_option maxRecDepth 100000
open Go Go.Fw Go.Gx Go.Sp
open Tryz
set_option linter.unusedVariables false
theorem zZ : (Tryz.prog.info? 3).map (fun i => (i.zero, i.size, i.bytes)) = some (some (.int .i64 0), 1, 8) := by kernel_rfl
theorem jbh : (Tryz.prog.info? 26).map (fun i => (i.zero, i.size, i.bytes)) = some (some (.slice none 0 0), 1, 24) := by kernel_rfl
theorem K2 : (Tryz.prog.info? 32).map (fun i => (i.zero, i.size, i.bytes)) = some (some (.agg #[.int .i64 0, .int .i64 0]), 2, 16) := by kernel_rfl
theorem ZZ : (Tryz.prog.info? 62).map (fun i => (i.zero, i.size, i.bytes)) = some (some (.int .i64 0), 1, 8) := by kernel_rfl
theorem ZY : (Tryz.prog.info? 85).map (fun i => (i.zero, i.size, i.bytes)) = some (some (.agg #[.int .i64 0, .int .i64 0, .int .i64 0, .int .i64 0, .int .i64 0, .int .i64 0, .int .i64 0]), 7, 56) := by kernel_rfl
theorem Zt : (Tryz.prog.info? 156).map (fun i => (i.zero, i.size, i.bytes)) = some (some (.agg #[.int .i64 0, .int .i64 0, .int .i64 0, .int .i64 0, .int .i64 0, .int .i64 0]), 6, 48) := by kernel_rfl
theorem Zs : (Tryz.prog.info? 164).map (fun i => (i.zero, i.size, i.bytes)) = some (some (.agg #[.int .i64 0, .bool false]), 2, 16) := by kernel_rfl
theorem jbF : (Tryz.prog.info? 32).map (fun i => i.size) = some 2 := by kernel_rfl
theorem ja2 : Tryz.prog.eqGuardType Tryz.prog.depth 158 = false := by decide +kernel
theorem jaM : Tryz.prog.eqGuardType Tryz.prog.depth 32 = false := by decide +kernel
theorem jbm : Tryz.prog.stoodInHeld 32 = false := by decide +kernel
theorem jbd (x y : Span) (w : World) : (Op.equalIn 10000 32 (.agg (RSp.cells x).toArray) (.agg (RSp.cells y).toArray)).run Tryz.prog w = .ok (decide (x = y)) w := by
  have h := equal_struct (xs := (RSp.cells x).toArray) (ys := (RSp.cells y).toArray) underlying32 jbm (.int Y (fun w => isAgg3 w) ⟨_, underlying3⟩ Y Y (.int Y (fun w => isAgg3 w) ⟨_, underlying3⟩ Y Y .nil)) w
  rw [h]
  congr 1
  cases x; cases y
  rw [Bool.eq_iff_iff]
  simp only [Bool.and_eq_true, decide_eq_true_eq, Span.mk.injEq, and_true]
theorem ja3 : Tryz.prog.stoodInHeld 126 = false := by decide +kernel
theorem jbA (x y : Pair) (w : World) : (Op.equalIn 10000 126 (.agg (RPr.cells x).toArray) (.agg (RPr.cells y).toArray)).run Tryz.prog w = .ok (decide (x = y)) w := by
  have h := equal_struct (xs := (RPr.cells x).toArray) (ys := (RPr.cells y).toArray) underlying126 ja3 (.int Y (fun w => isAgg3 w) ⟨_, underlying3⟩ Y Y (.int Y (fun w => isAgg3 w) ⟨_, underlying3⟩ Y Y .nil)) w
  rw [h]
  congr 1
  cases x; cases y
  rw [Bool.eq_iff_iff]
  simp only [Bool.and_eq_true, decide_eq_true_eq, Pair.mk.injEq, and_true]
theorem Zm : KeyOK Tryz.prog 126 (kR RPr) := KeyOK.row RPr (fun w => runUnderlying126 w) (fun x => (.int (fun w => isAgg3 w) (fun w => runUnderlying3 w) Y (.int (fun w => isAgg3 w) (fun w => runUnderlying3 w) Y .nil))) jbA (fun x => by cases x; simp [RPr, Instr.sameBits])
def y8 (lo0 : Int) (hi1 : Int) : Option Scalps :=
 some (⟨[(⟨0, (⟨10, 10⟩ : Span), (⟨0, 0⟩ : Span), (⟨0, 0⟩ : Span)⟩ : Strip), (⟨1, (⟨10, 10⟩ : Span), (⟨0, 0⟩ : Span), (⟨4, 6⟩ : Span)⟩ : Strip), (⟨0, (⟨10, 10⟩ : Span), (⟨0, 0⟩ : Span), (⟨0, 0⟩ : Span)⟩ : Strip)], [(⟨lo0, hi1⟩ : Span), (⟨0, 3⟩ : Span)]⟩ : Scalps)
theorem JK (lo0 : Int) (hi1 : Int)  (w : World) (hw : HV w (keys [] []) [] [] [] w)  {res : Scalps} (hm : y8 lo0 hi1 = some res) :
    Calls Tryz.prog 46 #[.int .i64 lo0, .int .i64 hi1] w (fun en w' => ∃ l : VL × VL, en = .returned (.agg #[sL l.1, sL l.2]) ∧ (VOK 7 l.1.n l.1.cap (RSt.enc res.strips) l.1.sp l.1.q ∧ VOK 2 l.2.n l.2.cap (RSp.enc res.carried) l.2.sp l.2.q) ∧ HV w (keys [] []) [] [vL 85 l.1 (RSt.enc res.strips), vL 32 l.2 (RSp.enc res.carried)] [] w') := by
  unfold y8 at hm
  refine kj func46 Y ntmps46 Y (e := [(0, _), (1, _)]) Y hw (jp ?_)
  refine ju (fun w => zeroValue25 w) Y (fun b h3 => ?_)
  refine j3 (jc Y Y Y (fun _ _ => jG (vs := [(0, _), (1, _)]) (cells := [_, _]) Y Y) ?_)
  refine ju (fun w => zeroValue32 w) Y (fun b_1 h4 => ?_)
  refine jE (us := #[_, _]) (cs' := [_, _]) (S' := [_, _]) 0 (fun w => sizeOf32 w) Y Y Y Y Y Y Y (j3 (qh [_, _] 0 isAgg32 sizeOf32 Y Y Y Y (jc Y Y Y (fun _ _ => jG (vs := [(1, _)]) (cells := [_, _, _, _, _, _, _]) Y Y) (qh [_, _] 0 isAgg32 sizeOf32 Y Y Y Y (jc Y Y Y (fun _ _ => jG (vs := [(0, _), (1, _)]) (cells := [_, _]) Y Y) (jc Y Y Y (fun _ _ => jG (vs := [(0, _), (1, _), (3, _)]) (cells := [_, _, _, _, _, _, _]) Y Y) (qh [_, _] 0 isAgg32 sizeOf32 Y Y Y Y ?_)))))))
  refine jc Y Y Y (fun _ _ => jG (vs := [(1, _)]) (cells := [_, _, _, _, _, _, _]) Y Y) ?_
  refine kU RSt [(⟨0, (⟨10, 10⟩ : Span), (⟨0, 0⟩ : Span), (⟨0, 0⟩ : Span)⟩ : Strip), (⟨1, (⟨10, 10⟩ : Span), (⟨0, 0⟩ : Span), (⟨4, 6⟩ : Span)⟩ : Strip), (⟨0, (⟨10, 10⟩ : Span), (⟨0, 0⟩ : Span), (⟨0, 0⟩ : Span)⟩ : Strip)] (ps := [(0, _), (1, _), (2, _)]) (cells := [_, _, _, _, _, _, _, _, _, _, _, _, _, _, _, _, _, _, _, _, _]) (fun w => runUnderlying22 w) (fun w => sizeOf85 w) (fun w => zeroValue85 w) Y Y Y Y Y Y Y Y (fun L h5 => ?_)
  refine je Y Y (je Y Y (jc Y Y Y (fun _ _ => jG (vs := [(0, _), (1, _)]) (cells := [_, _]) Y Y) (jc Y Y Y (fun _ _ => jG (vs := [(1, _)]) (cells := [_, _]) Y Y) ?_)))
  refine kU RSp [(⟨lo0, hi1⟩ : Span), (⟨0, 3⟩ : Span)] (ps := [(0, _), (1, _)]) (cells := [_, _, _, _]) (fun w => runUnderlying23 w) (fun w => sizeOf32 w) (fun w => zeroValue32 w) Y Y Y Y Y Y Y Y (fun L_1 h6 => ?_)
  refine jc Y Y Y (fun _ _ => jG (vs := [(0, _), (1, _)]) (cells := [_, _]) Y Y) (jE (us := #[_, _]) (cs' := [_, _]) (S' := [_, _]) 1 (fun w => sizeOf25 w) Y Y Y Y Y Y Y (jo (jw ?_)))
  obtain rfl := sj hm
  refine jn Y (fun w hh => (.cell Y (loadVar_agg (vs := [_, _]) (isAgg25 _) (sizeOf25 _) (hh.cells 1 Y Y)) .nil)) (fun w hh => ⟨(L, L_1), rfl, ⟨h5, h6⟩, hh.se [] [1, 0] 0 Y Y Y rfl⟩)
def Qy (n0 : Int) (lo1 : Int) (hi2 : Int) : Option Bool :=
 (if lo1 ≤ n0 then
 (some (decide (n0 ≤ hi2))) else
 (some false)).bind fun o =>
 some o
theorem YS (n0 : Int) (lo1 : Int) (hi2 : Int)  (w : World) (hw : HV w (keys [] []) [] [] [] w)  {res : Bool} (hm : Qy n0 lo1 hi2 = some res) :
    Calls Tryz.prog 62 #[.int .i64 n0, .int .i64 lo1, .int .i64 hi2] w (fun en w' => ∃ l : Unit, en = .returned (.bool res) ∧ (True) ∧ HV w (keys [] []) [] [] [] w') := by
  unfold Qy at hm
  refine kj func62 Y ntmps62 Y (e := [(0, _), (1, _), (2, _)]) Y hw (jp (jm Y Y (jo (jk ?_))))
  obtain ⟨o, h1, h2⟩ := bindO hm
  refine jD (ι := Unit) (fun l => True) (fun l => [(6, .bool o)]) (fun l => []) (fun l => []) ?_ ?_
  ·replace hm := h1
   refine jh (je Y Y (je Y Y (jc Y Y Y (fun _ _ => QS Y Y) (je Y Y ?_))))
   refine jH 10 Y (fun h3 => ?_) (fun h3 => ?_)
   ·replace hm := ifD h3 hm
    refine jb Y Y (je Y Y (jb Y Y (je Y Y (jb Y Y (jc Y Y Y (fun _ _ => ZC Y Y) (j8 Y Y Y (jm Y Y ?_)))))))
    refine jv ?_
    obtain rfl := sj hm
    exact jg () (trivial) (sE Y) (fun w hh => hh)
   replace hm := ifE h3 hm
   refine g_k Y Y Y Y (g_k Y Y Y Y (g_k Y Y Y Y (ky Y Y Y (jm Y Y (jv ?_)))))
   obtain rfl := sj hm
   exact jg () (trivial) (sE Y) (fun w hh => hh)
  intro l hj
  replace hm := h2
  refine ja (jw ?_)
  obtain rfl := sj hm
  refine jn Y (fun w hh => (.tmp Y .nil)) (fun w hh => ⟨(), rfl, trivial, hh⟩)
def J1 (s0 : (List Span)) : Option (List Span) :=
 if 0 < (s0.length : Int) then ((appc 16 [] s0).bind fun t7 =>
 some t7) else none
theorem Zn (s0 : (List Span)) (qa0 : Option Addr) (na0 ca0 : Nat) (w : World) (hw : HV w (keys [] []) [] [] [(aB qa0, aO qa0, RSp.enc s0)] w) (hna0 : s0.length = na0) (hqa0 : AOK na0 qa0) (hla0 : na0 ≤ ca0) {res : (List Span)} (hm : J1 s0 = some res) :
    Calls Tryz.prog 123 #[.slice qa0 na0 ca0] w (fun en w' => ∃ l : VL, en = .returned (sL l) ∧ (VOK 2 l.n l.cap (RSp.enc res) l.sp l.q) ∧ HV w (keys [] []) [] [vL 32 l (RSp.enc res)] [] w') := by
  unfold J1 at hm
  refine kj func123 Y ntmps123 Y (e := [(0, _)]) Y hw (jp (jc Y Y Y (fun _ _ => qQ Y) (jo (jk (jp (je Y Y ?_))))))
  obtain ⟨h2, hm⟩ := ifO hm
  refine jc Y Y Y (fun w _ => Z8 hqa0 (len_posN hna0 h2) (runUnderlying23 w) Y Y) (jo (yr Y Y (jt (ja (jp ?_)))))
  refine jab RSp (fun w => runUnderlying23 w) (fun w => sizeOf32 w) Y Y (fun L h3 => ?_)
  refine je Y Y ?_
  obtain ⟨t7, h4, hm⟩ := bindO hm
  refine yS RSp 0 h4 underlying23 K2 Y Y Y Y Y h3 Y Y hna0 hqa0 (fun w hh => (hh.seg 0 Y)) Y (fun L_1 h5 h5n => ?_)
  refine jT (S' := []) (vs' := [_]) [] [0] 0 Y Y Y Y (jm Y Y (jo (jw ?_)))
  obtain rfl := sj hm
  refine jn Y (fun w hh => (.tmp Y .nil)) (fun w hh => ⟨L_1, rfl, h5, hh.se [] [0] 1 Y Y Y rfl⟩)
structure qU where
  t12 : Int
  out3 : (List Span)
def kX (s0 : Scalps) (s : qU) : Option (qU ⊕ (List Span)) :=
 if s.t12 < (s0.strips.length : Int) then
 ((ix s0.strips s.t12).bind fun t14 =>
 (appc 16 s.out3 [(⟨t14.lay.lo, t14.lay.hi⟩ : Span), (⟨t14.seeded.lo, t14.seeded.hi⟩ : Span), (⟨t14.left.lo, t14.left.hi⟩ : Span)]).bind fun t24 =>
 (addc s.t12 1).bind fun t25 =>
 some (.inl (⟨t25, t24⟩ : qU))) else
 (some (.inr s.out3))
def ql (s0 : Scalps) : Option (List Span) :=
 (J1 s0.carried).bind fun t8 =>
 (iterM FU (kX s0) (⟨0, t8⟩ : qU)).bind fun o =>
 some o
theorem Qc (s0 : Scalps) (qa0 : Option Addr) (na0 ca0 : Nat) (qa1 : Option Addr) (na1 ca1 : Nat) (w : World) (hw : HV w (keys [] []) [] [] [(aB qa0, aO qa0, RSt.enc s0.strips), (aB qa1, aO qa1, RSp.enc s0.carried)] w) (hna0 : s0.strips.length = na0) (hqa0 : AOK na0 qa0) (hla0 : na0 ≤ ca0) (hna1 : s0.carried.length = na1) (hqa1 : AOK na1 qa1) (hla1 : na1 ≤ ca1) {res : (List Span)} (hm : ql s0 = some res) :
    Calls Tryz.prog 88 #[.agg #[.slice qa0 na0 ca0, .slice qa1 na1 ca1]] w (fun en w' => ∃ l : VL, en = .returned (sL l) ∧ (VOK 2 l.n l.cap (RSp.enc res) l.sp l.q) ∧ HV w (keys [] []) [] [vL 32 l (RSp.enc res)] [] w') := by
  unfold ql at hm
  refine kj func88 Y ntmps88 Y (e := [(0, _)]) Y hw (jp ?_)
  refine jK Y Y (fun b h2 => ?_)
  refine jc Y Y Y (fun _ _ => qQ Y) (j3 (jM 1 runUnderlying25 Y sizeOf23 Y Y (jS 0 isAgg23 Y Y Y Y ?_)))
  obtain ⟨t8, h3, hm⟩ := bindO hm
  refine jd [] [] Y Y Y Y Y Y Y call123 (fun w hh => Zn s0.carried qa1 na1 ca1 w (HV.callee (S0 := []) (vs0 := []) hh (roR hh 1 Y roN)) hna1 hqa1 hla1 h3) (fun l h4 => ?_)
  have h5 := h4
  refine jT (S' := [_]) (vs' := [_]) [0] [0] 0 Y Y Y Y (jm Y Y (jo (jk (jp (jM 0 runUnderlying25 Y sizeOf22 Y Y (jS 0 isAgg22 Y Y Y Y (jc Y Y Y (fun w _ => jB hna0 (runUnderlying22 w) Y) ?_)))))))
  refine je Y Y (jo ?_)
  obtain ⟨o, h6, h7⟩ := bindO hm
  refine jD (ι := VL) (fun l_1 => VOK 2 l_1.n l_1.cap (RSp.enc o) l_1.sp l_1.q) (fun l_1 => [(3, sL l_1)]) (fun l_1 => [kc b #[.slice qa0 na0 ca0, .slice qa1 na1 ca1] 25]) (fun l_1 => [vL 32 l_1 (RSp.enc o)]) ?_ ?_
  ·replace hm := h6
   refine jl ?_
   refine jF (ι := VL) hm (fun s l_2 => VOK 2 l_2.n l_2.cap (RSp.enc s.out3) l_2.sp l_2.q) (fun s l_2 => [(3, sL l_2), (10, .slice qa0 na0 ca0), (11, .int .i64 (s0.strips.length : Int)), (12, .int .i64 s.t12)]) (fun s l_2 => [kc b #[.slice qa0 na0 ca0, .slice qa1 na1 ca1] 25]) (fun s l_2 => [vL 32 l_2 (RSp.enc s.out3)]) l (h5) (sE Y) (fun w hh => hh) (fun s l_2 r hpl hm h10 => ?_)
   have h9 := hpl
   unfold kX at hm
   refine jp (q8 Y Y Y (jo (jk ?_)))
   refine jq Y (fun h11 => ?_) (fun h11 => ?_)
   ·replace hm := ifD h11 hm
    refine jt (ja (jk (jl (jp ?_))))
    obtain ⟨t14, h12, hm⟩ := bindO hm
    refine jc Y Y Y (fun w _ => jY h12 (runUnderlying22 w) (sizeOf85 w) Y Y hna0 hqa0) ?_
    refine jc Y Y Y (fun w hh => kz RSt 0 [.int .i64 t14.tenant, .int .i64 t14.lay.lo, .int .i64 t14.lay.hi, .int .i64 t14.seeded.lo, .int .i64 t14.seeded.hi, .int .i64 t14.left.lo, .int .i64 t14.left.hi] h12 (isAgg85 w) (sizeOf85 w) Y (hh.seg 0 Y) Y (Nat.add_zero _).symm) ?_
    refine ju (fun w => zeroValue85 w) Y (fun b_1 h13 => ?_)
    refine jE (us := #[_, _, _, _, _, _, _]) (cs' := [_, _, _, _, _, _, _]) (S' := [_, _]) 0 (fun w => sizeOf85 w) Y Y Y Y Y Y Y (jo (jh (je Y Y (jM 1 runUnderlying85 Y sizeOf32 Y Y (qh [_, _] 0 isAgg32 sizeOf32 Y Y Y Y (jM 3 runUnderlying85 Y sizeOf32 Y Y (qh [_, _] 0 isAgg32 sizeOf32 Y Y Y Y ?_)))))))
    refine jM 5 runUnderlying85 Y sizeOf32 Y Y (qh [_, _] 0 isAgg32 sizeOf32 Y Y Y Y ?_)
    refine kU RSp [(⟨t14.lay.lo, t14.lay.hi⟩ : Span), (⟨t14.seeded.lo, t14.seeded.hi⟩ : Span), (⟨t14.left.lo, t14.left.hi⟩ : Span)] (ps := [(0, _), (1, _), (2, _)]) (cells := [_, _, _, _, _, _]) (fun w => runUnderlying23 w) (fun w => sizeOf32 w) (fun w => zeroValue32 w) Y Y Y Y Y Y Y Y (fun L h14 => ?_)
    obtain ⟨t24, h15, hm⟩ := bindO hm
    refine yS RSp 1 h15 underlying23 K2 Y Y Y Y Y h9 Y Y (vlen RSp h14 Y) (AOK.q (vne h14)) (fun w hh => (hh.vsegA 0 Y h14)) Y (fun L_1 h16 h16n => ?_)
    refine jT (S' := [_, _]) (vs' := [_, _]) [0, 1] [0, 1] 0 Y Y Y Y (jm Y Y (jv (js (ja (jh ?_)))))
    obtain ⟨t25, h17, hm⟩ := bindO hm
    refine kS h17 Y Y Y (je Y Y (jv ?_))
    obtain rfl := sj hm
    refine ja ?_
    exact jy _ L_1 Y (h16) (sE Y) (hsE [1] [1] 0 Y Y Y Y)
   replace hm := ifE h11 hm
   refine jO (jj (jj (jC ?_)))
   obtain rfl := sj hm
   have hbo := h10 _ Y
   subst hbo
   exact jg l_2 (h9) (sE Y) (fun w hh => hh)
  intro l_1 hj
  have h8 := hj
  replace hm := h7
  refine ja (jp (je Y Y (jm Y Y (jo (jw ?_)))))
  obtain rfl := sj hm
  refine jn Y (fun w hh => (.tmp Y .nil)) (fun w hh => ⟨l_1, rfl, h8, hh.se [] [0] 2 Y Y Y rfl⟩)
def Jk (x0 : Span) : Option Bool :=
 ((Qy x0.lo 0 30).bind fun t5 =>
 if t5 = true then
 ((Qy x0.hi 0 30).bind fun t9 =>
 some t9) else
 (some false)).bind fun o =>
 some o
theorem YJ (x0 : Span)  (w : World) (hw : HV w (keys [] []) [] [] [] w)  {res : Bool} (hm : Jk x0 = some res) :
    Calls Tryz.prog 73 #[.agg #[.int .i64 x0.lo, .int .i64 x0.hi]] w (fun en w' => ∃ l : Unit, en = .returned (.bool res) ∧ (True) ∧ HV w (keys [] []) [] [] [] w') := by
  unfold Jk at hm
  refine kj func73 Y ntmps73 Y (e := [(0, _)]) Y hw (jp ?_)
  refine jK Y Y (fun b h1 => ?_)
  refine jm Y Y (jo (jk ?_))
  obtain ⟨o, h2, h3⟩ := bindO hm
  refine jD (ι := Unit) (fun l => True) (fun l => [(2, .bool o)]) (fun l => [kc b #[.int .i64 x0.lo, .int .i64 x0.hi] 32]) (fun l => []) ?_ ?_
  ·replace hm := h2
   refine jh (jM 0 runUnderlying32 Y sizeOf3 Y Y (jS 0 isAgg3 Y Y Y Y ?_))
   obtain ⟨t5, h4, hm⟩ := bindO hm
   refine jd [] [] Y Y Y Y Y Y Y call62 (fun w hh => YS x0.lo 0 30 w (HV.callee (S0 := []) (vs0 := []) hh roN)  h4) (fun l_1 h5 => ?_)
   refine je Y Y ?_
   refine jH 6 Y (fun h6 => ?_) (fun h6 => ?_)
   ·replace hm := ifT (h6) hm
    refine jb Y Y (jM 1 runUnderlying32 Y sizeOf3 Y Y (jb Y Y (jS 0 isAgg3 Y Y Y Y (jb Y Y ?_))))
    obtain ⟨t9, h7, hm⟩ := bindO hm
    refine jd [] [] Y Y Y Y Y Y Y call62 (fun w hh => YS x0.hi 0 30 w (HV.callee (S0 := []) (vs0 := []) hh roN)  h7) (fun l_2 h8 => ?_)
    refine j8 Y Y Y (jm Y Y (jv ?_))
    obtain rfl := sj hm
    exact jg () (trivial) (sE Y) (fun w hh => hh)
   replace hm := ifN h6 hm
   refine g_k Y Y Y Y (g_k Y Y Y Y (g_k Y Y Y Y (ky Y Y Y (jm Y Y (jv ?_)))))
   obtain rfl := sj hm
   exact jg () (trivial) (sE Y) (fun w hh => hh)
  intro l hj
  replace hm := h3
  refine ja (jw ?_)
  obtain rfl := sj hm
  refine jn Y (fun w hh => (.tmp Y .nil)) (fun w hh => ⟨(), rfl, trivial, hh.se [] [] 0 Y Y Y rfl⟩)
def kH (x0 : Span) : Option Bool :=
 (Jk x0).bind fun t6 =>
 some (!t6)
theorem QK (x0 : Span) (rb : Nat) (w : World) (hw : HV w (keys [] []) [] [] [(rb, 0, [.func (.func 73) #[] #[]])] w)  {res : Bool} (hm : kH x0 = some res) :
    Calls Tryz.prog 122 #[.agg #[.int .i64 x0.lo, .int .i64 x0.hi], ptr rb 0] w (fun en w' => ∃ l : Unit, en = .returned (.bool res) ∧ (True) ∧ HV w (keys [] []) [] [] [] w') := by
  unfold kH at hm
  refine kj func122 Y ntmps122 Y (e := [(0, _), (1, _)]) Y hw (jp ?_)
  refine jK Y Y (fun b h1 => ?_)
  refine jm Y Y (j3 (jc Y Y Y (fun w hh => j0 (isAgg100 w) Y (segCell (hh.seg 0 Y) 0 Y)) (qh [_, _] 0 isAgg32 sizeOf32 Y Y Y Y ?_)))
  obtain ⟨t6, h2, hm⟩ := bindO hm
  refine jd [] [] Y Y Y Y Y Y Y call73 (fun w hh => YJ x0 w (HV.callee (S0 := []) (vs0 := []) hh roN)  h2) (fun l h3 => ?_)
  refine jc Y Y Y (fun _ _ => kV Y) (jm Y Y (jo (jw ?_)))
  obtain rfl := sj hm
  refine jn Y (fun w hh => (.tmp Y .nil)) (fun w hh => ⟨(), rfl, trivial, hh.se [] [] 1 Y Y Y rfl⟩)
def yV (s0 : (List Span)) (s : Int) : Option (Int ⊕ (Unit ⊕ Int)) :=
 if s < (s0.length : Int) then
 ((ix s0 s).bind fun t14 =>
 (kH t14).bind fun t16 =>
 if t16 = true then
 (some (.inr (.inr s))) else
 ((addc s 1).bind fun t18 =>
 some (.inl t18))) else
 (some (.inr (.inl ())))
def yD (s0 : (List Span)) : Option Int :=
 (iterM FU (yV s0) 0).bind fun o =>
 oc o (fun j => some (-1)) (fun r_1 => some r_1)
theorem Yl (s0 : (List Span)) (qa0 : Option Addr) (na0 ca0 : Nat) (rb : Nat) (w : World) (hw : HV w (keys [] []) [] [] [(aB qa0, aO qa0, RSp.enc s0), (rb, 0, [.func (.func 73) #[] #[]])] w) (hna0 : s0.length = na0) (hqa0 : AOK na0 qa0) (hla0 : na0 ≤ ca0)  {res : Int} (hm : yD s0 = some res) :
    Calls Tryz.prog 135 #[.slice qa0 na0 ca0, .func (.func 122) #[] #[ptr rb 0]] w (fun en w' => ∃ l : Unit, en = .returned (.int .i64 res) ∧ (True) ∧ HV w (keys [] []) [] [] [] w') := by
  unfold yD at hm
  refine kj func135 Y ntmps135 Y (e := [(0, _), (1, _)]) Y hw (jp (jm Y Y (jo (jk (jp (je Y Y (jc Y Y Y (fun w _ => jB hna0 (runUnderlying23 w) Y) ?_)))))))
  refine je Y Y (jo ?_)
  obtain ⟨o, h1, h2⟩ := bindO hm
  refine jD (ι := Unit) (fun j => o = .inl j) (fun j => []) (fun j => []) (fun j => []) ?_ ?_
  ·replace hm := h1
   refine jl ?_
   refine jF (ι := Unit) hm (fun s l => True) (fun s l => [(0, .slice qa0 na0 ca0), (1, .func (.func 122) #[] #[ptr rb 0]), (7, .int .i64 (s0.length : Int)), (8, .int .i64 s)]) (fun s l => []) (fun s l => []) () (trivial) (sE Y) (fun w hh => hh) (fun s l r hpl hm h3 => ?_)
   unfold yV at hm
   refine jp (q8 Y Y Y (jo (jk ?_)))
   refine jq Y (fun h4 => ?_) (fun h4 => ?_)
   ·replace hm := ifD h4 hm
    refine jt (ja (jk (jl (jp (je Y Y (jm Y Y (j3 ?_)))))))
    refine je Y Y (je Y Y (je Y Y ?_))
    obtain ⟨t14, h5, hm⟩ := bindO hm
    refine jc Y Y Y (fun w _ => jY h5 (runUnderlying23 w) (sizeOf32 w) Y Y hna0 hqa0) ?_
    refine jc Y Y Y (fun w hh => kz RSp 0 [.int .i64 t14.lo, .int .i64 t14.hi] h5 (isAgg32 w) (sizeOf32 w) Y (hh.seg 0 Y) Y (Nat.add_zero _).symm) ?_
    obtain ⟨t16, h6, hm⟩ := bindO hm
    refine jd [] [] Y Y Y Y Y Y Y call122 (fun w hh => QK t14 rb w (HV.callee (S0 := []) (vs0 := []) hh (roR hh 1 Y roN))  h6) (fun l_1 h7 => ?_)
    refine jo ?_
    refine jq Y (fun h8 => ?_) (fun h8 => ?_)
    ·replace hm := ifT (h8) hm
     refine jp (je Y Y (jm Y Y (jo (jw (jz (jf (jf ?_)))))))
     refine jz ?_
     obtain rfl := sj hm
     have hbo := h3 _ Y
     subst hbo
     refine jf ?_
     replace hm := ocR h2
     refine jf ?_
     obtain rfl := sj hm
     refine jn Y (fun w hh => (.tmp Y .nil)) (fun w hh => ⟨(), rfl, trivial, hh.se [] [] 2 Y Y Y rfl⟩)
    replace hm := ifN h8 hm
    refine jt (js (ja (jh ?_)))
    obtain ⟨t18, h9, hm⟩ := bindO hm
    refine kS h9 Y Y Y (je Y Y (jv ?_))
    obtain rfl := sj hm
    refine ja ?_
    exact jy _ () Y (trivial) (sE Y) (fun w hh => hh)
   replace hm := ifE h4 hm
   refine jO (jj (jj (jC ?_)))
   obtain rfl := sj hm
   have hbo := h3 _ Y
   subst hbo
   exact jg () (Y) (.nil) (fun w hh => hh)
  intro j hj
  have h10 := hj
  subst h10
  replace hm := ocL h2
  refine ja (jp (jm Y Y (jo (jw ?_))))
  obtain rfl := sj hm
  refine jn Y (fun w hh => (.tmp Y .nil)) (fun w hh => ⟨(), rfl, trivial, hh.se [] [] 2 Y Y Y rfl⟩)
def qv (s0 : (List Span)) : Option Bool :=
 (yD s0).bind fun t7 =>
 some (decide (0 ≤ t7))
theorem QL (s0 : (List Span)) (qa0 : Option Addr) (na0 ca0 : Nat) (rb : Nat) (w : World) (hw : HV w (keys [] []) [] [] [(aB qa0, aO qa0, RSp.enc s0), (rb, 0, [.func (.func 73) #[] #[]])] w) (hna0 : s0.length = na0) (hqa0 : AOK na0 qa0) (hla0 : na0 ≤ ca0)  {res : Bool} (hm : qv s0 = some res) :
    Calls Tryz.prog 121 #[.slice qa0 na0 ca0, .func (.func 122) #[] #[ptr rb 0]] w (fun en w' => ∃ l : Unit, en = .returned (.bool res) ∧ (True) ∧ HV w (keys [] []) [] [] [] w') := by
  unfold qv at hm
  refine kj func121 Y ntmps121 Y (e := [(0, _), (1, _)]) Y hw (jp (jm Y Y (j3 (je Y Y (je Y Y ?_)))))
  obtain ⟨t7, h1, hm⟩ := bindO hm
  refine jd [] [] Y Y Y Y Y Y Y call135 (fun w hh => Yl s0 qa0 na0 ca0 rb w (HV.callee (S0 := []) (vs0 := []) hh (roR hh 0 Y (roR hh 1 Y roN))) hna0 hqa0 hla0 h1) (fun l h2 => ?_)
  refine jc Y Y Y (fun _ _ => QS Y Y) (jm Y Y (jo (jw ?_)))
  obtain rfl := sj hm
  refine jn Y (fun w hh => (.tmp Y .nil)) (fun w hh => ⟨(), rfl, trivial, hh.se [] [] 2 Y Y Y rfl⟩)
def qC (l0 : (List Span)) : Option Bool :=
 (qv l0).bind fun t7 =>
 some (!t7)
theorem Q9 (l0 : (List Span)) (qa0 : Option Addr) (na0 ca0 : Nat) (w : World) (hw : HV w (keys [] []) [] [] [(aB qa0, aO qa0, RSp.enc l0)] w) (hna0 : l0.length = na0) (hqa0 : AOK na0 qa0) (hla0 : na0 ≤ ca0) {res : Bool} (hm : qC l0 = some res) :
    Calls Tryz.prog 87 #[.slice qa0 na0 ca0, .func (.func 73) #[] #[]] w (fun en w' => ∃ l : Unit, en = .returned (.bool res) ∧ (True) ∧ HV w (keys [] []) [] [] [] w') := by
  unfold qC at hm
  refine kj func87 Y ntmps87 Y (e := [(0, _), (1, _)]) Y hw (jp ?_)
  refine jK Y Y (fun b h1 => ?_)
  refine jm Y Y (j3 (je Y Y (jc Y Y Y (fun _ _ => jR (u := #[]) (u' := #[_]) Y Y) ?_)))
  obtain ⟨t7, h2, hm⟩ := bindO hm
  refine jd [] [] Y Y Y Y Y Y Y call121 (fun w hh => QL l0 qa0 na0 ca0 b w (HV.callee (S0 := []) (vs0 := []) hh (roR hh 0 Y (roC (bsep (hh.bseg 0 Y)) roN))) hna0 hqa0 hla0 h2) (fun l h3 => ?_)
  refine jc Y Y Y (fun _ _ => kV Y) (jm Y Y (jo (jw ?_)))
  obtain rfl := sj hm
  refine jn Y (fun w hh => (.tmp Y .nil)) (fun w hh => ⟨(), rfl, trivial, hh.se [] [] 1 Y Y Y rfl⟩)
def kw (s0 : Scalps) (n1 : Int) : Option Bool :=
 (subc (s0.carried.length : Int) 1).bind fun t9 =>
 (Qy n1 0 t9).bind fun t10 =>
 some t10
theorem z9 (s0 : Scalps) (n1 : Int) (qa0 : Option Addr) (na0 ca0 : Nat) (qa1 : Option Addr) (na1 ca1 : Nat) (w : World) (hw : HV w (keys [] []) [] [] [(aB qa0, aO qa0, RSt.enc s0.strips), (aB qa1, aO qa1, RSp.enc s0.carried)] w) (hna0 : s0.strips.length = na0) (hqa0 : AOK na0 qa0) (hla0 : na0 ≤ ca0) (hna1 : s0.carried.length = na1) (hqa1 : AOK na1 qa1) (hla1 : na1 ≤ ca1) {res : Bool} (hm : kw s0 n1 = some res) :
    Calls Tryz.prog 68 #[.agg #[.slice qa0 na0 ca0, .slice qa1 na1 ca1], .int .i64 n1] w (fun en w' => ∃ l : Unit, en = .returned (.bool res) ∧ (True) ∧ HV w (keys [] []) [] [] [] w') := by
  unfold kw at hm
  refine kj func68 Y ntmps68 Y (e := [(0, _), (1, _)]) Y hw (jp ?_)
  refine jK Y Y (fun b h1 => ?_)
  refine jm Y Y (j3 (je Y Y (jM 1 runUnderlying25 Y sizeOf23 Y Y (jS 0 isAgg23 Y Y Y Y (jc Y Y Y (fun w _ => jB hna1 (runUnderlying23 w) Y) ?_)))))
  obtain ⟨t9, h2, hm⟩ := bindO hm
  refine jc Y Y Y (fun _ _ => qp h2 Y Y) ?_
  obtain ⟨t10, h3, hm⟩ := bindO hm
  refine jd [] [] Y Y Y Y Y Y Y call62 (fun w hh => YS n1 0 t9 w (HV.callee (S0 := []) (vs0 := []) hh roN)  h3) (fun l h4 => ?_)
  refine jm Y Y (jo (jw ?_))
  obtain rfl := sj hm
  refine jn Y (fun w hh => (.tmp Y .nil)) (fun w hh => ⟨(), rfl, trivial, hh.se [] [] 2 Y Y Y rfl⟩)
def KV (x0 : Strip) (a11_f0 : Scalps) : Option Bool :=
 (kw a11_f0 x0.tenant).bind fun t7 =>
 some t7
theorem Z9 (x0 : Strip) (a11_f0 : Scalps) (rb : Nat) (qa1 : Option Addr) (na1 ca1 : Nat) (qa2 : Option Addr) (na2 ca2 : Nat) (w : World) (hw : HV w (keys [] []) [] [] [(rb, 0, [.func (.func 68) #[.agg #[.slice qa1 na1 ca1, .slice qa2 na2 ca2]] #[]]), (aB qa1, aO qa1, RSt.enc a11_f0.strips), (aB qa2, aO qa2, RSp.enc a11_f0.carried)] w)  (hna1 : a11_f0.strips.length = na1) (hqa1 : AOK na1 qa1) (hla1 : na1 ≤ ca1) (hna2 : a11_f0.carried.length = na2) (hqa2 : AOK na2 qa2) (hla2 : na2 ≤ ca2) {res : Bool} (hm : KV x0 a11_f0 = some res) :
    Calls Tryz.prog 90 #[.agg #[.int .i64 x0.tenant, .int .i64 x0.lay.lo, .int .i64 x0.lay.hi, .int .i64 x0.seeded.lo, .int .i64 x0.seeded.hi, .int .i64 x0.left.lo, .int .i64 x0.left.hi], ptr rb 0] w (fun en w' => ∃ l : Unit, en = .returned (.bool res) ∧ (True) ∧ HV w (keys [] []) [] [] [] w') := by
  unfold KV at hm
  refine kj func90 Y ntmps90 Y (e := [(0, _), (1, _)]) Y hw (jp ?_)
  refine jK Y Y (fun b h1 => ?_)
  refine jm Y Y (j3 (jc Y Y Y (fun w hh => j0 (isAgg120 w) Y (segCell (hh.seg 0 Y) 0 Y)) (jM 0 runUnderlying85 Y sizeOf3 Y Y (jS 0 isAgg3 Y Y Y Y ?_))))
  obtain ⟨t7, h2, hm⟩ := bindO hm
  refine jd [] [] Y Y Y Y Y Y Y call68 (fun w hh => z9 a11_f0 x0.tenant qa1 na1 ca1 qa2 na2 ca2 w (HV.callee (S0 := []) (vs0 := []) hh (roR hh 1 Y (roR hh 2 Y roN))) hna1 hqa1 hla1 hna2 hqa2 hla2 h2) (fun l h3 => ?_)
  refine jm Y Y (jo (jw ?_))
  obtain rfl := sj hm
  refine jn Y (fun w hh => (.tmp Y .nil)) (fun w hh => ⟨(), rfl, trivial, hh.se [] [] 3 Y Y Y rfl⟩)
def km (x0 : Strip) (a11_c0_f0 : Scalps) : Option Bool :=
 (KV x0 a11_c0_f0).bind fun t6 =>
 some (!t6)
theorem Qa (x0 : Strip) (a11_c0_f0 : Scalps) (rb : Nat) (rb_1 : Nat) (qa2 : Option Addr) (na2 ca2 : Nat) (qa3 : Option Addr) (na3 ca3 : Nat) (w : World) (hw : HV w (keys [] []) [] [] [(rb, 0, [.func (.func 90) #[] #[ptr rb_1 0]]), (rb_1, 0, [.func (.func 68) #[.agg #[.slice qa2 na2 ca2, .slice qa3 na3 ca3]] #[]]), (aB qa2, aO qa2, RSt.enc a11_c0_f0.strips), (aB qa3, aO qa3, RSp.enc a11_c0_f0.carried)] w)   (hna2 : a11_c0_f0.strips.length = na2) (hqa2 : AOK na2 qa2) (hla2 : na2 ≤ ca2) (hna3 : a11_c0_f0.carried.length = na3) (hqa3 : AOK na3 qa3) (hla3 : na3 ≤ ca3) {res : Bool} (hm : km x0 a11_c0_f0 = some res) :
    Calls Tryz.prog 125 #[.agg #[.int .i64 x0.tenant, .int .i64 x0.lay.lo, .int .i64 x0.lay.hi, .int .i64 x0.seeded.lo, .int .i64 x0.seeded.hi, .int .i64 x0.left.lo, .int .i64 x0.left.hi], ptr rb 0] w (fun en w' => ∃ l : Unit, en = .returned (.bool res) ∧ (True) ∧ HV w (keys [] []) [] [] [] w') := by
  unfold km at hm
  refine kj func125 Y ntmps125 Y (e := [(0, _), (1, _)]) Y hw (jp ?_)
  refine jK Y Y (fun b h1 => ?_)
  refine jm Y Y (j3 (jc Y Y Y (fun w hh => j0 (isAgg139 w) Y (segCell (hh.seg 0 Y) 0 Y)) (qh [_, _, _, _, _, _, _] 0 isAgg85 sizeOf85 Y Y Y Y ?_)))
  obtain ⟨t6, h2, hm⟩ := bindO hm
  refine jd [] [] Y Y Y Y Y Y Y call90 (fun w hh => Z9 x0 a11_c0_f0 rb_1 qa2 na2 ca2 qa3 na3 ca3 w (HV.callee (S0 := []) (vs0 := []) hh (roR hh 1 Y (roR hh 2 Y (roR hh 3 Y roN)))) hna2 hqa2 hla2 hna3 hqa3 hla3 h2) (fun l h3 => ?_)
  refine jc Y Y Y (fun _ _ => kV Y) (jm Y Y (jo (jw ?_)))
  obtain rfl := sj hm
  refine jn Y (fun w hh => (.tmp Y .nil)) (fun w hh => ⟨(), rfl, trivial, hh.se [] [] 4 Y Y Y rfl⟩)
def yU (s0 : (List Strip)) (f1_c0_c0_f0 : Scalps) (s : Int) : Option (Int ⊕ (Unit ⊕ Int)) :=
 if s < (s0.length : Int) then
 ((ix s0 s).bind fun t14 =>
 (km (⟨t14.tenant, (⟨t14.lay.lo, t14.lay.hi⟩ : Span), (⟨t14.seeded.lo, t14.seeded.hi⟩ : Span), (⟨t14.left.lo, t14.left.hi⟩ : Span)⟩ : Strip) f1_c0_c0_f0).bind fun t16 =>
 if t16 = true then
 (some (.inr (.inr s))) else
 ((addc s 1).bind fun t18 =>
 some (.inl t18))) else
 (some (.inr (.inl ())))
def yP (s0 : (List Strip)) (f1_c0_c0_f0 : Scalps) : Option Int :=
 (iterM FU (yU s0 f1_c0_c0_f0) 0).bind fun o =>
 oc o (fun j => some (-1)) (fun r_1 => some r_1)
theorem Yd (s0 : (List Strip)) (f1_c0_c0_f0 : Scalps) (qa0 : Option Addr) (na0 ca0 : Nat) (rb : Nat) (rb_1 : Nat) (qa3 : Option Addr) (na3 ca3 : Nat) (qa4 : Option Addr) (na4 ca4 : Nat) (w : World) (hw : HV w (keys [] []) [] [] [(aB qa0, aO qa0, RSt.enc s0), (rb, 0, [.func (.func 90) #[] #[ptr rb_1 0]]), (rb_1, 0, [.func (.func 68) #[.agg #[.slice qa3 na3 ca3, .slice qa4 na4 ca4]] #[]]), (aB qa3, aO qa3, RSt.enc f1_c0_c0_f0.strips), (aB qa4, aO qa4, RSp.enc f1_c0_c0_f0.carried)] w) (hna0 : s0.length = na0) (hqa0 : AOK na0 qa0) (hla0 : na0 ≤ ca0)   (hna3 : f1_c0_c0_f0.strips.length = na3) (hqa3 : AOK na3 qa3) (hla3 : na3 ≤ ca3) (hna4 : f1_c0_c0_f0.carried.length = na4) (hqa4 : AOK na4 qa4) (hla4 : na4 ≤ ca4) {res : Int} (hm : yP s0 f1_c0_c0_f0 = some res) :
    Calls Tryz.prog 136 #[.slice qa0 na0 ca0, .func (.func 125) #[] #[ptr rb 0]] w (fun en w' => ∃ l : Unit, en = .returned (.int .i64 res) ∧ (True) ∧ HV w (keys [] []) [] [] [] w') := by
  unfold yP at hm
  refine kj func136 Y ntmps136 Y (e := [(0, _), (1, _)]) Y hw (jp (jm Y Y (jo (jk (jp (je Y Y (jc Y Y Y (fun w _ => jB hna0 (runUnderlying22 w) Y) ?_)))))))
  refine je Y Y (jo ?_)
  obtain ⟨o, h1, h2⟩ := bindO hm
  refine jD (ι := Unit) (fun j => o = .inl j) (fun j => []) (fun j => []) (fun j => []) ?_ ?_
  ·replace hm := h1
   refine jl ?_
   refine jF (ι := Unit) hm (fun s l => True) (fun s l => [(0, .slice qa0 na0 ca0), (1, .func (.func 125) #[] #[ptr rb 0]), (7, .int .i64 (s0.length : Int)), (8, .int .i64 s)]) (fun s l => []) (fun s l => []) () (trivial) (sE Y) (fun w hh => hh) (fun s l r hpl hm h3 => ?_)
   unfold yU at hm
   refine jp (q8 Y Y Y (jo (jk ?_)))
   refine jq Y (fun h4 => ?_) (fun h4 => ?_)
   ·replace hm := ifD h4 hm
    refine jt (ja (jk (jl (jp (je Y Y (jm Y Y (j3 ?_)))))))
    refine je Y Y (je Y Y (je Y Y ?_))
    obtain ⟨t14, h5, hm⟩ := bindO hm
    refine jc Y Y Y (fun w _ => jY h5 (runUnderlying22 w) (sizeOf85 w) Y Y hna0 hqa0) ?_
    refine jc Y Y Y (fun w hh => kz RSt 0 [.int .i64 t14.tenant, .int .i64 t14.lay.lo, .int .i64 t14.lay.hi, .int .i64 t14.seeded.lo, .int .i64 t14.seeded.hi, .int .i64 t14.left.lo, .int .i64 t14.left.hi] h5 (isAgg85 w) (sizeOf85 w) Y (hh.seg 0 Y) Y (Nat.add_zero _).symm) ?_
    obtain ⟨t16, h6, hm⟩ := bindO hm
    refine jd [] [] Y Y Y Y Y Y Y call125 (fun w hh => Qa (⟨t14.tenant, (⟨t14.lay.lo, t14.lay.hi⟩ : Span), (⟨t14.seeded.lo, t14.seeded.hi⟩ : Span), (⟨t14.left.lo, t14.left.hi⟩ : Span)⟩ : Strip) f1_c0_c0_f0 rb rb_1 qa3 na3 ca3 qa4 na4 ca4 w (HV.callee (S0 := []) (vs0 := []) hh (roR hh 1 Y (roR hh 2 Y (roR hh 3 Y (roR hh 4 Y roN))))) hna3 hqa3 hla3 hna4 hqa4 hla4 h6) (fun l_1 h7 => ?_)
    refine jo ?_
    refine jq Y (fun h8 => ?_) (fun h8 => ?_)
    ·replace hm := ifT (h8) hm
     refine jp (je Y Y (jm Y Y (jo (jw (jz (jf (jf ?_)))))))
     refine jz ?_
     obtain rfl := sj hm
     have hbo := h3 _ Y
     subst hbo
     refine jf ?_
     replace hm := ocR h2
     refine jf ?_
     obtain rfl := sj hm
     refine jn Y (fun w hh => (.tmp Y .nil)) (fun w hh => ⟨(), rfl, trivial, hh.se [] [] 5 Y Y Y rfl⟩)
    replace hm := ifN h8 hm
    refine jt (js (ja (jh ?_)))
    obtain ⟨t18, h9, hm⟩ := bindO hm
    refine kS h9 Y Y Y (je Y Y (jv ?_))
    obtain rfl := sj hm
    refine ja ?_
    exact jy _ () Y (trivial) (sE Y) (fun w hh => hh)
   replace hm := ifE h4 hm
   refine jO (jj (jj (jC ?_)))
   obtain rfl := sj hm
   have hbo := h3 _ Y
   subst hbo
   exact jg () (Y) (.nil) (fun w hh => hh)
  intro j hj
  have h10 := hj
  subst h10
  replace hm := ocL h2
  refine ja (jp (jm Y Y (jo (jw ?_))))
  obtain rfl := sj hm
  refine jn Y (fun w hh => (.tmp Y .nil)) (fun w hh => ⟨(), rfl, trivial, hh.se [] [] 5 Y Y Y rfl⟩)
def qu (s0 : (List Strip)) (f1_c0_c0_f0 : Scalps) : Option Bool :=
 (yP s0 f1_c0_c0_f0).bind fun t7 =>
 some (decide (0 ≤ t7))
theorem QM (s0 : (List Strip)) (f1_c0_c0_f0 : Scalps) (qa0 : Option Addr) (na0 ca0 : Nat) (rb : Nat) (rb_1 : Nat) (qa3 : Option Addr) (na3 ca3 : Nat) (qa4 : Option Addr) (na4 ca4 : Nat) (w : World) (hw : HV w (keys [] []) [] [] [(aB qa0, aO qa0, RSt.enc s0), (rb, 0, [.func (.func 90) #[] #[ptr rb_1 0]]), (rb_1, 0, [.func (.func 68) #[.agg #[.slice qa3 na3 ca3, .slice qa4 na4 ca4]] #[]]), (aB qa3, aO qa3, RSt.enc f1_c0_c0_f0.strips), (aB qa4, aO qa4, RSp.enc f1_c0_c0_f0.carried)] w) (hna0 : s0.length = na0) (hqa0 : AOK na0 qa0) (hla0 : na0 ≤ ca0)   (hna3 : f1_c0_c0_f0.strips.length = na3) (hqa3 : AOK na3 qa3) (hla3 : na3 ≤ ca3) (hna4 : f1_c0_c0_f0.carried.length = na4) (hqa4 : AOK na4 qa4) (hla4 : na4 ≤ ca4) {res : Bool} (hm : qu s0 f1_c0_c0_f0 = some res) :
    Calls Tryz.prog 124 #[.slice qa0 na0 ca0, .func (.func 125) #[] #[ptr rb 0]] w (fun en w' => ∃ l : Unit, en = .returned (.bool res) ∧ (True) ∧ HV w (keys [] []) [] [] [] w') := by
  unfold qu at hm
  refine kj func124 Y ntmps124 Y (e := [(0, _), (1, _)]) Y hw (jp (jm Y Y (j3 (je Y Y (je Y Y ?_)))))
  obtain ⟨t7, h1, hm⟩ := bindO hm
  refine jd [] [] Y Y Y Y Y Y Y call136 (fun w hh => Yd s0 f1_c0_c0_f0 qa0 na0 ca0 rb rb_1 qa3 na3 ca3 qa4 na4 ca4 w (HV.callee (S0 := []) (vs0 := []) hh (roR hh 0 Y (roR hh 1 Y (roR hh 2 Y (roR hh 3 Y (roR hh 4 Y roN)))))) hna0 hqa0 hla0 hna3 hqa3 hla3 hna4 hqa4 hla4 h1) (fun l h2 => ?_)
  refine jc Y Y Y (fun _ _ => QS Y Y) (jm Y Y (jo (jw ?_)))
  obtain rfl := sj hm
  refine jn Y (fun w hh => (.tmp Y .nil)) (fun w hh => ⟨(), rfl, trivial, hh.se [] [] 5 Y Y Y rfl⟩)
def kG (l0 : (List Strip)) (holds1_c0_f0 : Scalps) : Option Bool :=
 (qu l0 holds1_c0_f0).bind fun t7 =>
 some (!t7)
theorem QN (l0 : (List Strip)) (holds1_c0_f0 : Scalps) (qa0 : Option Addr) (na0 ca0 : Nat) (rb : Nat) (qa2 : Option Addr) (na2 ca2 : Nat) (qa3 : Option Addr) (na3 ca3 : Nat) (w : World) (hw : HV w (keys [] []) [] [] [(aB qa0, aO qa0, RSt.enc l0), (rb, 0, [.func (.func 68) #[.agg #[.slice qa2 na2 ca2, .slice qa3 na3 ca3]] #[]]), (aB qa2, aO qa2, RSt.enc holds1_c0_f0.strips), (aB qa3, aO qa3, RSp.enc holds1_c0_f0.carried)] w) (hna0 : l0.length = na0) (hqa0 : AOK na0 qa0) (hla0 : na0 ≤ ca0)  (hna2 : holds1_c0_f0.strips.length = na2) (hqa2 : AOK na2 qa2) (hla2 : na2 ≤ ca2) (hna3 : holds1_c0_f0.carried.length = na3) (hqa3 : AOK na3 qa3) (hla3 : na3 ≤ ca3) {res : Bool} (hm : kG l0 holds1_c0_f0 = some res) :
    Calls Tryz.prog 89 #[.slice qa0 na0 ca0, .func (.func 90) #[] #[ptr rb 0]] w (fun en w' => ∃ l : Unit, en = .returned (.bool res) ∧ (True) ∧ HV w (keys [] []) [] [] [] w') := by
  unfold kG at hm
  refine kj func89 Y ntmps89 Y (e := [(0, _), (1, _)]) Y hw (jp ?_)
  refine jK Y Y (fun b h1 => ?_)
  refine jm Y Y (j3 (je Y Y (jc Y Y Y (fun _ _ => jR (u := #[]) (u' := #[_]) Y Y) ?_)))
  obtain ⟨t7, h2, hm⟩ := bindO hm
  refine jd [] [] Y Y Y Y Y Y Y call124 (fun w hh => QM l0 holds1_c0_f0 qa0 na0 ca0 b rb qa2 na2 ca2 qa3 na3 ca3 w (HV.callee (S0 := []) (vs0 := []) hh (roR hh 0 Y (roC (bsep (hh.bseg 0 Y)) (roR hh 1 Y (roR hh 2 Y (roR hh 3 Y roN)))))) hna0 hqa0 hla0 hna2 hqa2 hla2 hna3 hqa3 hla3 h2) (fun l h3 => ?_)
  refine jc Y Y Y (fun _ _ => kV Y) (jm Y Y (jo (jw ?_)))
  obtain rfl := sj hm
  refine jn Y (fun w hh => (.tmp Y .nil)) (fun w hh => ⟨(), rfl, trivial, hh.se [] [] 4 Y Y Y rfl⟩)
def KY (x0 : Span) : Option Bool :=
 some (decide (x0.lo ≤ x0.hi))
theorem ZV (x0 : Span)  (w : World) (hw : HV w (keys [] []) [] [] [] w)  {res : Bool} (hm : KY x0 = some res) :
    Calls Tryz.prog 91 #[.agg #[.int .i64 x0.lo, .int .i64 x0.hi]] w (fun en w' => ∃ l : Unit, en = .returned (.bool res) ∧ (True) ∧ HV w (keys [] []) [] [] [] w') := by
  unfold KY at hm
  refine kj func91 Y ntmps91 Y (e := [(0, _)]) Y hw (jp ?_)
  refine jK Y Y (fun b h1 => ?_)
  refine jm Y Y (j3 (jM 0 runUnderlying32 Y sizeOf3 Y Y (jS 0 isAgg3 Y Y Y Y (jM 1 runUnderlying32 Y sizeOf3 Y Y (jS 0 isAgg3 Y Y Y Y (jc Y Y Y (fun _ _ => ZC Y Y) (jm Y Y ?_)))))))
  refine jo (jw ?_)
  obtain rfl := sj hm
  refine jn Y (fun w hh => (.tmp Y .nil)) (fun w hh => ⟨(), rfl, trivial, hh.se [] [] 0 Y Y Y rfl⟩)
def ku (x0 : Span) : Option Bool :=
 (KY x0).bind fun t6 =>
 some (!t6)
theorem Qd (x0 : Span) (rb : Nat) (w : World) (hw : HV w (keys [] []) [] [] [(rb, 0, [.func (.func 91) #[] #[]])] w)  {res : Bool} (hm : ku x0 = some res) :
    Calls Tryz.prog 122 #[.agg #[.int .i64 x0.lo, .int .i64 x0.hi], ptr rb 0] w (fun en w' => ∃ l : Unit, en = .returned (.bool res) ∧ (True) ∧ HV w (keys [] []) [] [] [] w') := by
  unfold ku at hm
  refine kj func122 Y ntmps122 Y (e := [(0, _), (1, _)]) Y hw (jp ?_)
  refine jK Y Y (fun b h1 => ?_)
  refine jm Y Y (j3 (jc Y Y Y (fun w hh => j0 (isAgg100 w) Y (segCell (hh.seg 0 Y) 0 Y)) (qh [_, _] 0 isAgg32 sizeOf32 Y Y Y Y ?_)))
  obtain ⟨t6, h2, hm⟩ := bindO hm
  refine jd [] [] Y Y Y Y Y Y Y call91 (fun w hh => ZV x0 w (HV.callee (S0 := []) (vs0 := []) hh roN)  h2) (fun l h3 => ?_)
  refine jc Y Y Y (fun _ _ => kV Y) (jm Y Y (jo (jw ?_)))
  obtain rfl := sj hm
  refine jn Y (fun w hh => (.tmp Y .nil)) (fun w hh => ⟨(), rfl, trivial, hh.se [] [] 1 Y Y Y rfl⟩)
def yk (s0 : (List Span)) (s : Int) : Option (Int ⊕ (Unit ⊕ Int)) :=
 if s < (s0.length : Int) then
 ((ix s0 s).bind fun t14 =>
 (ku t14).bind fun t16 =>
 if t16 = true then
 (some (.inr (.inr s))) else
 ((addc s 1).bind fun t18 =>
 some (.inl t18))) else
 (some (.inr (.inl ())))
def qW (s0 : (List Span)) : Option Int :=
 (iterM FU (yk s0) 0).bind fun o =>
 oc o (fun j => some (-1)) (fun r_1 => some r_1)
theorem QU (s0 : (List Span)) (qa0 : Option Addr) (na0 ca0 : Nat) (rb : Nat) (w : World) (hw : HV w (keys [] []) [] [] [(aB qa0, aO qa0, RSp.enc s0), (rb, 0, [.func (.func 91) #[] #[]])] w) (hna0 : s0.length = na0) (hqa0 : AOK na0 qa0) (hla0 : na0 ≤ ca0)  {res : Int} (hm : qW s0 = some res) :
    Calls Tryz.prog 135 #[.slice qa0 na0 ca0, .func (.func 122) #[] #[ptr rb 0]] w (fun en w' => ∃ l : Unit, en = .returned (.int .i64 res) ∧ (True) ∧ HV w (keys [] []) [] [] [] w') := by
  unfold qW at hm
  refine kj func135 Y ntmps135 Y (e := [(0, _), (1, _)]) Y hw (jp (jm Y Y (jo (jk (jp (je Y Y (jc Y Y Y (fun w _ => jB hna0 (runUnderlying23 w) Y) ?_)))))))
  refine je Y Y (jo ?_)
  obtain ⟨o, h1, h2⟩ := bindO hm
  refine jD (ι := Unit) (fun j => o = .inl j) (fun j => []) (fun j => []) (fun j => []) ?_ ?_
  ·replace hm := h1
   refine jl ?_
   refine jF (ι := Unit) hm (fun s l => True) (fun s l => [(0, .slice qa0 na0 ca0), (1, .func (.func 122) #[] #[ptr rb 0]), (7, .int .i64 (s0.length : Int)), (8, .int .i64 s)]) (fun s l => []) (fun s l => []) () (trivial) (sE Y) (fun w hh => hh) (fun s l r hpl hm h3 => ?_)
   unfold yk at hm
   refine jp (q8 Y Y Y (jo (jk ?_)))
   refine jq Y (fun h4 => ?_) (fun h4 => ?_)
   ·replace hm := ifD h4 hm
    refine jt (ja (jk (jl (jp (je Y Y (jm Y Y (j3 ?_)))))))
    refine je Y Y (je Y Y (je Y Y ?_))
    obtain ⟨t14, h5, hm⟩ := bindO hm
    refine jc Y Y Y (fun w _ => jY h5 (runUnderlying23 w) (sizeOf32 w) Y Y hna0 hqa0) ?_
    refine jc Y Y Y (fun w hh => kz RSp 0 [.int .i64 t14.lo, .int .i64 t14.hi] h5 (isAgg32 w) (sizeOf32 w) Y (hh.seg 0 Y) Y (Nat.add_zero _).symm) ?_
    obtain ⟨t16, h6, hm⟩ := bindO hm
    refine jd [] [] Y Y Y Y Y Y Y call122 (fun w hh => Qd t14 rb w (HV.callee (S0 := []) (vs0 := []) hh (roR hh 1 Y roN))  h6) (fun l_1 h7 => ?_)
    refine jo ?_
    refine jq Y (fun h8 => ?_) (fun h8 => ?_)
    ·replace hm := ifT (h8) hm
     refine jp (je Y Y (jm Y Y (jo (jw (jz (jf (jf ?_)))))))
     refine jz ?_
     obtain rfl := sj hm
     have hbo := h3 _ Y
     subst hbo
     refine jf ?_
     replace hm := ocR h2
     refine jf ?_
     obtain rfl := sj hm
     refine jn Y (fun w hh => (.tmp Y .nil)) (fun w hh => ⟨(), rfl, trivial, hh.se [] [] 2 Y Y Y rfl⟩)
    replace hm := ifN h8 hm
    refine jt (js (ja (jh ?_)))
    obtain ⟨t18, h9, hm⟩ := bindO hm
    refine kS h9 Y Y Y (je Y Y (jv ?_))
    obtain rfl := sj hm
    refine ja ?_
    exact jy _ () Y (trivial) (sE Y) (fun w hh => hh)
   replace hm := ifE h4 hm
   refine jO (jj (jj (jC ?_)))
   obtain rfl := sj hm
   have hbo := h3 _ Y
   subst hbo
   exact jg () (Y) (.nil) (fun w hh => hh)
  intro j hj
  have h10 := hj
  subst h10
  replace hm := ocL h2
  refine ja (jp (jm Y Y (jo (jw ?_))))
  obtain rfl := sj hm
  refine jn Y (fun w hh => (.tmp Y .nil)) (fun w hh => ⟨(), rfl, trivial, hh.se [] [] 2 Y Y Y rfl⟩)
def kZ (s0 : (List Span)) : Option Bool :=
 (qW s0).bind fun t7 =>
 some (decide (0 ≤ t7))
theorem Qe (s0 : (List Span)) (qa0 : Option Addr) (na0 ca0 : Nat) (rb : Nat) (w : World) (hw : HV w (keys [] []) [] [] [(aB qa0, aO qa0, RSp.enc s0), (rb, 0, [.func (.func 91) #[] #[]])] w) (hna0 : s0.length = na0) (hqa0 : AOK na0 qa0) (hla0 : na0 ≤ ca0)  {res : Bool} (hm : kZ s0 = some res) :
    Calls Tryz.prog 121 #[.slice qa0 na0 ca0, .func (.func 122) #[] #[ptr rb 0]] w (fun en w' => ∃ l : Unit, en = .returned (.bool res) ∧ (True) ∧ HV w (keys [] []) [] [] [] w') := by
  unfold kZ at hm
  refine kj func121 Y ntmps121 Y (e := [(0, _), (1, _)]) Y hw (jp (jm Y Y (j3 (je Y Y (je Y Y ?_)))))
  obtain ⟨t7, h1, hm⟩ := bindO hm
  refine jd [] [] Y Y Y Y Y Y Y call135 (fun w hh => QU s0 qa0 na0 ca0 rb w (HV.callee (S0 := []) (vs0 := []) hh (roR hh 0 Y (roR hh 1 Y roN))) hna0 hqa0 hla0 h1) (fun l h2 => ?_)
  refine jc Y Y Y (fun _ _ => QS Y Y) (jm Y Y (jo (jw ?_)))
  obtain rfl := sj hm
  refine jn Y (fun w hh => (.tmp Y .nil)) (fun w hh => ⟨(), rfl, trivial, hh.se [] [] 2 Y Y Y rfl⟩)
def kW (l0 : (List Span)) : Option Bool :=
 (kZ l0).bind fun t7 =>
 some (!t7)
theorem QW (l0 : (List Span)) (qa0 : Option Addr) (na0 ca0 : Nat) (w : World) (hw : HV w (keys [] []) [] [] [(aB qa0, aO qa0, RSp.enc l0)] w) (hna0 : l0.length = na0) (hqa0 : AOK na0 qa0) (hla0 : na0 ≤ ca0) {res : Bool} (hm : kW l0 = some res) :
    Calls Tryz.prog 87 #[.slice qa0 na0 ca0, .func (.func 91) #[] #[]] w (fun en w' => ∃ l : Unit, en = .returned (.bool res) ∧ (True) ∧ HV w (keys [] []) [] [] [] w') := by
  unfold kW at hm
  refine kj func87 Y ntmps87 Y (e := [(0, _), (1, _)]) Y hw (jp ?_)
  refine jK Y Y (fun b h1 => ?_)
  refine jm Y Y (j3 (je Y Y (jc Y Y Y (fun _ _ => jR (u := #[]) (u' := #[_]) Y Y) ?_)))
  obtain ⟨t7, h2, hm⟩ := bindO hm
  refine jd [] [] Y Y Y Y Y Y Y call121 (fun w hh => Qe l0 qa0 na0 ca0 b w (HV.callee (S0 := []) (vs0 := []) hh (roR hh 0 Y (roC (bsep (hh.bseg 0 Y)) roN))) hna0 hqa0 hla0 h2) (fun l h3 => ?_)
  refine jc Y Y Y (fun _ _ => kV Y) (jm Y Y (jo (jw ?_)))
  obtain rfl := sj hm
  refine jn Y (fun w hh => (.tmp Y .nil)) (fun w hh => ⟨(), rfl, trivial, hh.se [] [] 1 Y Y Y rfl⟩)
def j4 (x0 : Strip) : Option Span :=
 (addc x0.lay.lo x0.seeded.lo).bind fun t9 =>
 (subc t9 x0.left.hi).bind fun t13 =>
 (addc x0.lay.hi x0.seeded.hi).bind fun t21 =>
 (subc t21 x0.left.lo).bind fun t25 =>
 some (⟨(max 0 t13), t25⟩ : Span)
theorem ye (x0 : Strip)  (w : World) (hw : HV w (keys [] []) [] [] [] w)  {res : Span} (hm : j4 x0 = some res) :
    Calls Tryz.prog 66 #[.agg #[.int .i64 x0.tenant, .int .i64 x0.lay.lo, .int .i64 x0.lay.hi, .int .i64 x0.seeded.lo, .int .i64 x0.seeded.hi, .int .i64 x0.left.lo, .int .i64 x0.left.hi]] w (fun en w' => ∃ l : Unit, en = .returned (.agg #[.int .i64 res.lo, .int .i64 res.hi]) ∧ (True) ∧ HV w (keys [] []) [] [] [] w') := by
  unfold j4 at hm
  refine kj func66 Y ntmps66 Y (e := [(0, _)]) Y hw (jp ?_)
  refine jK Y Y (fun b h1 => ?_)
  refine ju (fun w => zeroValue32 w) Y (fun b_1 h2 => ?_)
  refine j3 (jM 1 runUnderlying85 Y sizeOf32 Y Y (jM 0 runUnderlying32 Y sizeOf3 Y Y (jS 1 isAgg3 Y Y Y Y (jM 3 runUnderlying85 Y sizeOf32 Y Y (jM 0 runUnderlying32 Y sizeOf3 Y Y (jS 1 isAgg3 Y Y Y Y ?_))))))
  obtain ⟨t9, h3, hm⟩ := bindO hm
  refine kS h3 Y Y Y (jM 5 runUnderlying85 Y sizeOf32 Y Y (jM 1 runUnderlying32 Y sizeOf3 Y Y (jS 1 isAgg3 Y Y Y Y ?_)))
  obtain ⟨t13, h4, hm⟩ := bindO hm
  refine jc Y Y Y (fun _ _ => qp h4 Y Y) (jc Y Y Y (fun _ _ => ZN Y Y) (jM 1 runUnderlying85 Y sizeOf32 Y Y (jM 1 runUnderlying32 Y sizeOf3 Y Y (jS 1 isAgg3 Y Y Y Y (jM 3 runUnderlying85 Y sizeOf32 Y Y (jM 1 runUnderlying32 Y sizeOf3 Y Y (jS 1 isAgg3 Y Y Y Y ?_)))))))
  obtain ⟨t21, h5, hm⟩ := bindO hm
  refine kS h5 Y Y Y (jM 5 runUnderlying85 Y sizeOf32 Y Y (jM 0 runUnderlying32 Y sizeOf3 Y Y (jS 1 isAgg3 Y Y Y Y ?_)))
  obtain ⟨t25, h6, hm⟩ := bindO hm
  refine jc Y Y Y (fun _ _ => qp h6 Y Y) (jc Y Y Y (fun _ _ => jG (vs := [(0, _), (1, _)]) (cells := [_, _]) Y Y) (jE (us := #[_, _]) (cs' := [_, _]) (S' := [_, _]) 0 (fun w => sizeOf32 w) Y Y Y Y Y Y Y (jo (jw ?_))))
  obtain rfl := sj hm
  refine jn Y (fun w hh => (.cell Y (loadVar_agg (vs := [_, _]) (isAgg32 _) (sizeOf32 _) (hh.cells 0 Y Y)) .nil)) (fun w hh => ⟨(), rfl, trivial, hh.se [] [] 0 Y Y Y rfl⟩)
def KS (x0 : Strip) : Option Bool :=
 (j4 x0).bind fun t4 =>
 some (decide (0 ≤ t4.hi))
theorem Z3 (x0 : Strip)  (w : World) (hw : HV w (keys [] []) [] [] [] w)  {res : Bool} (hm : KS x0 = some res) :
    Calls Tryz.prog 92 #[.agg #[.int .i64 x0.tenant, .int .i64 x0.lay.lo, .int .i64 x0.lay.hi, .int .i64 x0.seeded.lo, .int .i64 x0.seeded.hi, .int .i64 x0.left.lo, .int .i64 x0.left.hi]] w (fun en w' => ∃ l : Unit, en = .returned (.bool res) ∧ (True) ∧ HV w (keys [] []) [] [] [] w') := by
  unfold KS at hm
  refine kj func92 Y ntmps92 Y (e := [(0, _)]) Y hw (jp ?_)
  refine jK Y Y (fun b h1 => ?_)
  refine jm Y Y (j3 (qh [_, _, _, _, _, _, _] 0 isAgg85 sizeOf85 Y Y Y Y ?_))
  obtain ⟨t4, h2, hm⟩ := bindO hm
  refine jd [] [] Y Y Y Y Y Y Y call66 (fun w hh => ye x0 w (HV.callee (S0 := []) (vs0 := []) hh roN)  h2) (fun l h3 => ?_)
  refine jc Y Y Y (fun w _ => YL 3 1 (runUnderlying32 w) Y (isAgg3 w) Y Y) (jc Y Y Y (fun _ _ => QS Y Y) (jm Y Y (jo (jw ?_))))
  obtain rfl := sj hm
  refine jn Y (fun w hh => (.tmp Y .nil)) (fun w hh => ⟨(), rfl, trivial, hh.se [] [] 0 Y Y Y rfl⟩)
def ka (x0 : Strip) : Option Bool :=
 (KS x0).bind fun t6 =>
 some (!t6)
theorem Kv (x0 : Strip) (rb : Nat) (w : World) (hw : HV w (keys [] []) [] [] [(rb, 0, [.func (.func 92) #[] #[]])] w)  {res : Bool} (hm : ka x0 = some res) :
    Calls Tryz.prog 125 #[.agg #[.int .i64 x0.tenant, .int .i64 x0.lay.lo, .int .i64 x0.lay.hi, .int .i64 x0.seeded.lo, .int .i64 x0.seeded.hi, .int .i64 x0.left.lo, .int .i64 x0.left.hi], ptr rb 0] w (fun en w' => ∃ l : Unit, en = .returned (.bool res) ∧ (True) ∧ HV w (keys [] []) [] [] [] w') := by
  unfold ka at hm
  refine kj func125 Y ntmps125 Y (e := [(0, _), (1, _)]) Y hw (jp ?_)
  refine jK Y Y (fun b h1 => ?_)
  refine jm Y Y (j3 (jc Y Y Y (fun w hh => j0 (isAgg139 w) Y (segCell (hh.seg 0 Y) 0 Y)) (qh [_, _, _, _, _, _, _] 0 isAgg85 sizeOf85 Y Y Y Y ?_)))
  obtain ⟨t6, h2, hm⟩ := bindO hm
  refine jd [] [] Y Y Y Y Y Y Y call92 (fun w hh => Z3 x0 w (HV.callee (S0 := []) (vs0 := []) hh roN)  h2) (fun l h3 => ?_)
  refine jc Y Y Y (fun _ _ => kV Y) (jm Y Y (jo (jw ?_)))
  obtain rfl := sj hm
  refine jn Y (fun w hh => (.tmp Y .nil)) (fun w hh => ⟨(), rfl, trivial, hh.se [] [] 1 Y Y Y rfl⟩)
def yl (s0 : (List Strip)) (s : Int) : Option (Int ⊕ (Unit ⊕ Int)) :=
 if s < (s0.length : Int) then
 ((ix s0 s).bind fun t14 =>
 (ka (⟨t14.tenant, (⟨t14.lay.lo, t14.lay.hi⟩ : Span), (⟨t14.seeded.lo, t14.seeded.hi⟩ : Span), (⟨t14.left.lo, t14.left.hi⟩ : Span)⟩ : Strip)).bind fun t16 =>
 if t16 = true then
 (some (.inr (.inr s))) else
 ((addc s 1).bind fun t18 =>
 some (.inl t18))) else
 (some (.inr (.inl ())))
def qX (s0 : (List Strip)) : Option Int :=
 (iterM FU (yl s0) 0).bind fun o =>
 oc o (fun j => some (-1)) (fun r_1 => some r_1)
theorem QV (s0 : (List Strip)) (qa0 : Option Addr) (na0 ca0 : Nat) (rb : Nat) (w : World) (hw : HV w (keys [] []) [] [] [(aB qa0, aO qa0, RSt.enc s0), (rb, 0, [.func (.func 92) #[] #[]])] w) (hna0 : s0.length = na0) (hqa0 : AOK na0 qa0) (hla0 : na0 ≤ ca0)  {res : Int} (hm : qX s0 = some res) :
    Calls Tryz.prog 136 #[.slice qa0 na0 ca0, .func (.func 125) #[] #[ptr rb 0]] w (fun en w' => ∃ l : Unit, en = .returned (.int .i64 res) ∧ (True) ∧ HV w (keys [] []) [] [] [] w') := by
  unfold qX at hm
  refine kj func136 Y ntmps136 Y (e := [(0, _), (1, _)]) Y hw (jp (jm Y Y (jo (jk (jp (je Y Y (jc Y Y Y (fun w _ => jB hna0 (runUnderlying22 w) Y) ?_)))))))
  refine je Y Y (jo ?_)
  obtain ⟨o, h1, h2⟩ := bindO hm
  refine jD (ι := Unit) (fun j => o = .inl j) (fun j => []) (fun j => []) (fun j => []) ?_ ?_
  ·replace hm := h1
   refine jl ?_
   refine jF (ι := Unit) hm (fun s l => True) (fun s l => [(0, .slice qa0 na0 ca0), (1, .func (.func 125) #[] #[ptr rb 0]), (7, .int .i64 (s0.length : Int)), (8, .int .i64 s)]) (fun s l => []) (fun s l => []) () (trivial) (sE Y) (fun w hh => hh) (fun s l r hpl hm h3 => ?_)
   unfold yl at hm
   refine jp (q8 Y Y Y (jo (jk ?_)))
   refine jq Y (fun h4 => ?_) (fun h4 => ?_)
   ·replace hm := ifD h4 hm
    refine jt (ja (jk (jl (jp (je Y Y (jm Y Y (j3 ?_)))))))
    refine je Y Y (je Y Y (je Y Y ?_))
    obtain ⟨t14, h5, hm⟩ := bindO hm
    refine jc Y Y Y (fun w _ => jY h5 (runUnderlying22 w) (sizeOf85 w) Y Y hna0 hqa0) ?_
    refine jc Y Y Y (fun w hh => kz RSt 0 [.int .i64 t14.tenant, .int .i64 t14.lay.lo, .int .i64 t14.lay.hi, .int .i64 t14.seeded.lo, .int .i64 t14.seeded.hi, .int .i64 t14.left.lo, .int .i64 t14.left.hi] h5 (isAgg85 w) (sizeOf85 w) Y (hh.seg 0 Y) Y (Nat.add_zero _).symm) ?_
    obtain ⟨t16, h6, hm⟩ := bindO hm
    refine jd [] [] Y Y Y Y Y Y Y call125 (fun w hh => Kv (⟨t14.tenant, (⟨t14.lay.lo, t14.lay.hi⟩ : Span), (⟨t14.seeded.lo, t14.seeded.hi⟩ : Span), (⟨t14.left.lo, t14.left.hi⟩ : Span)⟩ : Strip) rb w (HV.callee (S0 := []) (vs0 := []) hh (roR hh 1 Y roN))  h6) (fun l_1 h7 => ?_)
    refine jo ?_
    refine jq Y (fun h8 => ?_) (fun h8 => ?_)
    ·replace hm := ifT (h8) hm
     refine jp (je Y Y (jm Y Y (jo (jw (jz (jf (jf ?_)))))))
     refine jz ?_
     obtain rfl := sj hm
     have hbo := h3 _ Y
     subst hbo
     refine jf ?_
     replace hm := ocR h2
     refine jf ?_
     obtain rfl := sj hm
     refine jn Y (fun w hh => (.tmp Y .nil)) (fun w hh => ⟨(), rfl, trivial, hh.se [] [] 2 Y Y Y rfl⟩)
    replace hm := ifN h8 hm
    refine jt (js (ja (jh ?_)))
    obtain ⟨t18, h9, hm⟩ := bindO hm
    refine kS h9 Y Y Y (je Y Y (jv ?_))
    obtain rfl := sj hm
    refine ja ?_
    exact jy _ () Y (trivial) (sE Y) (fun w hh => hh)
   replace hm := ifE h4 hm
   refine jO (jj (jj (jC ?_)))
   obtain rfl := sj hm
   have hbo := h3 _ Y
   subst hbo
   exact jg () (Y) (.nil) (fun w hh => hh)
  intro j hj
  have h10 := hj
  subst h10
  replace hm := ocL h2
  refine ja (jp (jm Y Y (jo (jw ?_))))
  obtain rfl := sj hm
  refine jn Y (fun w hh => (.tmp Y .nil)) (fun w hh => ⟨(), rfl, trivial, hh.se [] [] 2 Y Y Y rfl⟩)
def kY (s0 : (List Strip)) : Option Bool :=
 (qX s0).bind fun t7 =>
 some (decide (0 ≤ t7))
theorem Qg (s0 : (List Strip)) (qa0 : Option Addr) (na0 ca0 : Nat) (rb : Nat) (w : World) (hw : HV w (keys [] []) [] [] [(aB qa0, aO qa0, RSt.enc s0), (rb, 0, [.func (.func 92) #[] #[]])] w) (hna0 : s0.length = na0) (hqa0 : AOK na0 qa0) (hla0 : na0 ≤ ca0)  {res : Bool} (hm : kY s0 = some res) :
    Calls Tryz.prog 124 #[.slice qa0 na0 ca0, .func (.func 125) #[] #[ptr rb 0]] w (fun en w' => ∃ l : Unit, en = .returned (.bool res) ∧ (True) ∧ HV w (keys [] []) [] [] [] w') := by
  unfold kY at hm
  refine kj func124 Y ntmps124 Y (e := [(0, _), (1, _)]) Y hw (jp (jm Y Y (j3 (je Y Y (je Y Y ?_)))))
  obtain ⟨t7, h1, hm⟩ := bindO hm
  refine jd [] [] Y Y Y Y Y Y Y call136 (fun w hh => QV s0 qa0 na0 ca0 rb w (HV.callee (S0 := []) (vs0 := []) hh (roR hh 0 Y (roR hh 1 Y roN))) hna0 hqa0 hla0 h1) (fun l h2 => ?_)
  refine jc Y Y Y (fun _ _ => QS Y Y) (jm Y Y (jo (jw ?_)))
  obtain rfl := sj hm
  refine jn Y (fun w hh => (.tmp Y .nil)) (fun w hh => ⟨(), rfl, trivial, hh.se [] [] 2 Y Y Y rfl⟩)
def ks (l0 : (List Strip)) : Option Bool :=
 (kY l0).bind fun t7 =>
 some (!t7)
theorem Qf (l0 : (List Strip)) (qa0 : Option Addr) (na0 ca0 : Nat) (w : World) (hw : HV w (keys [] []) [] [] [(aB qa0, aO qa0, RSt.enc l0)] w) (hna0 : l0.length = na0) (hqa0 : AOK na0 qa0) (hla0 : na0 ≤ ca0) {res : Bool} (hm : ks l0 = some res) :
    Calls Tryz.prog 89 #[.slice qa0 na0 ca0, .func (.func 92) #[] #[]] w (fun en w' => ∃ l : Unit, en = .returned (.bool res) ∧ (True) ∧ HV w (keys [] []) [] [] [] w') := by
  unfold ks at hm
  refine kj func89 Y ntmps89 Y (e := [(0, _), (1, _)]) Y hw (jp ?_)
  refine jK Y Y (fun b h1 => ?_)
  refine jm Y Y (j3 (je Y Y (jc Y Y Y (fun _ _ => jR (u := #[]) (u' := #[_]) Y Y) ?_)))
  obtain ⟨t7, h2, hm⟩ := bindO hm
  refine jd [] [] Y Y Y Y Y Y Y call124 (fun w hh => Qg l0 qa0 na0 ca0 b w (HV.callee (S0 := []) (vs0 := []) hh (roR hh 0 Y (roC (bsep (hh.bseg 0 Y)) roN))) hna0 hqa0 hla0 h2) (fun l h3 => ?_)
  refine jc Y Y Y (fun _ _ => kV Y) (jm Y Y (jo (jw ?_)))
  obtain rfl := sj hm
  refine jn Y (fun w hh => (.tmp Y .nil)) (fun w hh => ⟨(), rfl, trivial, hh.se [] [] 1 Y Y Y rfl⟩)
def KE (s0 : Scalps) : Option Int :=
 ((Qy (s0.strips.length : Int) 1 6).bind fun t10 =>
 if (!t10) = true then
 (some true) else
 ((Qy (s0.carried.length : Int) 1 5).bind fun t16 =>
 some (!t16))).bind fun o =>
 if o = true then
 (some 2) else
 ((ql s0).bind fun t21 =>
 (qC t21).bind fun t22 =>
 if (!t22) = true then
 (some 3) else
 ((kG s0.strips s0).bind fun t28 =>
 if (!t28) = true then
 (some 1) else
 ((ql s0).bind fun t32 =>
 (kW t32).bind fun t33 =>
 if (!t33) = true then
 (some 4) else
 ((ks s0.strips).bind fun t38 =>
 if (!t38) = true then
 (some 8) else
 (some 0)))))
theorem ZR (s0 : Scalps) (qa0 : Option Addr) (na0 ca0 : Nat) (qa1 : Option Addr) (na1 ca1 : Nat) (w : World) (hw : HV w (keys [] []) [] [] [(aB qa0, aO qa0, RSt.enc s0.strips), (aB qa1, aO qa1, RSp.enc s0.carried)] w) (hna0 : s0.strips.length = na0) (hqa0 : AOK na0 qa0) (hla0 : na0 ≤ ca0) (hna1 : s0.carried.length = na1) (hqa1 : AOK na1 qa1) (hla1 : na1 ≤ ca1) {res : Int} (hm : KE s0 = some res) :
    Calls Tryz.prog 32 #[.agg #[.slice qa0 na0 ca0, .slice qa1 na1 ca1]] w (fun en w' => ∃ l : Unit, en = .returned (.int .i64 res) ∧ (True) ∧ HV w (keys [] []) [] [] [] w') := by
  unfold KE at hm
  refine kj func32 Y ntmps32 Y (e := [(0, _)]) Y hw (jp ?_)
  refine jK Y Y (fun b h1 => ?_)
  refine jm Y Y (j3 (qh [_, _] 0 isAgg25 sizeOf25 Y Y Y Y (jc Y Y Y (fun _ _ => jR (u := #[_]) (u' := #[]) Y Y) ?_)))
  refine ju (fun w => zeroValue120 w) Y (fun b_1 h2 => ?_)
  refine y4 (cs' := #[_]) (S' := [_, _]) 0 (fun w => sizeOf120 w) Y Y Y Y Y Y Y (jo (jk (jl (jk ?_))))
  obtain ⟨o, h3, h4⟩ := bindO hm
  refine jD (ι := Unit) (fun l => True) (fun l => [(1, ptr b 0), (3, ptr b_1 0), (6, .bool o)]) (fun l => [(b_1, .cells #[.func (.func 68) #[.agg #[.slice qa0 na0 ca0, .slice qa1 na1 ca1]] #[]] 120 (0, 0)), kc b #[.slice qa0 na0 ca0, .slice qa1 na1 ca1] 25]) (fun l => []) ?_ ?_
  ·replace hm := h3
   refine jh (jM 0 runUnderlying25 Y sizeOf22 Y Y (jS 1 isAgg22 Y Y Y Y (jc Y Y Y (fun w _ => jB hna0 (runUnderlying22 w) Y) ?_)))
   obtain ⟨t10, h5, hm⟩ := bindO hm
   refine jd [] [] Y Y Y Y Y Y Y call62 (fun w hh => YS (s0.strips.length : Int) 1 6 w (HV.callee (S0 := []) (vs0 := []) hh roN)  h5) (fun l_1 h6 => ?_)
   refine jc Y Y Y (fun _ _ => kV Y) (je Y Y ?_)
   refine jH 12 Y (fun h7 => ?_) (fun h7 => ?_)
   ·replace hm := ifT (h7) hm
    refine g_k Y Y Y Y (g_k Y Y Y Y (g_k Y Y Y Y (g_k Y Y Y Y (g_k Y Y Y Y (j8 Y Y Y (jm Y Y (jv ?_)))))))
    obtain rfl := sj hm
    exact jg () (trivial) (sE Y) (fun w hh => hh)
   replace hm := ifN h7 hm
   refine jb Y Y (jM 1 runUnderlying25 Y sizeOf23 Y Y (jb Y Y (jS 1 isAgg23 Y Y Y Y (jb Y Y (jc Y Y Y (fun w _ => jB hna1 (runUnderlying23 w) Y) (jb Y Y ?_))))))
   obtain ⟨t16, h8, hm⟩ := bindO hm
   refine jd [] [] Y Y Y Y Y Y Y call62 (fun w hh => YS (s0.carried.length : Int) 1 5 w (HV.callee (S0 := []) (vs0 := []) hh roN)  h8) (fun l_2 h9 => ?_)
   refine jb Y Y (jc Y Y Y (fun _ _ => kV Y) (ky Y Y Y (jm Y Y (jv ?_))))
   obtain rfl := sj hm
   exact jg () (trivial) (sE Y) (fun w hh => hh)
  intro l hj
  replace hm := h4
  refine ja ?_
  refine jq Y (fun h10 => ?_) (fun h10 => ?_)
  ·replace hm := ifT (h10) hm
   refine jp (jm Y Y (jo (jw (jz (jf ?_)))))
   obtain rfl := sj hm
   refine jn Y (fun w hh => (.tmp Y .nil)) (fun w hh => ⟨(), rfl, trivial, hh.se [] [] 2 Y Y Y rfl⟩)
  replace hm := ifN h10 hm
  refine jp (qh [_, _] 1 isAgg25 sizeOf25 Y Y Y Y ?_)
  obtain ⟨t21, h11, hm⟩ := bindO hm
  refine jd [] [] Y Y Y Y Y Y Y call88 (fun w hh => Qc s0 qa0 na0 ca0 qa1 na1 ca1 w (HV.callee (S0 := []) (vs0 := []) hh (roR hh 0 Y (roR hh 1 Y roN))) hna0 hqa0 hla0 hna1 hqa1 hla1 h11) (fun l_3 h12 => ?_)
  have h13 := h12
  refine jT (S' := [_, _]) (vs' := [_]) [0, 1] [0] 0 Y Y Y Y ?_
  obtain ⟨t22, h14, hm⟩ := bindO hm
  refine jd [] [] Y Y Y Y Y Y Y call87 (fun w hh => Q9 t21 (qA l_3.q) l_3.n l_3.cap w (HV.callee (S0 := []) (vs0 := []) hh (roC (hh.vsepA 0 Y h13) roN)) (vlen RSp h13 Y) (AOK.q (vne h13)) (h13).hle h14) (fun l_4 h15 => ?_)
  refine jc Y Y Y (fun _ _ => kV Y) (jm Y Y (jo ?_))
  refine jq Y (fun h16 => ?_) (fun h16 => ?_)
  ·replace hm := ifT (h16) hm
   refine jp (jm Y Y (jo (jw (jz (jf ?_)))))
   obtain rfl := sj hm
   refine jn Y (fun w hh => (.tmp Y .nil)) (fun w hh => ⟨(), rfl, trivial, hh.se [] [] 2 Y Y Y rfl⟩)
  replace hm := ifN h16 hm
  refine jp (jM 0 runUnderlying25 Y sizeOf22 Y Y (jS 1 isAgg22 Y Y Y Y (jc Y Y Y (fun _ _ => jR (u := #[]) (u' := #[_]) Y Y) ?_)))
  obtain ⟨t28, h17, hm⟩ := bindO hm
  refine jd [] [] Y Y Y Y Y Y Y call89 (fun w hh => QN s0.strips s0 qa0 na0 ca0 b_1 qa0 na0 ca0 qa1 na1 ca1 w (HV.callee (S0 := []) (vs0 := []) hh (roR hh 0 Y (roC (bsep (hh.bseg 0 Y)) (roR hh 0 Y (roR hh 1 Y roN))))) hna0 hqa0 hla0 hna0 hqa0 hla0 hna1 hqa1 hla1 h17) (fun l_5 h18 => ?_)
  refine jc Y Y Y (fun _ _ => kV Y) (jm Y Y (jo ?_))
  refine jq Y (fun h19 => ?_) (fun h19 => ?_)
  ·replace hm := ifT (h19) hm
   refine jp (jm Y Y (jo (jw (jz (jf ?_)))))
   obtain rfl := sj hm
   refine jn Y (fun w hh => (.tmp Y .nil)) (fun w hh => ⟨(), rfl, trivial, hh.se [] [] 2 Y Y Y rfl⟩)
  replace hm := ifN h19 hm
  refine jp (qh [_, _] 1 isAgg25 sizeOf25 Y Y Y Y ?_)
  obtain ⟨t32, h20, hm⟩ := bindO hm
  refine jd [] [] Y Y Y Y Y Y Y call88 (fun w hh => Qc s0 qa0 na0 ca0 qa1 na1 ca1 w (HV.callee (S0 := []) (vs0 := []) hh (roR hh 0 Y (roR hh 1 Y roN))) hna0 hqa0 hla0 hna1 hqa1 hla1 h20) (fun l_6 h21 => ?_)
  have h22 := h21
  refine jT (S' := [_, _]) (vs' := [_, _]) [0, 1] [0, 1] 0 Y Y Y Y ?_
  obtain ⟨t33, h23, hm⟩ := bindO hm
  refine jd [] [] Y Y Y Y Y Y Y call87 (fun w hh => QW t32 (qA l_6.q) l_6.n l_6.cap w (HV.callee (S0 := []) (vs0 := []) hh (roC (hh.vsepA 0 Y h22) roN)) (vlen RSp h22 Y) (AOK.q (vne h22)) (h22).hle h23) (fun l_7 h24 => ?_)
  refine jc Y Y Y (fun _ _ => kV Y) (jm Y Y (jo ?_))
  refine jq Y (fun h25 => ?_) (fun h25 => ?_)
  ·replace hm := ifT (h25) hm
   refine jp (jm Y Y (jo (jw (jz (jf ?_)))))
   obtain rfl := sj hm
   refine jn Y (fun w hh => (.tmp Y .nil)) (fun w hh => ⟨(), rfl, trivial, hh.se [] [] 2 Y Y Y rfl⟩)
  replace hm := ifN h25 hm
  refine jp (jM 0 runUnderlying25 Y sizeOf22 Y Y (jS 1 isAgg22 Y Y Y Y ?_))
  obtain ⟨t38, h26, hm⟩ := bindO hm
  refine jd [] [] Y Y Y Y Y Y Y call89 (fun w hh => Qf s0.strips qa0 na0 ca0 w (HV.callee (S0 := []) (vs0 := []) hh (roR hh 0 Y roN)) hna0 hqa0 hla0 h26) (fun l_8 h27 => ?_)
  refine jc Y Y Y (fun _ _ => kV Y) (jm Y Y (jo ?_))
  refine jq Y (fun h28 => ?_) (fun h28 => ?_)
  ·replace hm := ifT (h28) hm
   refine jp (jm Y Y (jo (jw (jz (jf ?_)))))
   obtain rfl := sj hm
   refine jn Y (fun w hh => (.tmp Y .nil)) (fun w hh => ⟨(), rfl, trivial, hh.se [] [] 2 Y Y Y rfl⟩)
  replace hm := ifN h28 hm
  refine jt (js (ja (jp (jm Y Y (jo (jw ?_))))))
  obtain rfl := sj hm
  refine jn Y (fun w hh => (.tmp Y .nil)) (fun w hh => ⟨(), rfl, trivial, hh.se [] [] 2 Y Y Y rfl⟩)
def qg (s0 : Scalps) (n1 : Int) : Option Bool :=
 (subc (s0.strips.length : Int) 1).bind fun t9 =>
 (Qy n1 0 t9).bind fun t10 =>
 some t10
theorem Qb (s0 : Scalps) (n1 : Int) (qa0 : Option Addr) (na0 ca0 : Nat) (qa1 : Option Addr) (na1 ca1 : Nat) (w : World) (hw : HV w (keys [] []) [] [] [(aB qa0, aO qa0, RSt.enc s0.strips), (aB qa1, aO qa1, RSp.enc s0.carried)] w) (hna0 : s0.strips.length = na0) (hqa0 : AOK na0 qa0) (hla0 : na0 ≤ ca0) (hna1 : s0.carried.length = na1) (hqa1 : AOK na1 qa1) (hla1 : na1 ≤ ca1) {res : Bool} (hm : qg s0 n1 = some res) :
    Calls Tryz.prog 67 #[.agg #[.slice qa0 na0 ca0, .slice qa1 na1 ca1], .int .i64 n1] w (fun en w' => ∃ l : Unit, en = .returned (.bool res) ∧ (True) ∧ HV w (keys [] []) [] [] [] w') := by
  unfold qg at hm
  refine kj func67 Y ntmps67 Y (e := [(0, _), (1, _)]) Y hw (jp ?_)
  refine jK Y Y (fun b h1 => ?_)
  refine jm Y Y (j3 (je Y Y (jM 0 runUnderlying25 Y sizeOf22 Y Y (jS 0 isAgg22 Y Y Y Y (jc Y Y Y (fun w _ => jB hna0 (runUnderlying22 w) Y) ?_)))))
  obtain ⟨t9, h2, hm⟩ := bindO hm
  refine jc Y Y Y (fun _ _ => qp h2 Y Y) ?_
  obtain ⟨t10, h3, hm⟩ := bindO hm
  refine jd [] [] Y Y Y Y Y Y Y call62 (fun w hh => YS n1 0 t9 w (HV.callee (S0 := []) (vs0 := []) hh roN)  h3) (fun l h4 => ?_)
  refine jm Y Y (jo (jw ?_))
  obtain rfl := sj hm
  refine jn Y (fun w hh => (.tmp Y .nil)) (fun w hh => ⟨(), rfl, trivial, hh.se [] [] 2 Y Y Y rfl⟩)
structure zM where
  t21 : Int
  t15 : (List (Pair × Bool))
structure JV where
  k8 : Int
  t15 : (List (Pair × Bool))
def zA (s : zM) (s0 : Scalps) (t24 : Strip) (s_1 : JV) : Option (JV ⊕ (List (Pair × Bool))) :=
 (addc s.t21 1).bind fun t30 =>
 if s_1.k8 ≤ t30 then
 (((qg s0 s_1.k8).bind fun t36 =>
 if t36 = true then
 ((some (aset s_1.t15 (⟨t24.tenant, s_1.k8⟩ : Pair) true)).bind fun t15 =>
 some t15) else
 (some s_1.t15)).bind fun o_2 =>
 (addc s_1.k8 1).bind fun t33 =>
 some (.inl (⟨t33, o_2⟩ : JV))) else
 (some (.inr s_1.t15))
def zR (s0 : Scalps) (s : zM) : Option (zM ⊕ (List (Pair × Bool))) :=
 if s.t21 < (s0.strips.length : Int) then
 ((ix s0.strips s.t21).bind fun t24 =>
 (subc s.t21 1).bind fun t27 =>
 (iterM FU (zA s s0 t24) (⟨t27, s.t15⟩ : JV)).bind fun o_1 =>
 (addc s.t21 1).bind fun t45 =>
 some (.inl (⟨t45, o_1⟩ : zM))) else
 (some (.inr s.t15))
def kP (s0 : Scalps) : Option (Int ⊕ (List (Pair × Bool))) :=
 (KE s0).bind fun t10 =>
 if t10 = 0 then
 ((iterM FU (zR s0) (⟨0, []⟩ : zM)).bind fun o =>
 some (.inr o)) else
 (if ¬ (t10 = 0) then (some (.inl t10)) else none)
theorem qe (s0 : Scalps) (qa0 : Option Addr) (na0 ca0 : Nat) (qa1 : Option Addr) (na1 ca1 : Nat) (w : World) (hw : HV w (keys [] []) [] [] [(aB qa0, aO qa0, RSt.enc s0.strips), (aB qa1, aO qa1, RSp.enc s0.carried)] w) (hna0 : s0.strips.length = na0) (hqa0 : AOK na0 qa0) (hla0 : na0 ≤ ca0) (hna1 : s0.carried.length = na1) (hqa1 : AOK na1 qa1) (hla1 : na1 ≤ ca1) {res : (Int ⊕ (List (Pair × Bool)))} (hm : kP s0 = some res) :
    Calls Tryz.prog 57 #[.agg #[.slice qa0 na0 ca0, .slice qa1 na1 ca1]] w (fun en w' => match res with | .inl res_ => (∃ l : Unit, en = .returned (.tuple #[.pointer none, .int .i64 res_]) ∧ (¬ (res_ = 0)) ∧ HV w (keys [] []) [] [] [] w') | .inr res_ => (∃ l : Nat × Nat, en = .returned (.tuple #[ptr l.1 0, .int .i64 0]) ∧ (True) ∧ HV w (keys [] []) [kc l.1 #[.slice qa0 na0 ca0, .slice qa1 na1 ca1, .map (some l.2)] 144, (l.2, gobj (kR RPr) kB res_)] [] [] w')) := by
  unfold kP at hm
  refine kj func57 Y ntmps57 Y (e := [(0, _)]) Y hw (jp ?_)
  refine jK Y Y (fun b h1 => ?_)
  refine jm Y Y (jm Y Y (jo (jk (jp (qh [_, _] 0 isAgg25 sizeOf25 Y Y Y Y ?_)))))
  obtain ⟨t10, h2, hm⟩ := bindO hm
  refine jd [] [] Y Y Y Y Y Y Y call32 (fun w hh => ZR s0 qa0 na0 ca0 qa1 na1 ca1 w (HV.callee (S0 := []) (vs0 := []) hh (roR hh 0 Y (roR hh 1 Y roN))) hna0 hqa0 hla0 hna1 hqa1 hla1 h2) (fun l h3 => ?_)
  refine jm Y Y (j3 (je Y Y (jc Y Y Y (fun _ _ => k5 Y Y) (jo ?_))))
  refine jq Y (fun h4 => ?_) (fun h4 => ?_)
  ·replace hm := ifF (of_ndec_true h4) hm
   refine jp (je Y Y (jm Y Y (jm Y Y (jo (jw (jf ?_))))))
   obtain ⟨h5, hm⟩ := ifO hm
   obtain rfl := sj hm
   refine jn Y (fun w hh => (.tmp Y (.tmp Y .nil))) (fun w hh => ⟨(), rfl, h5, hh.se [] [] 2 Y Y Y rfl⟩)
  replace hm := ifT (of_ndec_false h4) hm
  refine jt (ja (jp (qh [_, _] 0 isAgg25 sizeOf25 Y Y Y Y ?_)))
  refine ja0 (kR RPr) kB Y (fun b_1 h6 => ?_)
  refine jc Y Y Y (fun _ _ => jG (vs := [(0, _), (1, _)]) (cells := [_, _, _]) Y Y) ?_
  refine jK Y Y (fun b_2 h7 => ?_)
  refine jm Y Y (jo (jk (jp (jM 0 runUnderlying25 Y sizeOf22 Y Y (jS 2 isAgg22 Y Y Y Y (jc Y Y Y (fun w _ => jB hna0 (runUnderlying22 w) Y) (je Y Y ?_)))))))
  refine jo ?_
  obtain ⟨o, h8, h9⟩ := bindO hm
  refine jD (ι := Unit) (fun l_1 => True) (fun l_1 => [(5, ptr b_2 0)]) (fun l_1 => [kc b_2 #[.slice qa0 na0 ca0, .slice qa1 na1 ca1, .map (some b_1)] 144, (b_1, gobj (kR RPr) kB o), kc b #[.slice qa0 na0 ca0, .slice qa1 na1 ca1] 25]) (fun l_1 => []) ?_ ?_
  ·replace hm := h8
   refine jl ?_
   refine jF (ι := Unit) hm (fun s l_2 => True) (fun s l_2 => [(1, ptr b 0), (5, ptr b_2 0), (19, .slice qa0 na0 ca0), (20, .int .i64 (s0.strips.length : Int)), (21, .int .i64 s.t21)]) (fun s l_2 => [kc b_2 #[.slice qa0 na0 ca0, .slice qa1 na1 ca1, .map (some b_1)] 144, (b_1, gobj (kR RPr) kB s.t15), kc b #[.slice qa0 na0 ca0, .slice qa1 na1 ca1] 25]) (fun s l_2 => []) () (trivial) (sE Y) (fun w hh => hh) (fun s l_2 r hpl hm h10 => ?_)
   unfold zR at hm
   refine jp (q8 Y Y Y (jo (jk ?_)))
   refine jq Y (fun h11 => ?_) (fun h11 => ?_)
   ·replace hm := ifD h11 hm
    refine jt (ja (jk (jl (jp (je Y Y ?_)))))
    obtain ⟨t24, h12, hm⟩ := bindO hm
    refine jc Y Y Y (fun w _ => jY h12 (runUnderlying22 w) (sizeOf85 w) Y Y hna0 hqa0) ?_
    refine jc Y Y Y (fun w hh => kz RSt 0 [.int .i64 t24.tenant, .int .i64 t24.lay.lo, .int .i64 t24.lay.hi, .int .i64 t24.seeded.lo, .int .i64 t24.seeded.hi, .int .i64 t24.left.lo, .int .i64 t24.left.hi] h12 (isAgg85 w) (sizeOf85 w) Y (hh.seg 0 Y) Y (Nat.add_zero _).symm) ?_
    refine ju (fun w => zeroValue85 w) Y (fun b_3 h13 => ?_)
    refine jm Y Y (jE (us := #[_, _, _, _, _, _, _]) (cs' := [_, _, _, _, _, _, _]) (S' := [_, _, _, _]) 0 (fun w => sizeOf85 w) Y Y Y Y Y Y Y (j3 (je Y Y ?_)))
    obtain ⟨t27, h14, hm⟩ := bindO hm
    refine jc Y Y Y (fun _ _ => qp h14 Y Y) (jm Y Y (jo ?_))
    obtain ⟨o_1, h15, h16⟩ := bindO hm
    refine jD (ι := Unit) (fun l_3 => True) (fun l_3 => [(1, ptr b 0), (5, ptr b_2 0), (19, .slice qa0 na0 ca0), (20, .int .i64 (s0.strips.length : Int)), (21, .int .i64 s.t21)]) (fun l_3 => [kc b_3 #[.int .i64 t24.tenant, .int .i64 t24.lay.lo, .int .i64 t24.lay.hi, .int .i64 t24.seeded.lo, .int .i64 t24.seeded.hi, .int .i64 t24.left.lo, .int .i64 t24.left.hi] 85, kc b_2 #[.slice qa0 na0 ca0, .slice qa1 na1 ca1, .map (some b_1)] 144, (b_1, gobj (kR RPr) kB o_1), kc b #[.slice qa0 na0 ca0, .slice qa1 na1 ca1] 25]) (fun l_3 => []) ?_ ?_
    ·replace hm := h15
     refine jl ?_
     refine jF (ι := Unit) hm (fun s_1 l_4 => True) (fun s_1 l_4 => [(1, ptr b 0), (5, ptr b_2 0), (6, .int .i64 s.t21), (7, ptr b_3 0), (8, .int .i64 s_1.k8), (19, .slice qa0 na0 ca0), (20, .int .i64 (s0.strips.length : Int)), (21, .int .i64 s.t21)]) (fun s_1 l_4 => [kc b_3 #[.int .i64 t24.tenant, .int .i64 t24.lay.lo, .int .i64 t24.lay.hi, .int .i64 t24.seeded.lo, .int .i64 t24.seeded.hi, .int .i64 t24.left.lo, .int .i64 t24.left.hi] 85, kc b_2 #[.slice qa0 na0 ca0, .slice qa1 na1 ca1, .map (some b_1)] 144, (b_1, gobj (kR RPr) kB s_1.t15), kc b #[.slice qa0 na0 ca0, .slice qa1 na1 ca1] 25]) (fun s_1 l_4 => []) () (trivial) (sE Y) (fun w hh => hh) (fun s_1 l_4 r_1 hpl hm h17 => ?_)
     unfold zA at hm
     refine jk (jp (je Y Y (je Y Y ?_)))
     obtain ⟨t30, h18, hm⟩ := bindO hm
     refine kS h18 Y Y Y (jc Y Y Y (fun _ _ => ZC Y Y) (jo ?_))
     refine jq Y (fun h19 => ?_) (fun h19 => ?_)
     ·replace hm := ifD h19 hm
      refine jt (ja (jk ?_))
      obtain ⟨o_2, h20, h21⟩ := bindO hm
      refine jD (ι := Unit) (fun l_5 => True) (fun l_5 => [(1, ptr b 0), (5, ptr b_2 0), (6, .int .i64 s.t21), (7, ptr b_3 0), (8, .int .i64 s_1.k8), (19, .slice qa0 na0 ca0), (20, .int .i64 (s0.strips.length : Int)), (21, .int .i64 s.t21)]) (fun l_5 => [kc b_3 #[.int .i64 t24.tenant, .int .i64 t24.lay.lo, .int .i64 t24.lay.hi, .int .i64 t24.seeded.lo, .int .i64 t24.seeded.hi, .int .i64 t24.left.lo, .int .i64 t24.left.hi] 85, kc b_2 #[.slice qa0 na0 ca0, .slice qa1 na1 ca1, .map (some b_1)] 144, (b_1, gobj (kR RPr) kB o_2), kc b #[.slice qa0 na0 ca0, .slice qa1 na1 ca1] 25]) (fun l_5 => []) ?_ ?_
      ·replace hm := h20
       refine jl (jp (qh [_, _] 3 isAgg25 sizeOf25 Y Y Y Y (je Y Y ?_)))
       obtain ⟨t36, h22, hm⟩ := bindO hm
       refine jd [] [] Y Y Y Y Y Y Y call67 (fun w hh => Qb s0 s_1.k8 qa0 na0 ca0 qa1 na1 ca1 w (HV.callee (S0 := []) (vs0 := []) hh (roR hh 0 Y (roR hh 1 Y roN))) hna0 hqa0 hla0 hna1 hqa1 hla1 h22) (fun l_6 h23 => ?_)
       refine jo ?_
       refine jq Y (fun h24 => ?_) (fun h24 => ?_)
       ·replace hm := ifT (h24) hm
        refine jV none (.free 0 (.free 1 (.free 2 (.hoist 3 (.free 4 (.hoist 5 (.free 6 (.free 7 (.one 8 .done))))))))) (HV _ _ [kc b_3 #[.int .i64 t24.tenant, .int .i64 t24.lay.lo, .int .i64 t24.lay.hi, .int .i64 t24.seeded.lo, .int .i64 t24.seeded.hi, .int .i64 t24.left.lo, .int .i64 t24.left.hi] 85, kc b_2 #[.slice qa0 na0 ca0, .slice qa1 na1 ca1, .map (some b_1)] 144, kc b #[.slice qa0 na0 ca0, .slice qa1 na1 ca1] 25] [] _) Y (by decide +kernel) (fun w k hh => hh.draw k) (hsE [0, 1, 3] [] 0 Y Y Y Y) ?_
        refine kb Y Y Y (ji Y Y Y Y (fun _ _ => jN Y) (kF 2 runUnderlying144 sizeOf142 Y Y Y Y (qs 1 isAgg142 Y Y Y Y Y (kF 0 runUnderlying85 sizeOf3 Y Y Y Y (qs 0 isAgg3 Y Y Y Y Y (kb Y Y Y (ji Y Y Y Y (fun _ _ => jG (vs := [(0, _), (1, _)]) (cells := [_, _]) Y Y) ?_)))))))
        refine jJ Y ?_
        obtain ⟨t15, ht15, hm⟩ := bindO hm
        refine jaZ (k := (⟨t24.tenant, s_1.k8⟩ : Pair)) (v := true) 2 (fun w => runUnderlying142 w) Zm Y Y Y Y (Option.some.inj ht15) Y (jr (hsE [0, 1, 3] [] 0 Y Y Y Y) (jI (js ?_)))
        obtain rfl := sj hm
        exact jg () (trivial) (sE Y) (fun w hh => hh)
       replace hm := ifN h24 hm
       refine jt (js ?_)
       obtain rfl := sj hm
       exact jg () (trivial) (sE Y) (fun w hh => hh)
      intro l_5 hj
      replace hm := h21
      refine ja (jh (je Y Y ?_))
      obtain ⟨t33, h25, hm⟩ := bindO hm
      refine kS h25 Y Y Y (jm Y Y (jv ?_))
      obtain rfl := sj hm
      refine ja ?_
      exact jy _ () Y (trivial) (sE Y) (fun w hh => hh)
     replace hm := ifE h19 hm
     refine jO (jj (jj (jC ?_)))
     obtain rfl := sj hm
     have hbo := h17 _ Y
     subst hbo
     exact jg () (trivial) (sE Y) (fun w hh => hh)
    intro l_3 hj
    replace hm := h16
    refine js (ja (jh ?_))
    obtain ⟨t45, h26, hm⟩ := bindO hm
    refine kS h26 Y Y Y (je Y Y (jv ?_))
    obtain rfl := sj hm
    refine ja ?_
    exact jy _ () Y (trivial) (sE Y) (hsE [1, 2, 3] [] 0 Y Y Y Y)
   replace hm := ifE h11 hm
   refine jO (jj (jj (jC ?_)))
   obtain rfl := sj hm
   have hbo := h10 _ Y
   subst hbo
   exact jg () (trivial) (sE Y) (fun w hh => hh)
  intro l_1 hj
  replace hm := h9
  refine ja (jp (je Y Y (jm Y Y (jm Y Y (jo (jw ?_))))))
  obtain rfl := sj hm
  refine jn Y (fun w hh => (.tmp Y (.tmp Y .nil))) (fun w hh => ⟨(b_2, b_1), rfl, trivial, hh.se [0, 1] [] 2 Y Y Y rfl⟩)
def Zy (holds0_f00 : (List Strip)) (holds0_f01 : (List Span)) : Option Unit :=
 some ()
theorem jaW (holds0_f00 : (List Strip)) (holds0_f01 : (List Span)) (rb : Nat) (qa1 : Option Addr) (na1 ca1 : Nat) (qa2 : Option Addr) (na2 ca2 : Nat) (mv : Value) (w : World) (hw : HV w (keys [] []) [] [] [(rb, 0, [.slice qa1 na1 ca1, .slice qa2 na2 ca2, mv]), (aB qa1, aO qa1, RSt.enc holds0_f00), (aB qa2, aO qa2, RSp.enc holds0_f01)] w)  (hna1 : holds0_f00.length = na1) (hqa1 : AOK na1 qa1) (hla1 : na1 ≤ ca1) (hna2 : holds0_f01.length = na2) (hqa2 : AOK na2 qa2) (hla2 : na2 ≤ ca2) {res : Unit} (hm : Zy holds0_f00 holds0_f01 = some res) :
    Calls Tryz.prog 80 #[.func (.func 83) #[ptr rb 0] #[]] w (fun en w' => ∃ l : Nat, en = .returned (.agg #[.func (.func 120) #[] #[ptr l 0]]) ∧ (True) ∧ HV w (keys [] []) [kc l #[.func (.func 83) #[ptr rb 0] #[]] 135] [] [] w') := by
  unfold Zy at hm
  refine kj func80 Y ntmps80 Y (e := [(0, _)]) Y hw (jp ?_)
  refine jK Y Y (fun b h1 => ?_)
  refine ju (fun w => zeroValue115 w) Y (fun b_1 h2 => ?_)
  refine j3 (jc Y Y Y (fun _ _ => jR (u := #[]) (u' := #[_]) Y Y) (jc Y Y Y (fun _ _ => jG (vs := [(0, _)]) (cells := [_]) Y Y) (jE (us := #[_]) (cs' := [_]) (S' := [_, _]) 0 (fun w => sizeOf115 w) Y Y Y Y Y Y Y (jo (jw ?_)))))
  obtain rfl := sj hm
  refine jn Y (fun w hh => (.cell Y (loadVar_agg (vs := [_]) (isAgg115 _) (sizeOf115 _) (hh.cells 0 Y Y)) .nil)) (fun w hh => ⟨b, rfl, trivial, hh.se [1] [] 3 Y Y Y rfl⟩)
def Ka (d00 : (List Strip)) (d01 : (List Span)) : Option Unit :=
 (Zy d00 d01).bind fun t5 =>
 some ()
theorem Q5 (d00 : (List Strip)) (d01 : (List Span)) (rb : Nat) (qa1 : Option Addr) (na1 ca1 : Nat) (qa2 : Option Addr) (na2 ca2 : Nat) (mv : Value) (w : World) (hw : HV w (keys [] []) [] [] [(rb, 0, [.slice qa1 na1 ca1, .slice qa2 na2 ca2, mv]), (aB qa1, aO qa1, RSt.enc d00), (aB qa2, aO qa2, RSp.enc d01)] w)  (hna1 : d00.length = na1) (hqa1 : AOK na1 qa1) (hla1 : na1 ≤ ca1) (hna2 : d01.length = na2) (hqa2 : AOK na2 qa2) (hla2 : na2 ≤ ca2) {res : Unit} (hm : Ka d00 d01 = some res) :
    Calls Tryz.prog 59 #[ptr rb 0] w (fun en w' => ∃ l : Nat, en = .returned (.agg #[.func (.func 120) #[] #[ptr l 0]]) ∧ (True) ∧ HV w (keys [] []) [kc l #[.func (.func 83) #[ptr rb 0] #[]] 135] [] [] w') := by
  unfold Ka at hm
  refine kj func59 Y ntmps59 Y (e := [(0, _)]) Y hw (jp ?_)
  refine ju (fun w => zeroValue115 w) Y (fun b h1 => ?_)
  refine j3 (je Y Y (jc Y Y Y (fun _ _ => jR (u := #[_]) (u' := #[]) Y Y) ?_))
  obtain ⟨t5, h2, hm⟩ := bindO hm
  refine jd [] [] Y Y Y Y Y Y Y call80 (fun w hh => jaW d00 d01 rb qa1 na1 ca1 qa2 na2 ca2 mv w (HV.callee (S0 := []) (vs0 := []) hh (roR hh 0 Y (roR hh 1 Y (roR hh 2 Y roN)))) hna1 hqa1 hla1 hna2 hqa2 hla2 h2) (fun l h3 => ?_)
  refine jT (S' := [_, _]) (vs' := []) [0, 1] [] 0 Y Y Y Y (jE (us := #[_]) (cs' := [_]) (S' := [_, _]) 1 (fun w => sizeOf115 w) Y Y Y Y Y Y Y (jo (jw ?_)))
  obtain rfl := sj hm
  refine jn Y (fun w hh => (.cell Y (loadVar_agg (vs := [_]) (isAgg115 _) (sizeOf115 _) (hh.cells 1 Y Y)) .nil)) (fun w hh => ⟨l, rfl, trivial, hh.se [0] [] 3 Y Y Y rfl⟩)
def J5 (d00 : (List Strip)) (d01 : (List Span)) (p1 : Pair) : Option Bool :=
 (ix d00 p1.strip).bind fun t12 =>
 some (!decide (t12.tenant = p1.tenant))
theorem Ze (d00 : (List Strip)) (d01 : (List Span)) (p1 : Pair) (rb : Nat) (qa1 : Option Addr) (na1 ca1 : Nat) (qa2 : Option Addr) (na2 ca2 : Nat) (mv : Value) (w : World) (hw : HV w (keys [] []) [] [] [(rb, 0, [.slice qa1 na1 ca1, .slice qa2 na2 ca2, mv]), (aB qa1, aO qa1, RSt.enc d00), (aB qa2, aO qa2, RSp.enc d01)] w)  (hna1 : d00.length = na1) (hqa1 : AOK na1 qa1) (hla1 : na1 ≤ ca1) (hna2 : d01.length = na2) (hqa2 : AOK na2 qa2) (hla2 : na2 ≤ ca2) {res : Bool} (hm : J5 d00 d01 p1 = some res) :
    Calls Tryz.prog 83 #[ptr rb 0, .agg #[.int .i64 p1.tenant, .int .i64 p1.strip]] w (fun en w' => ∃ l : Unit, en = .returned (.bool res) ∧ (True) ∧ HV w (keys [] []) [] [] [] w') := by
  unfold J5 at hm
  refine kj func83 Y ntmps83 Y (e := [(0, _), (1, _)]) Y hw (jp ?_)
  refine jK Y Y (fun b h1 => ?_)
  refine jm Y Y (jo (jk ?_))
  refine jV none (.free 0 (.free 1 (.free 2 (.free 3 (.hoist 4 (.free 5 (.hoist 6 (.free 7 (.free 8 (.hoist 9 (.free 10 (.hoist 11 (.free 12 (.free 13 .done)))))))))))))) _ Y (by decide +kernel) (fun w k hh => hh.draw k) (fun w hh => hh) ?_
  refine kb Y Y Y (ji Y Y Y Y (fun _ _ => jN Y) (kF 0 runUnderlying144 sizeOf25 Y Y Y Y (kF 0 runUnderlying25 sizeOf22 Y Y Y Y (jA Y Y Y Y (fun w hh => j0 (isAgg22 w) Y (segCell (hh.seg 0 Y) 0 Y)) (kF 1 runUnderlying126 sizeOf3 Y Y Y Y (qs 0 isAgg3 Y Y Y Y Y ?_))))))
  obtain ⟨t12, h2, hm⟩ := bindO hm
  refine ji Y Y Y Y (fun w _ => jY h2 (runUnderlying22 w) (sizeOf85 w) Y Y hna1 hqa1) (kF 0 runUnderlying85 sizeOf3 Y Y Y Y (jA Y Y Y Y (fun w hh => jW RSt 0 h2 (isAgg3 w) Y (hh.seg 1 Y) Y Y) (kF 0 runUnderlying126 sizeOf3 Y Y Y Y (qs 0 isAgg3 Y Y Y Y Y (ji Y Y Y Y (fun _ _ => k5 Y Y) (ji Y Y Y Y (fun _ _ => jQ Y) (jI ?_)))))))
  refine ja (jw ?_)
  obtain rfl := sj hm
  refine jn Y (fun w hh => (.tmp Y .nil)) (fun w hh => ⟨(), rfl, trivial, hh.se [] [] 3 Y Y Y rfl⟩)
def jU (p0 : Pair) (a11_f00 : (List Strip)) (a11_f01 : (List Span)) : Option Int :=
 (J5 a11_f00 a11_f01 p0).bind fun t6 =>
 if t6 = true then
 (some 1) else
 (some 0)
theorem z6 (p0 : Pair) (a11_f00 : (List Strip)) (a11_f01 : (List Span)) (rb : Nat) (rb_1 : Nat) (qa2 : Option Addr) (na2 ca2 : Nat) (qa3 : Option Addr) (na3 ca3 : Nat) (mv : Value) (w : World) (hw : HV w (keys [] []) [] [] [(rb, 0, [.func (.func 83) #[ptr rb_1 0] #[]]), (rb_1, 0, [.slice qa2 na2 ca2, .slice qa3 na3 ca3, mv]), (aB qa2, aO qa2, RSt.enc a11_f00), (aB qa3, aO qa3, RSp.enc a11_f01)] w)   (hna2 : a11_f00.length = na2) (hqa2 : AOK na2 qa2) (hla2 : na2 ≤ ca2) (hna3 : a11_f01.length = na3) (hqa3 : AOK na3 qa3) (hla3 : na3 ≤ ca3) {res : Int} (hm : jU p0 a11_f00 a11_f01 = some res) :
    Calls Tryz.prog 120 #[.agg #[.int .i64 p0.tenant, .int .i64 p0.strip], ptr rb 0] w (fun en w' => ∃ l : Unit, en = .returned (.int .i64 res) ∧ (True) ∧ HV w (keys [] []) [] [] [] w') := by
  unfold jU at hm
  refine kj func120 Y ntmps120 Y (e := [(0, _), (1, _)]) Y hw (jp ?_)
  refine jK Y Y (fun b h1 => ?_)
  refine jm Y Y (jo (jk (jp (jc Y Y Y (fun w hh => j0 (isAgg135 w) Y (segCell (hh.seg 0 Y) 0 Y)) (qh [_, _] 0 isAgg126 sizeOf126 Y Y Y Y ?_)))))
  obtain ⟨t6, h2, hm⟩ := bindO hm
  refine jd [] [] Y Y Y Y Y Y Y call83 (fun w hh => Ze a11_f00 a11_f01 p0 rb_1 qa2 na2 ca2 qa3 na3 ca3 mv w (HV.callee (S0 := []) (vs0 := []) hh (roR hh 1 Y (roR hh 2 Y (roR hh 3 Y roN)))) hna2 hqa2 hla2 hna3 hqa3 hla3 h2) (fun l h3 => ?_)
  refine jo ?_
  refine jq Y (fun h4 => ?_) (fun h4 => ?_)
  ·replace hm := ifT (h4) hm
   refine jp (jm Y Y (jo (jw (jf ?_))))
   obtain rfl := sj hm
   refine jn Y (fun w hh => (.tmp Y .nil)) (fun w hh => ⟨(), rfl, trivial, hh.se [] [] 4 Y Y Y rfl⟩)
  replace hm := ifN h4 hm
  refine jt (ja (jp (jm Y Y (jo (jw ?_)))))
  obtain rfl := sj hm
  refine jn Y (fun w hh => (.tmp Y .nil)) (fun w hh => ⟨(), rfl, trivial, hh.se [] [] 4 Y Y Y rfl⟩)
def J2 (d00 : (List Strip)) (d01 : (List Span)) (tenant1 : Int) : Option Int :=
 some tenant1
theorem Zi (d00 : (List Strip)) (d01 : (List Span)) (tenant1 : Int) (rb : Nat) (qa1 : Option Addr) (na1 ca1 : Nat) (qa2 : Option Addr) (na2 ca2 : Nat) (mv : Value) (w : World) (hw : HV w (keys [] []) [] [] [(rb, 0, [.slice qa1 na1 ca1, .slice qa2 na2 ca2, mv]), (aB qa1, aO qa1, RSt.enc d00), (aB qa2, aO qa2, RSp.enc d01)] w)  (hna1 : d00.length = na1) (hqa1 : AOK na1 qa1) (hla1 : na1 ≤ ca1) (hna2 : d01.length = na2) (hqa2 : AOK na2 qa2) (hla2 : na2 ≤ ca2) {res : Int} (hm : J2 d00 d01 tenant1 = some res) :
    Calls Tryz.prog 64 #[ptr rb 0, .int .i64 tenant1] w (fun en w' => ∃ l : Nat × Nat, en = .returned (.func (.func 112) #[] #[ptr l.1 0, ptr l.2 0]) ∧ (True) ∧ HV w (keys [] []) [kc l.1 #[ptr rb 0] 107, kc l.2 #[.int .i64 res] 3] [] [] w') := by
  unfold J2 at hm
  refine kj func64 Y ntmps64 Y (e := [(0, _), (1, _)]) Y hw (jp ?_)
  refine jK Y Y (fun b h1 => ?_)
  refine jK Y Y (fun b_1 h2 => ?_)
  refine jm Y Y (j3 (jc Y Y Y (fun _ _ => jR (u := #[]) (u' := #[_, _]) Y Y) (jm Y Y (jo (jw ?_)))))
  obtain rfl := sj hm
  refine jn Y (fun w hh => (.tmp Y .nil)) (fun w hh => ⟨(b, b_1), rfl, trivial, hh.se [1, 0] [] 3 Y Y Y rfl⟩)
structure Js where
  t19 : Int
  t12 : (List Wy)
def yf (d00 : (List Strip)) (s : Js) : Option (Js ⊕ (List Wy)) :=
 if s.t19 < (d00.length : Int) then
 ((ix d00 s.t19).bind fun t22 =>
 (addc 1 s.t19).bind fun t30 =>
 (j4 (⟨t22.tenant, (⟨t22.lay.lo, t22.lay.hi⟩ : Span), (⟨t22.seeded.lo, t22.seeded.hi⟩ : Span), (⟨t22.left.lo, t22.left.hi⟩ : Span)⟩ : Strip)).bind fun t32 =>
 (j4 (⟨t22.tenant, (⟨t22.lay.lo, t22.lay.hi⟩ : Span), (⟨t22.seeded.lo, t22.seeded.hi⟩ : Span), (⟨t22.left.lo, t22.left.hi⟩ : Span)⟩ : Strip)).bind fun t35 =>
 (appc 48 s.t12 [(⟨0, t30, t32.lo, t35.hi, 0, 0⟩ : Wy)]).bind fun t39 =>
 (addc s.t19 1).bind fun t42 =>
 some (.inl (⟨t42, t39⟩ : Js))) else
 (some (.inr s.t12))
structure y7 where
  t49 : Int
  t12 : (List Wy)
def y9 (s_1 : y7) (c1_0 : (Pair → Option Int)) (x : Int) (s_2 : (List Wy)) : Option (List Wy) :=
 (addc 1 x).bind fun t64 =>
 (addc 7 s_1.t49).bind fun t66 =>
 (c1_0 (⟨s_1.t49, x⟩ : Pair)).bind fun t72 =>
 (appc 48 s_2 [(⟨t64, t66, 0, 1000000, t72, 0⟩ : Wy)]).bind fun t75 =>
 some t75
def yd (d01 : (List Span)) (d00 : (List Strip)) (c1_0 : (Pair → Option Int)) (d02 : (List (Pair × Bool))) (s_1 : y7) : Option (y7 ⊕ (List Wy)) :=
 if s_1.t49 < (d01.length : Int) then
 ((ix d01 s_1.t49).bind fun t52 =>
 (J2 d00 d01 s_1.t49).bind fun t56 =>
 if (d00.length : Int) ≤ 1000000 then ((iterL (y9 s_1 c1_0) (reachL d00.length d02 t56) s_1.t12).bind fun o_2 =>
 (addc 7 s_1.t49).bind fun t84 =>
 (appc 48 o_2 [(⟨t84, 0, t52.lo, t52.hi, 0, 0⟩ : Wy)]).bind fun t91 =>
 (addc s_1.t49 1).bind fun t94 =>
 some (.inl (⟨t94, t91⟩ : y7))) else none) else
 (some (.inr s_1.t12))
def J9 (d00 : (List Strip)) (d01 : (List Span)) (d02 : (List (Pair × Bool))) (c1_0 : (Pair → Option Int)) : Option (List Wy) :=
 (iterM FU (yf d00) (⟨0, []⟩ : Js)).bind fun o =>
 (iterM FU (yd d01 d00 c1_0 d02) (⟨0, o⟩ : y7)).bind fun o_1 =>
 some o_1
theorem ZW (d00 : (List Strip)) (d01 : (List Span)) (d02 : (List (Pair × Bool))) (c1_0 : (Pair → Option Int)) (rb : Nat) (qa1 : Option Addr) (na1 ca1 : Nat) (qa2 : Option Addr) (na2 ca2 : Nat) (pb : Nat) (f_c1_0 : FuncId) (fs_c1_0 cs_c1_0 : Array Value) (T_c1_0 : List Sg) (w : World) (hw : HV w (keys [(pb, gobj (kR RPr) kB d02)] []) [(pb, gobj (kR RPr) kB d02)] [] ([(rb, 0, [.slice qa1 na1 ca1, .slice qa2 na2 ca2, .map (some pb)]), (aB qa1, aO qa1, RSt.enc d00), (aB qa2, aO qa2, RSp.enc d01)] ++ T_c1_0) w)  (hna1 : d00.length = na1) (hqa1 : AOK na1 qa1) (hla1 : na1 ≤ ca1) (hna2 : d01.length = na2) (hqa2 : AOK na2 qa2) (hla2 : na2 ≤ ca2) (hcl_c1_0 : ClOK Tryz.prog f_c1_0 fs_c1_0 cs_c1_0 T_c1_0 (fun x : Pair => [.agg #[.int .i64 x.tenant, .int .i64 x.strip]]) (fun x : Int => .int .i64 x) c1_0) {res : (List Wy)} (hm : J9 d00 d01 d02 c1_0 = some res) :
    Calls Tryz.prog 103 #[ptr rb 0, .agg #[.func (.func f_c1_0) fs_c1_0 cs_c1_0]] w (fun en w' => ∃ l : Nat × VL, en = .returned (ptr l.1 0) ∧ (VOK 6 l.2.n l.2.cap (RWay.enc res) l.2.sp l.2.q) ∧ HV w (keys [(pb, gobj (kR RPr) kB d02)] []) [(pb, gobj (kR RPr) kB d02), kc l.1 #[sL l.2] 154] [vL 156 l.2 (RWay.enc res)] [] w') := by
  unfold J9 at hm
  refine jaf (args := [ptr rb 0, .agg #[.func (.func f_c1_0) fs_c1_0 cs_c1_0]]) func103 Y ntmps103 Y (e := [(0, _), (1, _)]) Y (H := HV w (keys [(pb, gobj (kR RPr) kB d02)] []) [(pb, gobj (kR RPr) kB d02)] [] ([(rb, 0, [.slice qa1 na1 ca1, .slice qa2 na2 ca2, .map (some pb)]), (aB qa1, aO qa1, RSt.enc d00), (aB qa2, aO qa2, RSp.enc d01)] ++ T_c1_0)) hw ?_
  refine ZH (jp ?_)
  refine jK Y Y (fun b h2 => ?_)
  refine jm Y Y (j3 (jc Y Y Y (fun _ _ => jG (vs := []) (cells := [_]) Y Y) ?_))
  refine jK Y Y (fun b_1 h3 => ?_)
  refine ju (fun w => zeroValue110 w) Y (fun b_2 h4 => ?_)
  refine y4 (cs' := #[_]) (S' := [_, _, _, _]) 0 (fun w => sizeOf110 w) Y Y Y Y Y Y Y (jo (jk (jp (je Y Y (jc Y Y Y (fun _ _ => jN Y) (jM 0 runUnderlying144 Y sizeOf25 Y Y (jM 0 runUnderlying25 Y sizeOf22 Y Y ?_)))))))
  refine jc Y Y Y (fun w hh => j0 (isAgg22 w) Y (segCell (hh.seg 0 Y) 0 Y)) (jc Y Y Y (fun w _ => jB hna1 (runUnderlying22 w) Y) (je Y Y (jo (kp 156 ?_))))
  obtain ⟨o, h5, h6⟩ := bindO hm
  refine Zc (ι := VL) (fun l => mks []) (fun l => VOK 6 l.n l.cap (RWay.enc o) l.sp l.q) (fun l => [(0, ptr rb 0), (3, ptr b 0), (5, ptr b_2 0)]) (fun l => [kc b_2 #[ptr b_1 0] 110, kc b_1 #[sL l] 154, kc b #[.func (.func f_c1_0) fs_c1_0 cs_c1_0] 115, (pb, gobj (kR RPr) kB d02)]) (fun l => [vL 156 l (RWay.enc o), mkV []]) ?_ ?_
  ·replace hm := h5
   refine jl ?_
   refine YF (ι := VL) hm (fun s l_1 => mks []) (fun s l_1 => VOK 6 l_1.n l_1.cap (RWay.enc s.t12) l_1.sp l_1.q) (fun s l_1 => [(0, ptr rb 0), (3, ptr b 0), (5, ptr b_2 0), (17, .slice qa1 na1 ca1), (18, .int .i64 (d00.length : Int)), (19, .int .i64 s.t19)]) (fun s l_1 => [kc b_2 #[ptr b_1 0] 110, kc b_1 #[sL l_1] 154, kc b #[.func (.func f_c1_0) fs_c1_0 cs_c1_0] 115, (pb, gobj (kR RPr) kB d02)]) (fun s l_1 => [vL 156 l_1 (RWay.enc s.t12), mkV []]) ⟨none, 0, 0, []⟩ Y (VOK.nil) (sE Y) (fun w hh => hh) (fun s l_1 r hpl hm h9 => ?_)
   have h8 := hpl
   unfold yf at hm
   refine jp (q8 Y Y Y (jo (jk ?_)))
   refine jq Y (fun h10 => ?_) (fun h10 => ?_)
   ·replace hm := ifD h10 hm
    refine jt (ja (jk (jl (jp (je Y Y ?_)))))
    obtain ⟨t22, h11, hm⟩ := bindO hm
    refine jc Y Y Y (fun w _ => jY h11 (runUnderlying22 w) (sizeOf85 w) Y Y hna1 hqa1) ?_
    refine jc Y Y Y (fun w hh => kz RSt 0 [.int .i64 t22.tenant, .int .i64 t22.lay.lo, .int .i64 t22.lay.hi, .int .i64 t22.seeded.lo, .int .i64 t22.seeded.hi, .int .i64 t22.left.lo, .int .i64 t22.left.hi] h11 (isAgg85 w) (sizeOf85 w) Y (hh.seg 1 Y) Y (Nat.add_zero _).symm) ?_
    refine ju (fun w => zeroValue85 w) Y (fun b_3 h12 => ?_)
    refine jm Y Y (jE (us := #[_, _, _, _, _, _, _]) (cs' := [_, _, _, _, _, _, _]) (S' := [_, _, _, _, _]) 0 (fun w => sizeOf85 w) Y Y Y Y Y Y Y (jo ?_))
    refine jV (some 18) (.hoist 0 (.hoist 1 (.free 2 (.free 3 (.hoist 4 (.free 5 (.free 6 (.hoist 7 (.hoist 10 (.one 8 (.free 9 (.one 11 (.free 12 (.free 13 (.one 14 (.one 15 (.free 16 (.free 17 (.last 18 .done))))))))))))))))))) (HV _ _ [kc b_3 #[.int .i64 t22.tenant, .int .i64 t22.lay.lo, .int .i64 t22.lay.hi, .int .i64 t22.seeded.lo, .int .i64 t22.seeded.hi, .int .i64 t22.left.lo, .int .i64 t22.left.hi] 85, kc b_2 #[ptr b_1 0] 110, kc b_1 #[sL l_1] 154, kc b #[.func (.func f_c1_0) fs_c1_0 cs_c1_0] 115, (pb, gobj (kR RPr) kB d02)] [mkV []] _) Y (by decide +kernel) (fun w k hh => hh.draw k) (hsE [0, 1, 2, 3, 4] [1] 0 Y Y Y Y) ?_
    refine qs 1 isAgg110 Y Y Y Y Y (qs 1 isAgg110 Y Y Y Y Y (ji Y Y Y Y (fun _ _ => jN Y) (kF 0 runUnderlying154 sizeOf152 Y Y Y Y (qs 2 isAgg152 Y Y Y Y Y (kb Y Y Y ?_)))))
    obtain ⟨t30, h13, hm⟩ := bindO hm
    refine ji Y Y Y Y (fun _ _ => zD h13 Y Y) (jA Y Y Y Y (fun w hh => kn (vs := [_, _, _, _, _, _, _]) (isAgg85 w) (sizeOf85 w) Y (hh.cells 0 Y Y)) (jA Y Y Y Y (fun w hh => kn (vs := [_, _, _, _, _, _, _]) (isAgg85 w) (sizeOf85 w) Y (hh.cells 0 Y Y)) (jJ Y ?_)))
    obtain ⟨t32, h14, hm⟩ := bindO hm
    refine jd [] [] Y Y Y Y Y Y Y call66 (fun w hh => ye (⟨t22.tenant, (⟨t22.lay.lo, t22.lay.hi⟩ : Span), (⟨t22.seeded.lo, t22.seeded.hi⟩ : Span), (⟨t22.left.lo, t22.left.hi⟩ : Span)⟩ : Strip) w (HV.callee (S0 := []) (vs0 := []) hh roN)  h14) (fun l_2 h15 => ?_)
    refine jr (hsE [0, 1, 2, 3, 4] [1] 0 Y Y Y Y) (ji Y Y Y Y (fun w _ => YL 3 0 (runUnderlying32 w) Y (isAgg3 w) Y Y) (jJ Y ?_))
    obtain ⟨t35, h16, hm⟩ := bindO hm
    refine jd [] [] Y Y Y Y Y Y Y call66 (fun w hh => ye (⟨t22.tenant, (⟨t22.lay.lo, t22.lay.hi⟩ : Span), (⟨t22.seeded.lo, t22.seeded.hi⟩ : Span), (⟨t22.left.lo, t22.left.hi⟩ : Span)⟩ : Strip) w (HV.callee (S0 := []) (vs0 := []) hh roN)  h16) (fun l_3 h17 => ?_)
    refine jr (hsE [0, 1, 2, 3, 4] [1] 0 Y Y Y Y) (ji Y Y Y Y (fun w _ => YL 3 1 (runUnderlying32 w) Y (isAgg3 w) Y Y) (ji Y Y Y Y (fun _ _ => jG (vs := [(0, _), (1, _), (2, _), (3, _)]) (cells := [_, _, _, _, _, _]) Y Y) (jJ Y ?_)))
    refine kU RWay [(⟨0, t30, t32.lo, t35.hi, 0, 0⟩ : Wy)] (ps := [(0, _)]) (cells := [_, _, _, _, _, _]) (fun w => runUnderlying152 w) (fun w => sizeOf156 w) (fun w => zeroValue156 w) Y Y Y Y Y Y Y Y (fun L h18 => ?_)
    refine jr (hsE [0, 1, 2, 3, 4] [2] 0 Y Y Y Y) (jJ Y ?_)
    obtain ⟨t39, h19, hm⟩ := bindO hm
    refine yS RWay 1 h19 underlying152 Zt Y Y Y Y Y h8 Y Y (vlen RWay h18 Y) (AOK.q (vne h18)) (fun w hh => (hh.vsegA 0 Y h18)) Y (fun L_1 h20 h20n => ?_)
    refine jT (S' := [_, _, _, _, _]) (vs' := [_, _, _]) [0, 1, 2, 3, 4] [0, 1, 2] 0 Y Y Y Y (jr (hsE [0, 1, 2, 3, 4] [2] 0 Y Y Y Y) (ji Y Y Y Y (fun _ _ => jN Y) (kF 0 runUnderlying154 sizeOf152 Y Y Y Y (Qn Y (y4 (cs' := #[_]) (S' := [_, _, _, _, _]) 2 (fun w => sizeOf152 w) Y Y Y Y Y Y Y (Kb (jI ?_)))))))
    refine js (ja (jh ?_))
    obtain ⟨t42, h21, hm⟩ := bindO hm
    refine kS h21 Y Y Y (je Y Y (jv ?_))
    obtain rfl := sj hm
    refine ja ?_
    exact QZ _ L_1 Y Y (h20) (sE Y) (hsE [1, 2, 3, 4] [1, 2] 0 Y Y Y Y)
   replace hm := ifE h10 hm
   refine jO (jj (jj (jC ?_)))
   obtain rfl := sj hm
   have hbo := h9 _ Y
   subst hbo
   exact Qk l_1 Y (h8) (sE Y) (fun w hh => hh)
  intro l hj
  have h7 := hj
  replace hm := h6
  refine ja (jk (jp (je Y Y (jc Y Y Y (fun _ _ => jN Y) (jM 0 runUnderlying144 Y sizeOf25 Y Y (jM 1 runUnderlying25 Y sizeOf23 Y Y (jc Y Y Y (fun w hh => j0 (isAgg23 w) Y (segCell (hh.seg 0 Y) 1 Y)) ?_)))))))
  refine jc Y Y Y (fun w _ => jB hna2 (runUnderlying23 w) Y) (je Y Y (jo ?_))
  obtain ⟨o_1, h22, h23⟩ := bindO hm
  refine Zc (ι := VL × List Nat) (fun l_4 => mks l_4.2) (fun l_4 => VOK 6 l_4.1.n l_4.1.cap (RWay.enc o_1) l_4.1.sp l_4.1.q) (fun l_4 => [(5, ptr b_2 0)]) (fun l_4 => [kc b_2 #[ptr b_1 0] 110, kc b_1 #[sL l_4.1] 154, kc b #[.func (.func f_c1_0) fs_c1_0 cs_c1_0] 115, (pb, gobj (kR RPr) kB d02)]) (fun l_4 => [vL 156 l_4.1 (RWay.enc o_1), mkV l_4.2]) ?_ ?_
  ·replace hm := h22
   refine jl ?_
   refine YF (ι := VL × List Nat) hm (fun s_1 l_5 => mks l_5.2) (fun s_1 l_5 => VOK 6 l_5.1.n l_5.1.cap (RWay.enc s_1.t12) l_5.1.sp l_5.1.q) (fun s_1 l_5 => [(0, ptr rb 0), (3, ptr b 0), (5, ptr b_2 0), (47, .slice qa2 na2 ca2), (48, .int .i64 (d01.length : Int)), (49, .int .i64 s_1.t49)]) (fun s_1 l_5 => [kc b_2 #[ptr b_1 0] 110, kc b_1 #[sL l_5.1] 154, kc b #[.func (.func f_c1_0) fs_c1_0 cs_c1_0] 115, (pb, gobj (kR RPr) kB d02)]) (fun s_1 l_5 => [vL 156 l_5.1 (RWay.enc s_1.t12), mkV l_5.2]) (l, []) Y (h7) (sE Y) (fun w hh => hh) (fun s_1 l_5 r_1 hpl hm h26 => ?_)
   have h25 := hpl
   unfold yd at hm
   refine jp (q8 Y Y Y (jo (jk ?_)))
   refine jq Y (fun h27 => ?_) (fun h27 => ?_)
   ·replace hm := ifD h27 hm
    refine jt (ja (jk (jl (jp (je Y Y ?_)))))
    obtain ⟨t52, h28, hm⟩ := bindO hm
    refine jc Y Y Y (fun w _ => jY h28 (runUnderlying23 w) (sizeOf32 w) Y Y hna2 hqa2) ?_
    refine jc Y Y Y (fun w hh => kz RSp 0 [.int .i64 t52.lo, .int .i64 t52.hi] h28 (isAgg32 w) (sizeOf32 w) Y (hh.seg 2 Y) Y (Nat.add_zero _).symm) ?_
    refine ju (fun w => zeroValue3 w) Y (fun b_4 h29 => ?_)
    refine ju (fun w => zeroValue32 w) Y (fun b_5 h30 => ?_)
    refine y4 (cs' := #[_]) (S' := [_, _, _, _, _, _]) 1 (fun w => sizeOf3 w) Y Y Y Y Y Y Y (jE (us := #[_, _]) (cs' := [_, _]) (S' := [_, _, _, _, _, _]) 0 (fun w => sizeOf32 w) Y Y Y Y Y Y Y (jo (jk (jp (je Y Y (jS 1 isAgg3 Y Y Y Y ?_))))))
    obtain ⟨t56, h31, hm⟩ := bindO hm
    refine jd [] [] Y Y Y Y Y Y Y call64 (fun w hh => Zi d00 d01 s_1.t49 rb qa1 na1 ca1 qa2 na2 ca2 (.map (some pb)) w (HV.callee (S0 := []) (vs0 := []) hh (roR hh 0 Y (roR hh 1 Y (roR hh 2 Y roN)))) hna1 hqa1 hla1 hna2 hqa2 hla2 h31) (fun l_6 h32 => ?_)
    refine jT (S' := [_, _, _, _, _, _, _, _]) (vs' := [_, _]) [0, 1, 2, 3, 4, 5, 6, 7] [0, 1] 0 Y Y Y Y (jo (jl ?_))
    obtain ⟨h33, hm⟩ := ifO hm
    refine jat (e' := [(0, ptr rb 0), (3, ptr b 0), (5, ptr b_2 0), (8, ptr b_4 0), (9, ptr b_5 0), (47, .slice qa2 na2 ca2), (48, .int .i64 (d01.length : Int)), (49, .int .i64 s_1.t49), (56, .func (.func 112) #[] #[ptr l_6.1 0, ptr l_6.2 0])]) (sE Y) ?_
    obtain ⟨o_2, h34, hm⟩ := bindO hm
    refine jaL (ι := VL) (reachL d00.length d02 t56) (fun x => .int .i64 x) h34 (fun s_2 l_7 => VOK 6 l_7.n l_7.cap (RWay.enc s_2) l_7.sp l_7.q) (fun s_2 l_7 => [kc l_6.1 #[ptr rb 0] 107, kc l_6.2 #[.int .i64 t56] 3, kc b_5 #[.int .i64 t52.lo, .int .i64 t52.hi] 32, kc b_4 #[.int .i64 s_1.t49] 3, kc b_2 #[ptr b_1 0] 110, kc b_1 #[sL l_7] 154, kc b #[.func (.func f_c1_0) fs_c1_0 cs_c1_0] 115, (pb, gobj (kR RPr) kB d02)]) (fun s_2 l_7 => [vL 156 l_7 (RWay.enc s_2), mkV l_5.2]) l_5.1 (h25) (fun w hh => hh) (RdReach l_6.1 l_6.2 rb pb t56 qa1 na1 ca1 d02) (fun s_2 l_7 w h35 hh => ⟨hh.cell 0 Y rfl, hh.cell 1 Y rfl, segCell (hh.seg 0 Y) 0 rfl, segCell (hh.seg 0 Y) 2 rfl, hh.get 7 rfl⟩) (it_reach _ _ _ l_6.1 l_6.2 rb pb t56 qa1 na1 ca1 d00 d02 hna1 h33) Y call112 Y (e1 := fun x => (10, .int .i64 x) :: (57, .int .i64 x) :: [(0, ptr rb 0), (3, ptr b 0), (5, ptr b_2 0), (8, ptr b_4 0), (9, ptr b_5 0), (47, .slice qa2 na2 ca2), (48, .int .i64 (d01.length : Int)), (49, .int .i64 s_1.t49), (56, .func (.func 112) #[] #[ptr l_6.1 0, ptr l_6.2 0])]) (fun x lr H X hX => ?_) (fun x s_2 r_2 l_7 lr w1 h35 hm => ?_) (fun l_7 D h35 => ?_)
    ·refine jh ?_
     refine jm Y Y (jo ?_)
     exact hX
    ·have h36 := h35
     unfold y9 at hm
     refine jl ?_
     refine jV (some 20) (.hoist 0 (.hoist 1 (.free 2 (.free 3 (.hoist 4 (.free 5 (.free 6 (.hoist 7 (.free 8 (.free 9 (.hoist 10 (.hoist 11 (.free 12 (.free 13 (.one 14 (.free 15 (.one 16 (.one 17 (.free 18 (.free 19 (.last 20 .done))))))))))))))))))))) (HV _ _ [kc l_6.1 #[ptr rb 0] 107, kc l_6.2 #[.int .i64 t56] 3, kc b_5 #[.int .i64 t52.lo, .int .i64 t52.hi] 32, kc b_4 #[.int .i64 s_1.t49] 3, kc b_2 #[ptr b_1 0] 110, kc b_1 #[sL l_7] 154, kc b #[.func (.func f_c1_0) fs_c1_0 cs_c1_0] 115, (pb, gobj (kR RPr) kB d02)] [mkV l_5.2] _) Y (by decide +kernel) (fun w k hh => hh.draw k) (hsE [0, 1, 2, 3, 4, 5, 6, 7] [1] 0 Y Y Y Y) ?_
     refine qs 4 isAgg110 Y Y Y Y Y (qs 4 isAgg110 Y Y Y Y Y (ji Y Y Y Y (fun _ _ => jN Y) (kF 0 runUnderlying154 sizeOf152 Y Y Y Y (qs 5 isAgg152 Y Y Y Y Y (kb Y Y Y ?_)))))
     obtain ⟨t64, h39, hm⟩ := bindO hm
     refine ji Y Y Y Y (fun _ _ => zD h39 Y Y) (qs 3 isAgg3 Y Y Y Y Y ?_)
     obtain ⟨t66, h40, hm⟩ := bindO hm
     refine ji Y Y Y Y (fun _ _ => zD h40 Y Y) (kF 0 runUnderlying115 sizeOf113 Y Y Y Y (qs 6 isAgg113 Y Y Y Y Y (qs 3 isAgg3 Y Y Y Y Y (kb Y Y Y (ji Y Y Y Y (fun _ _ => jG (vs := [(0, _), (1, _)]) (cells := [_, _]) Y Y) (jJ Y ?_))))))
     obtain ⟨t72, h41, hm⟩ := bindO hm
     refine Zq hcl_c1_0 (fun t ht => (List.mem_cons_of_mem _ (List.mem_cons_of_mem _ (List.mem_cons_of_mem _ ht)))) h41 Y Y Y Y Y Y (jr (hsE [0, 1, 2, 3, 4, 5, 6, 7] [1] 0 Y Y Y Y) (ji Y Y Y Y (fun _ _ => jG (vs := [(0, _), (1, _), (3, _), (4, _)]) (cells := [_, _, _, _, _, _]) Y Y) (jJ Y ?_)))
     refine kU RWay [(⟨t64, t66, 0, 1000000, t72, 0⟩ : Wy)] (ps := [(0, _)]) (cells := [_, _, _, _, _, _]) (fun w => runUnderlying152 w) (fun w => sizeOf156 w) (fun w => zeroValue156 w) Y Y Y Y Y Y Y Y (fun L_2 h42 => ?_)
     refine jr (hsE [0, 1, 2, 3, 4, 5, 6, 7] [2] 0 Y Y Y Y) (jJ Y ?_)
     obtain ⟨t75, h43, hm⟩ := bindO hm
     refine yS RWay 1 h43 underlying152 Zt Y Y Y Y Y h36 Y Y (vlen RWay h42 Y) (AOK.q (vne h42)) (fun w hh => (hh.vsegA 0 Y h42)) Y (fun L_3 h44 h44n => ?_)
     refine jT (S' := [_, _, _, _, _, _, _, _]) (vs' := [_, _, _]) [0, 1, 2, 3, 4, 5, 6, 7] [0, 1, 2] 0 Y Y Y Y (jr (hsE [0, 1, 2, 3, 4, 5, 6, 7] [2] 0 Y Y Y Y) (ji Y Y Y Y (fun _ _ => jN Y) (kF 0 runUnderlying154 sizeOf152 Y Y Y Y (Qn Y (y4 (cs' := #[_]) (S' := [_, _, _, _, _, _, _, _]) 5 (fun w => sizeOf152 w) Y Y Y Y Y Y Y (Kb (jI ?_)))))))
     refine js ?_
     obtain rfl := sj hm
     exact jbo t75 L_3 Y (h44) (fun w hh => hh.selN [0, 1, 2, 3, 4, 5, 6, 7] [1, 2] (by decide) (by decide) Y Y)
    have h45 := h35
    refine ZB 1 Y Y (js (ja ?_))
    refine jV (some 16) (.hoist 0 (.hoist 1 (.free 2 (.free 3 (.hoist 4 (.hoist 5 (.free 6 (.free 7 (.hoist 8 (.free 9 (.hoist 10 (.free 11 (.one 12 (.one 13 (.free 14 (.free 15 (.last 16 .done))))))))))))))))) (HV _ _ [kc l_6.1 #[ptr rb 0] 107, kc l_6.2 #[.int .i64 t56] 3, kc b_5 #[.int .i64 t52.lo, .int .i64 t52.hi] 32, kc b_4 #[.int .i64 s_1.t49] 3, kc b_2 #[ptr b_1 0] 110, kc b_1 #[sL l_7] 154, kc b #[.func (.func f_c1_0) fs_c1_0 cs_c1_0] 115, (pb, gobj (kR RPr) kB d02)] [mkV (D :: l_5.2)] _) Y (by decide +kernel) (fun w k hh => hh.draw k) (hsE [0, 1, 2, 3, 4, 5, 6, 7] [1] 0 Y Y Y Y) ?_
    refine qs 4 isAgg110 Y Y Y Y Y (qs 4 isAgg110 Y Y Y Y Y (ji Y Y Y Y (fun _ _ => jN Y) (kF 0 runUnderlying154 sizeOf152 Y Y Y Y (qs 5 isAgg152 Y Y Y Y Y (qs 3 isAgg3 Y Y Y Y Y ?_)))))
    obtain ⟨t84, h46, hm⟩ := bindO hm
    refine ji Y Y Y Y (fun _ _ => zD h46 Y Y) (kF 0 runUnderlying32 sizeOf3 Y Y Y Y (qs 2 isAgg3 Y Y Y Y Y (kF 1 runUnderlying32 sizeOf3 Y Y Y Y (qs 2 isAgg3 Y Y Y Y Y (ji Y Y Y Y (fun _ _ => jG (vs := [(0, _), (1, _), (2, _), (3, _)]) (cells := [_, _, _, _, _, _]) Y Y) (jJ Y ?_))))))
    refine kU RWay [(⟨t84, 0, t52.lo, t52.hi, 0, 0⟩ : Wy)] (ps := [(0, _)]) (cells := [_, _, _, _, _, _]) (fun w => runUnderlying152 w) (fun w => sizeOf156 w) (fun w => zeroValue156 w) Y Y Y Y Y Y Y Y (fun L_4 h47 => ?_)
    refine jr (hsE [0, 1, 2, 3, 4, 5, 6, 7] [2] 0 Y Y Y Y) (jJ Y ?_)
    obtain ⟨t91, h48, hm⟩ := bindO hm
    refine yS RWay 1 h48 underlying152 Zt Y Y Y Y Y h45 Y Y (vlen RWay h47 Y) (AOK.q (vne h47)) (fun w hh => (hh.vsegA 0 Y h47)) Y (fun L_5 h49 h49n => ?_)
    refine jT (S' := [_, _, _, _, _, _, _, _]) (vs' := [_, _, _]) [0, 1, 2, 3, 4, 5, 6, 7] [0, 1, 2] 0 Y Y Y Y (jr (hsE [0, 1, 2, 3, 4, 5, 6, 7] [2] 0 Y Y Y Y) (ji Y Y Y Y (fun _ _ => jN Y) (kF 0 runUnderlying154 sizeOf152 Y Y Y Y (Qn Y (y4 (cs' := #[_]) (S' := [_, _, _, _, _, _, _, _]) 5 (fun w => sizeOf152 w) Y Y Y Y Y Y Y (Kb (jI ?_)))))))
    refine js (ja (jh ?_))
    obtain ⟨t94, h50, hm⟩ := bindO hm
    refine kS h50 Y Y Y (je Y Y (jv ?_))
    obtain rfl := sj hm
    refine ja ?_
    exact QZ _ (L_5, (D :: l_5.2)) Y Y (h49) (sE Y) (hsE [4, 5, 6, 7] [1, 2] 0 Y Y Y Y)
   replace hm := ifE h27 hm
   refine jO (jj (jj (jC ?_)))
   obtain rfl := sj hm
   have hbo := h26 _ Y
   subst hbo
   exact Qk (l_5.1, l_5.2) Y (h25) (sE Y) (fun w hh => hh)
  intro l_4 hj
  have h24 := hj
  replace hm := h23
  refine ja (jp (jS 0 isAgg110 Y Y Y Y (jm Y Y (jo (jw ?_)))))
  obtain rfl := sj hm
  refine QJ Y Y Y (fun w hh => (.tmp Y .nil)) (fun w hh => ⟨(b_1, l_4.1), rfl, h24, hh.selN [3, 1] [0] (by decide) (by decide) Y rfl⟩)
structure Kn where
  n0 : Int
  t9 : Int
def zu (l1 : (List Int)) (s : Kn) : Option (Kn ⊕ Int) :=
 if s.t9 < (l1.length : Int) then
 ((ix l1 s.t9).bind fun t11 =>
 (addc s.t9 1).bind fun t16 =>
 some (.inl (⟨(min s.n0 t11), t16⟩ : Kn))) else
 (some (.inr s.n0))
def JH (n0 : Int) (l1 : (List Int)) : Option Int :=
 (iterM FU (zu l1) (⟨n0, 0⟩ : Kn)).bind fun o =>
 some o
theorem KK (n0 : Int) (l1 : (List Int)) (qa0 : Option Addr) (na0 ca0 : Nat) (w : World) (hw : HV w (keys [] []) [] [] [(aB qa0, aO qa0, RI.enc l1)] w) (hna0 : l1.length = na0) (hqa0 : AOK na0 qa0) (hla0 : na0 ≤ ca0) {res : Int} (hm : JH n0 l1 = some res) :
    Calls Tryz.prog 74 #[.int .i64 n0, .slice qa0 na0 ca0] w (fun en w' => ∃ l : Unit, en = .returned (.int .i64 res) ∧ (True) ∧ HV w (keys [] []) [] [] [] w') := by
  unfold JH at hm
  refine kj func74 Y ntmps74 Y (e := [(0, _), (1, _)]) Y hw (jp (jm Y Y (jo (jk (jp (je Y Y (jc Y Y Y (fun w _ => jB hna0 (runUnderlying26 w) Y) ?_)))))))
  refine je Y Y (jo ?_)
  obtain ⟨o, h1, h2⟩ := bindO hm
  refine jD (ι := Unit) (fun l => True) (fun l => [(0, .int .i64 o)]) (fun l => []) (fun l => []) ?_ ?_
  ·replace hm := h1
   refine jl ?_
   refine jF (ι := Unit) hm (fun s l_1 => True) (fun s l_1 => [(0, .int .i64 s.n0), (7, .slice qa0 na0 ca0), (8, .int .i64 (l1.length : Int)), (9, .int .i64 s.t9)]) (fun s l_1 => []) (fun s l_1 => []) () (trivial) (sE Y) (fun w hh => hh) (fun s l_1 r hpl hm h3 => ?_)
   unfold zu at hm
   refine jp (q8 Y Y Y (jo (jk ?_)))
   refine jq Y (fun h4 => ?_) (fun h4 => ?_)
   ·replace hm := ifD h4 hm
    refine jt (ja (jk (jl (jp ?_))))
    obtain ⟨t11, h5, hm⟩ := bindO hm
    refine jc Y Y Y (fun w _ => jY h5 (runUnderlying26 w) (sizeOf3 w) Y Y hna0 hqa0) (jc Y Y Y (fun w hh => jW RI 0 h5 (isAgg3 w) Y (hh.seg 0 Y) Y (Nat.add_zero _).symm) (jm Y Y (jo (jh (je Y Y (je Y Y (jc Y Y Y (fun _ _ => Z7 Y Y) ?_)))))))
    refine jm Y Y (jv (js (ja (jh ?_))))
    obtain ⟨t16, h6, hm⟩ := bindO hm
    refine kS h6 Y Y Y (je Y Y (jv ?_))
    obtain rfl := sj hm
    refine ja ?_
    exact jy _ () Y (trivial) (sE Y) (fun w hh => hh)
   replace hm := ifE h4 hm
   refine jO (jj (jj (jC ?_)))
   obtain rfl := sj hm
   have hbo := h3 _ Y
   subst hbo
   exact jg () (trivial) (sE Y) (fun w hh => hh)
  intro l hj
  replace hm := h2
  refine ja (jp (je Y Y (jm Y Y (jo (jw ?_)))))
  obtain rfl := sj hm
  refine jn Y (fun w hh => (.tmp Y .nil)) (fun w hh => ⟨(), rfl, trivial, hh.se [] [] 1 Y Y Y rfl⟩)
end Go.Proofs.Ws

namespace Go.Proofs.Ws
set_option maxHeartbeats 4000000
set_option maxRecDepth 100000
open Go Go.Fw Go.Gx Go.Sp
open Tryz
set_option linter.unusedVariables false
structure K0 where
  r0 : Int
  r1 : Int
  r2 : Int
  r3 : Int
def qq (n00 : (List Wy)) (c1 : Change) : Option K0 :=
 (ix n00 c1.way).bind fun t15 =>
 if c1.more = true then
 ((subc t15.hi t15.goes).bind fun t29 =>
 some (⟨t15.fr, t15.dst, t15.cost, t29⟩ : K0)) else
 ((negc t15.cost).bind fun t36 =>
 (JH t15.lo [t15.goes]).bind fun t44 =>
 (subc t15.goes t44).bind fun t45 =>
 some (⟨t15.dst, t15.fr, t36, t45⟩ : K0))
theorem Kg (n00 : (List Wy)) (c1 : Change) (rb : Nat) (qa1 : Option Addr) (na1 ca1 : Nat) (w : World) (hw : HV w (keys [] []) [] [] [(rb, 0, [.slice qa1 na1 ca1]), (aB qa1, aO qa1, RWay.enc n00)] w)  (hna1 : n00.length = na1) (hqa1 : AOK na1 qa1) (hla1 : na1 ≤ ca1) {res : K0} (hm : qq n00 c1 = some res) :
    Calls Tryz.prog 130 #[ptr rb 0, .agg #[.int .i64 c1.way, .bool c1.more]] w (fun en w' => ∃ l : Unit, en = .returned (.tuple #[.int .i64 res.r0, .int .i64 res.r1, .int .i64 res.r2, .int .i64 res.r3]) ∧ (True) ∧ HV w (keys [] []) [] [] [] w') := by
  unfold qq at hm
  refine kj func130 Y ntmps130 Y (e := [(0, _), (1, _)]) Y hw (jp ?_)
  refine jK Y Y (fun b h1 => ?_)
  refine jm Y Y (jm Y Y (jm Y Y (jm Y Y (jo (jk ?_)))))
  refine jV none (.free 0 (.free 1 (.free 2 (.hoist 3 (.free 4 (.hoist 5 (.free 6 (.hoist 7 (.one 8 (.one 9 .done)))))))))) _ Y (by decide +kernel) (fun w k hh => hh.draw k) (fun w hh => hh) ?_
  refine kb Y Y Y (ji Y Y Y Y (fun _ _ => jN Y) (kF 0 runUnderlying154 sizeOf152 Y Y Y Y (jA Y Y Y Y (fun w hh => j0 (isAgg152 w) Y (segCell (hh.seg 0 Y) 0 Y)) (kF 0 runUnderlying164 sizeOf3 Y Y Y Y (qs 0 isAgg3 Y Y Y Y Y ?_)))))
  obtain ⟨t15, h2, hm⟩ := bindO hm
  refine ji Y Y Y Y (fun w _ => jY h2 (runUnderlying152 w) (sizeOf156 w) Y Y hna1 hqa1) ?_
  refine jA Y Y Y Y (fun w hh => kz RWay 0 [.int .i64 t15.fr, .int .i64 t15.dst, .int .i64 t15.lo, .int .i64 t15.hi, .int .i64 t15.cost, .int .i64 t15.goes] h2 (isAgg156 w) (sizeOf156 w) Y (hh.seg 1 Y) Y (Nat.add_zero _).symm) ?_
  refine jJ Y ?_
  refine ju (fun w => zeroValue156 w) Y (fun b_1 h3 => ?_)
  refine jr (hsE [1] [] 0 Y Y Y Y) (jJ Y (jE (us := #[_, _, _, _, _, _]) (cs' := [_, _, _, _, _, _]) (S' := [_, _]) 0 (fun w => sizeOf156 w) Y Y Y Y Y Y Y (jr (hsE [1] [] 0 Y Y Y Y) (jI (ja (jk (jp ?_)))))))
  refine jM 1 runUnderlying164 Y sizeOf4 Y Y (jS 1 isAgg4 Y Y Y Y (jo ?_))
  refine jq Y (fun h4 => ?_) (fun h4 => ?_)
  ·replace hm := ifT (h4) hm
   refine jk ?_
   refine jV none (.free 0 (.hoist 1 (.free 2 (.hoist 3 (.free 4 (.hoist 5 (.free 6 (.hoist 7 (.free 8 (.hoist 9 (.free 10 (.free 11 (.free 12 (.free 13 (.free 14 .done))))))))))))))) _ Y (by decide +kernel) (fun w k hh => hh.draw k) (fun w hh => hh) ?_
   refine kF 0 runUnderlying156 sizeOf3 Y Y Y Y (qs 0 isAgg3 Y Y Y Y Y (kF 1 runUnderlying156 sizeOf3 Y Y Y Y (qs 0 isAgg3 Y Y Y Y Y (kF 4 runUnderlying156 sizeOf3 Y Y Y Y (qs 0 isAgg3 Y Y Y Y Y (kF 3 runUnderlying156 sizeOf3 Y Y Y Y (qs 0 isAgg3 Y Y Y Y Y ?_)))))))
   refine kF 5 runUnderlying156 sizeOf3 Y Y Y Y (qs 0 isAgg3 Y Y Y Y Y ?_)
   obtain ⟨t29, h5, hm⟩ := bindO hm
   refine ji Y Y Y Y (fun _ _ => qp h5 Y Y) (ji Y Y Y Y (fun _ _ => jQ Y) (ji Y Y Y Y (fun _ _ => jQ Y) (ji Y Y Y Y (fun _ _ => jQ Y) (ji Y Y Y Y (fun _ _ => jQ Y) (jI (ja (jw ?_)))))))
   refine jf ?_
   obtain rfl := sj hm
   refine jn Y (fun w hh => (.tmp Y (.tmp Y (.tmp Y (.tmp Y .nil))))) (fun w hh => ⟨(), rfl, trivial, hh.se [] [] 2 Y Y Y rfl⟩)
  replace hm := ifN h4 hm
  refine jt (ja (jk ?_))
  refine jV none (.free 0 (.hoist 1 (.free 2 (.hoist 3 (.free 4 (.hoist 5 (.free 6 (.free 7 (.hoist 8 (.free 9 (.hoist 10 (.free 11 (.hoist 12 (.one 13 (.one 14 (.free 15 (.free 16 (.free 17 (.free 18 (.free 19 .done)))))))))))))))))))) _ Y (by decide +kernel) (fun w k hh => hh.draw k) (fun w hh => hh) ?_
  refine kF 1 runUnderlying156 sizeOf3 Y Y Y Y (qs 0 isAgg3 Y Y Y Y Y (kF 0 runUnderlying156 sizeOf3 Y Y Y Y (qs 0 isAgg3 Y Y Y Y Y (kF 4 runUnderlying156 sizeOf3 Y Y Y Y (qs 0 isAgg3 Y Y Y Y Y ?_)))))
  obtain ⟨t36, h6, hm⟩ := bindO hm
  refine ji Y Y Y Y (fun _ _ => ZO h6 Y) (kF 5 runUnderlying156 sizeOf3 Y Y Y Y (qs 0 isAgg3 Y Y Y Y Y (kF 2 runUnderlying156 sizeOf3 Y Y Y Y (qs 0 isAgg3 Y Y Y Y Y (kF 5 runUnderlying156 sizeOf3 Y Y Y Y (qs 0 isAgg3 Y Y Y Y Y (jJ Y ?_)))))))
  refine kU RI [t15.goes] (ps := [(0, _)]) (cells := [_]) (fun w => runUnderlying26 w) (fun w => sizeOf3 w) (fun w => zeroValue3 w) Y Y Y Y Y Y Y Y (fun L h7 => ?_)
  refine jr (hsE [0, 1] [] 0 Y Y Y Y) (jJ Y ?_)
  obtain ⟨t44, h8, hm⟩ := bindO hm
  refine jd [] [] Y Y Y Y Y Y Y call74 (fun w hh => KK t15.lo [t15.goes] (qA L.q) L.n L.cap w (HV.callee (S0 := []) (vs0 := []) hh (roC (hh.vsepA 0 Y h7) roN)) (vlen RI h7 Y) (AOK.q (vne h7)) (h7).hle h8) (fun l h9 => ?_)
  refine jr (hsE [0, 1] [] 0 Y Y Y Y) ?_
  obtain ⟨t45, h10, hm⟩ := bindO hm
  refine ji Y Y Y Y (fun _ _ => qp h10 Y Y) (ji Y Y Y Y (fun _ _ => jQ Y) (ji Y Y Y Y (fun _ _ => jQ Y) (ji Y Y Y Y (fun _ _ => jQ Y) (ji Y Y Y Y (fun _ _ => jQ Y) (jI (ja (jw ?_)))))))
  obtain rfl := sj hm
  refine jn Y (fun w hh => (.tmp Y (.tmp Y (.tmp Y (.tmp Y .nil))))) (fun w hh => ⟨(), rfl, trivial, hh.se [] [] 2 Y Y Y rfl⟩)
structure zL where
  a55_0 : (List Bool)
  a66_0 : (List Change)
def yM (c0 : Change) (a1 : Int) (b2 : Int) (cost3 : Int) (room4 : Int) (a550 : (List Bool)) (a660 : (List Change)) : Option zL :=
 ((ix a550 a1).bind fun t13 =>
 if t13 = true then
 ((ix a550 b2).bind fun t17 =>
 some (!t17)) else
 (some false)).bind fun o =>
 if o = true then
 ((ix a550 b2).bind fun t24 =>
 (some (a550.set (Int.toNat b2) true)).bind fun a55 =>
 (ix a660 b2).bind fun t25 =>
 (some (a660.set (Int.toNat b2) c0)).bind fun a66 =>
 some (⟨a55, a66⟩ : zL)) else
 (some (⟨a550, a660⟩ : zL))
theorem Zl (c0 : Change) (a1 : Int) (b2 : Int) (cost3 : Int) (room4 : Int) (a550 : (List Bool)) (a660 : (List Change)) (pb : Nat) (pb_1 : Nat) (w : World) (hw : HV w (keys [(pb, .cells (RB.enc a550).toArray 158 (0, 0)), (pb_1, .cells (RCh.enc a660).toArray 171 (0, 0))] []) [(pb, .cells (RB.enc a550).toArray 158 (0, 0)), (pb_1, .cells (RCh.enc a660).toArray 171 (0, 0))] [] [] w) (hl_a550 : a550.length = 12) (hl_a660 : a660.length = 12) {res : zL} (hm : yM c0 a1 b2 cost3 room4 a550 a660 = some res) :
    Calls Tryz.prog 129 #[.agg #[.int .i64 c0.way, .bool c0.more], .int .i64 a1, .int .i64 b2, .int .i64 cost3, .int .i64 room4, ptr pb 0, ptr pb_1 0] w (fun en w' => ∃ l : Unit, en = .returned (.tuple #[]) ∧ (res.a55_0.length = 12 ∧ res.a66_0.length = 12) ∧ HV w (keys [(pb, .cells (RB.enc a550).toArray 158 (0, 0)), (pb_1, .cells (RCh.enc a660).toArray 171 (0, 0))] []) [(pb, .cells (RB.enc res.a55_0).toArray 158 (0, 0)), (pb_1, .cells (RCh.enc res.a66_0).toArray 171 (0, 0))] [] [] w') := by
  unfold yM at hm
  refine kj func129 Y ntmps129 Y (e := [(0, _), (1, _), (2, _), (3, _), (4, _), (5, _), (6, _)]) Y hw (jp ?_)
  refine jK Y Y (fun b h3 => ?_)
  refine jo (jk ?_)
  obtain ⟨o, h4, h5⟩ := bindO hm
  refine jD (ι := Unit) (fun l => True) (fun l => [(2, .int .i64 b2), (5, ptr pb 0), (6, ptr pb_1 0), (7, ptr b 0), (20, .bool o)]) (fun l => [kc b #[.int .i64 c0.way, .bool c0.more] 164, (pb, .cells (RB.enc a550).toArray 158 (0, 0)), (pb_1, .cells (RCh.enc a660).toArray 171 (0, 0))]) (fun l => []) ?_ ?_
  ·replace hm := h4
   refine jh (je Y Y ?_)
   obtain ⟨t13, h6, hm⟩ := bindO hm
   refine jc Y Y Y (fun w _ => JQ h6 hl_a550 (runUnderlying158 w) (sizeOf4 w) Y Y) (jc Y Y Y (fun w hh => jW RB 0 h6 (isAgg4 w) Y (hh.bsegA 1 Y) Y (Nat.add_zero _).symm) (je Y Y ?_))
   refine jH 15 Y (fun h7 => ?_) (fun h7 => ?_)
   ·replace hm := ifT (h7) hm
    refine jb Y Y (je Y Y (jb Y Y ?_))
    obtain ⟨t17, h8, hm⟩ := bindO hm
    refine jc Y Y Y (fun w _ => JQ h8 hl_a550 (runUnderlying158 w) (sizeOf4 w) Y Y) (jb Y Y (jc Y Y Y (fun w hh => jW RB 0 h8 (isAgg4 w) Y (hh.bsegA 1 Y) Y (Nat.add_zero _).symm) (jb Y Y (jc Y Y Y (fun _ _ => kV Y) (j8 Y Y Y (jv ?_))))))
    obtain rfl := sj hm
    exact jg () (trivial) (sE Y) (fun w hh => hh)
   replace hm := ifN h7 hm
   refine g_k Y Y Y Y (g_k Y Y Y Y (g_k Y Y Y Y (g_k Y Y Y Y (ky Y Y Y (jv ?_)))))
   obtain rfl := sj hm
   exact jg () (trivial) (sE Y) (fun w hh => hh)
  intro l hj
  replace hm := h5
  refine ja ?_
  refine jq Y (fun h9 => ?_) (fun h9 => ?_)
  ·replace hm := ifT (h9) hm
   refine jV none (.free 0 (.free 1 (.hoist 2 (.free 3 (.one 4 (.free 5 (.one 6 .done))))))) (HV _ _ [kc b #[.int .i64 c0.way, .bool c0.more] 164] [] _) Y (by decide +kernel) (fun w k hh => hh.draw k) (hsE [0] [] 0 Y Y Y Y) ?_
   refine kb Y Y Y (kb Y Y Y (jA Y Y Y Y (fun w hh => kn (vs := [_, _]) (isAgg164 w) (sizeOf164 w) Y (hh.cells 0 Y Y)) ?_))
   obtain ⟨t24, h10, hm⟩ := bindO hm
   refine ji Y Y Y Y (fun w _ => JQ h10 hl_a550 (runUnderlying158 w) (sizeOf4 w) Y Y) (jJ Y ?_)
   obtain ⟨a55, ha55, hm⟩ := bindO hm
   refine ja1 RB 1 0 true (S' := [_, _, _]) (fun w => sizeOf4 w) Y Y Y Y hl_a550 (Nat.add_zero _).symm Y h10 Y Y (Option.some.inj ha55) Y (fun h11 => ?_)
   refine jr (hsE [0] [] 0 Y Y Y Y) ?_
   obtain ⟨t25, h12, hm⟩ := bindO hm
   refine ji Y Y Y Y (fun w _ => JQ h12 hl_a660 (runUnderlying171 w) (sizeOf164 w) Y Y) (jJ Y ?_)
   obtain ⟨a66, ha66, hm⟩ := bindO hm
   refine ja7 (us := #[_, _]) RCh 2 c0 (S' := [_, _, _]) (fun w => sizeOf164 w) Y Y Y hl_a660 Y Y h12 Y (Option.some.inj ha66) Y (fun h13 => ?_)
   refine jr (hsE [0] [] 0 Y Y Y Y) (jI ?_)
   obtain rfl := sj hm
   refine JP Y (fun w hh => .nil) (fun w hh => ⟨(), rfl, ⟨h11, h13⟩, hh.se [1, 2] [] 0 Y Y Y rfl⟩)
  replace hm := ifN h9 hm
  refine jt ?_
  obtain rfl := sj hm
  refine JP Y (fun w hh => .nil) (fun w hh => ⟨(), rfl, ⟨hl_a550, hl_a660⟩, hh.se [1, 2] [] 0 Y Y Y rfl⟩)
structure JM where
  f1_c0_0 : (List Bool)
  f1_c1_0 : (List Change)
structure KC where
  f1_c0_0 : (List Bool)
  f1_c1_0 : (List Change)
structure qH where
  t17 : Int
  f1_c0_0 : (List Bool)
  f1_c1_0 : (List Change)
structure KL where
  f1_c0_0 : (List Bool)
  f1_c1_0 : (List Change)
structure yQ where
  t22 : Int
  f1_c0_0 : (List Bool)
  f1_c1_0 : (List Change)
structure qI where
  f1_c0_0 : (List Bool)
  f1_c1_0 : (List Change)
def ki (n00 : (List Wy)) (s : qH) (s_1 : yQ) : Option (yQ ⊕ KL) :=
 if s_1.t22 < ([true, false].length : Int) then
 (((ix [true, false] s_1.t22).bind fun t24 =>
 (qq n00 (⟨s.t17, t24⟩ : Change)).bind fun t32 =>
 if 0 < t32.r3 then
 ((yM (⟨s.t17, t24⟩ : Change) t32.r0 t32.r1 t32.r2 t32.r3 s_1.f1_c0_0 s_1.f1_c1_0).bind fun t45 =>
 some (⟨t45.a55_0, t45.a66_0⟩ : qI)) else
 (some (⟨s_1.f1_c0_0, s_1.f1_c1_0⟩ : qI))).bind fun o_2 =>
 (addc s_1.t22 1).bind fun t46 =>
 some (.inl (⟨t46, o_2.f1_c0_0, o_2.f1_c1_0⟩ : yQ))) else
 (some (.inr (⟨s_1.f1_c0_0, s_1.f1_c1_0⟩ : KL)))
def qO (n00 : (List Wy)) (s : qH) : Option (qH ⊕ KC) :=
 if s.t17 < (n00.length : Int) then
 ((iterM FU (ki n00 s) (⟨0, s.f1_c0_0, s.f1_c1_0⟩ : yQ)).bind fun o_1 =>
 (addc s.t17 1).bind fun t47 =>
 some (.inl (⟨t47, o_1.f1_c0_0, o_1.f1_c1_0⟩ : qH))) else
 (some (.inr (⟨s.f1_c0_0, s.f1_c1_0⟩ : KC)))
def zb (n00 : (List Wy)) (f1_c00 : (List Bool)) (f1_c10 : (List Change)) : Option JM :=
 (iterM FU (qO n00) (⟨0, f1_c00, f1_c10⟩ : qH)).bind fun o =>
 some (⟨o.f1_c0_0, o.f1_c1_0⟩ : JM)
theorem Y0 (n00 : (List Wy)) (f1_c00 : (List Bool)) (f1_c10 : (List Change)) (rb : Nat) (qa1 : Option Addr) (na1 ca1 : Nat) (pb : Nat) (pb_1 : Nat) (w : World) (hw : HV w (keys [(pb, .cells (RB.enc f1_c00).toArray 158 (0, 0)), (pb_1, .cells (RCh.enc f1_c10).toArray 171 (0, 0))] []) [(pb, .cells (RB.enc f1_c00).toArray 158 (0, 0)), (pb_1, .cells (RCh.enc f1_c10).toArray 171 (0, 0))] [] [(rb, 0, [.slice qa1 na1 ca1]), (aB qa1, aO qa1, RWay.enc n00)] w)  (hna1 : n00.length = na1) (hqa1 : AOK na1 qa1) (hla1 : na1 ≤ ca1) (hl_f1_c00 : f1_c00.length = 12) (hl_f1_c10 : f1_c10.length = 12) {res : JM} (hm : zb n00 f1_c00 f1_c10 = some res) :
    Calls Tryz.prog 108 #[ptr rb 0, .func (.func 129) #[] #[ptr pb 0, ptr pb_1 0]] w (fun en w' => ∃ l : Unit, en = .returned (.tuple #[]) ∧ (res.f1_c0_0.length = 12 ∧ res.f1_c1_0.length = 12) ∧ HV w (keys [(pb, .cells (RB.enc f1_c00).toArray 158 (0, 0)), (pb_1, .cells (RCh.enc f1_c10).toArray 171 (0, 0))] []) [(pb, .cells (RB.enc res.f1_c0_0).toArray 158 (0, 0)), (pb_1, .cells (RCh.enc res.f1_c1_0).toArray 171 (0, 0))] [] [] w') := by
  unfold zb at hm
  refine kj func108 Y ntmps108 Y (e := [(0, _), (1, _)]) Y hw (jp (je Y Y (jc Y Y Y (fun _ _ => jN Y) (jM 0 runUnderlying154 Y sizeOf152 Y Y (jc Y Y Y (fun w hh => j0 (isAgg152 w) Y (segCell (hh.seg 0 Y) 0 Y)) (jc Y Y Y (fun w _ => jB hna1 (runUnderlying152 w) Y) (je Y Y ?_)))))))
  refine jo ?_
  obtain ⟨o, h3, h4⟩ := bindO hm
  refine jD (ι := Unit) (fun l => o.f1_c0_0.length = 12 ∧ o.f1_c1_0.length = 12) (fun l => []) (fun l => [(pb, .cells (RB.enc o.f1_c0_0).toArray 158 (0, 0)), (pb_1, .cells (RCh.enc o.f1_c1_0).toArray 171 (0, 0))]) (fun l => []) ?_ ?_
  ·replace hm := h3
   refine jl ?_
   refine jF (ι := Unit) hm (fun s l_1 => s.f1_c0_0.length = 12 ∧ s.f1_c1_0.length = 12) (fun s l_1 => [(0, ptr rb 0), (1, .func (.func 129) #[] #[ptr pb 0, ptr pb_1 0]), (16, .int .i64 (n00.length : Int)), (17, .int .i64 s.t17)]) (fun s l_1 => [(pb, .cells (RB.enc s.f1_c0_0).toArray 158 (0, 0)), (pb_1, .cells (RCh.enc s.f1_c1_0).toArray 171 (0, 0))]) (fun s l_1 => []) () (⟨hl_f1_c00, hl_f1_c10⟩) (sE Y) (fun w hh => hh) (fun s l_1 r hpl hm h9 => ?_)
   obtain ⟨h7, h8⟩ := hpl
   unfold qO at hm
   refine jp (q8 Y Y Y (jo (jk ?_)))
   refine jq Y (fun h10 => ?_) (fun h10 => ?_)
   ·replace hm := ifD h10 hm
    refine jt (ja (jk (jl (jp (je Y Y (jm Y Y (j3 ?_)))))))
    refine kU RB [true, false] (ps := [(0, _), (1, _)]) (cells := [_, _]) (fun w => runUnderlying93 w) (fun w => sizeOf4 w) (fun w => zeroValue4 w) Y Y Y Y Y Y Y Y (fun L h11 => ?_)
    refine jc Y Y Y (fun w _ => QC (vlen RB h11 Y) (runUnderlying93 w) Y) (je Y Y (jo ?_))
    obtain ⟨o_1, h12, h13⟩ := bindO hm
    refine jD (ι := Unit) (fun l_2 => o_1.f1_c0_0.length = 12 ∧ o_1.f1_c1_0.length = 12) (fun l_2 => [(0, ptr rb 0), (1, .func (.func 129) #[] #[ptr pb 0, ptr pb_1 0]), (16, .int .i64 (n00.length : Int)), (17, .int .i64 s.t17)]) (fun l_2 => [(pb, .cells (RB.enc o_1.f1_c0_0).toArray 158 (0, 0)), (pb_1, .cells (RCh.enc o_1.f1_c1_0).toArray 171 (0, 0))]) (fun l_2 => []) ?_ ?_
    ·replace hm := h12
     refine jl ?_
     refine jF (ι := Unit) hm (fun s_1 l_3 => s_1.f1_c0_0.length = 12 ∧ s_1.f1_c1_0.length = 12) (fun s_1 l_3 => [(0, ptr rb 0), (1, .func (.func 129) #[] #[ptr pb 0, ptr pb_1 0]), (4, .int .i64 s.t17), (16, .int .i64 (n00.length : Int)), (17, .int .i64 s.t17), (20, sL L), (21, .int .i64 ([true, false].length : Int)), (22, .int .i64 s_1.t22)]) (fun s_1 l_3 => [(pb, .cells (RB.enc s_1.f1_c0_0).toArray 158 (0, 0)), (pb_1, .cells (RCh.enc s_1.f1_c1_0).toArray 171 (0, 0))]) (fun s_1 l_3 => [⟨4, RB.enc [true, false], L.sp, L.q, []⟩]) () (⟨h7, h8⟩) (sE Y) (fun w hh => hh) (fun s_1 l_3 r_1 hpl hm h18 => ?_)
     obtain ⟨h16, h17⟩ := hpl
     unfold ki at hm
     refine jp (q8 Y Y Y (jo (jk ?_)))
     refine jq Y (fun h19 => ?_) (fun h19 => ?_)
     ·replace hm := ifD h19 hm
      refine jt (ja (jk ?_))
      obtain ⟨o_2, h20, h21⟩ := bindO hm
      refine jD (ι := Unit) (fun l_4 => o_2.f1_c0_0.length = 12 ∧ o_2.f1_c1_0.length = 12) (fun l_4 => [(0, ptr rb 0), (1, .func (.func 129) #[] #[ptr pb 0, ptr pb_1 0]), (4, .int .i64 s.t17), (16, .int .i64 (n00.length : Int)), (17, .int .i64 s.t17), (20, sL L), (21, .int .i64 ([true, false].length : Int)), (22, .int .i64 s_1.t22)]) (fun l_4 => [(pb, .cells (RB.enc o_2.f1_c0_0).toArray 158 (0, 0)), (pb_1, .cells (RCh.enc o_2.f1_c1_0).toArray 171 (0, 0))]) (fun l_4 => [⟨4, RB.enc [true, false], L.sp, L.q, []⟩]) ?_ ?_
      ·replace hm := h20
       refine jl (jp ?_)
       obtain ⟨t24, h24, hm⟩ := bindO hm
       refine jc Y Y Y (fun w _ => qR h24 (runUnderlying93 w) (sizeOf4 w) Y Y (vlen RB h11 Y) (vne h11)) (jc Y Y Y (fun w hh => jW RB 0 h24 (isAgg4 w) Y (hh.vseg 0 Y h11) Y (Nat.add_zero _).symm) (jm Y Y (j3 (je Y Y (je Y Y (jc Y Y Y (fun _ _ => jG (vs := [(0, _), (1, _)]) (cells := [_, _]) Y Y) ?_))))))
       refine ju (fun w => zeroValue164 w) Y (fun b h25 => ?_)
       refine jE (us := #[_, _]) (cs' := [_, _]) (S' := [_, _, _]) 0 (fun w => sizeOf164 w) Y Y Y Y Y Y Y (j3 (je Y Y (qh [_, _] 0 isAgg164 sizeOf164 Y Y Y Y ?_)))
       obtain ⟨t32, h26, hm⟩ := bindO hm
       refine jd [] [] Y Y Y Y Y Y Y call130 (fun w hh => Kg n00 (⟨s.t17, t24⟩ : Change) rb qa1 na1 ca1 w (HV.callee (S0 := []) (vs0 := []) hh (roR hh 0 Y (roR hh 1 Y roN))) hna1 hqa1 hla1 h26) (fun l_5 h27 => ?_)
       refine je Y Y (kt Y Y Y (kt Y Y Y (kt Y Y Y (kt Y Y Y (jm Y Y (jm Y Y (jm Y Y ?_)))))))
       refine jm Y Y (j3 (je Y Y (jc Y Y Y (fun _ _ => JU Y Y) (jo ?_))))
       refine jq Y (fun h28 => ?_) (fun h28 => ?_)
       ·replace hm := ifD h28 hm
        refine jh (je Y Y (qh [_, _] 0 isAgg164 sizeOf164 Y Y Y Y (je Y Y (je Y Y (je Y Y (je Y Y ?_))))))
        obtain ⟨t45, h29, hm⟩ := bindO hm
        refine jT (S' := [_, _, _]) (vs' := [_]) [1, 2, 0] [0] 0 Y Y Y Y ?_
        refine jd [_, _] [] Y Y Y Y Y Y Y call129 (fun w hh => Zl (⟨s.t17, t24⟩ : Change) t32.r0 t32.r1 t32.r2 t32.r3 s_1.f1_c0_0 s_1.f1_c1_0 pb pb_1 w (HV.callee (S0 := [_, _]) (vs0 := []) hh roN) h16 h17 h29) (fun l_6 h30 => ?_)
        obtain ⟨h31, h32⟩ := h30
        refine jT (S' := [_, _, _]) (vs' := [_]) [0, 1, 2] [0] 0 Y Y Y Y (jv (js ?_))
        obtain rfl := sj hm
        exact jg () (⟨h31, h32⟩) (sE Y) (hsE [0, 1] [0] 0 Y Y Y Y)
       replace hm := ifE h28 hm
       refine jt (js ?_)
       obtain rfl := sj hm
       exact jg () (⟨h16, h17⟩) (sE Y) (hsE [1, 2] [0] 0 Y Y Y Y)
      intro l_4 hj
      obtain ⟨h22, h23⟩ := hj
      replace hm := h21
      refine ja (jh ?_)
      obtain ⟨t46, h33, hm⟩ := bindO hm
      refine kS h33 Y Y Y (je Y Y (jv ?_))
      obtain rfl := sj hm
      refine ja ?_
      exact jy _ () Y (⟨h22, h23⟩) (sE Y) (fun w hh => hh)
     replace hm := ifE h19 hm
     refine jO (jj (jj (jC ?_)))
     obtain rfl := sj hm
     have hbo := h18 _ Y
     subst hbo
     exact jg () (⟨h16, h17⟩) (sE Y) (hsE [0, 1] [] 0 Y Y Y Y)
    intro l_2 hj
    obtain ⟨h14, h15⟩ := hj
    replace hm := h13
    refine js (ja (jh ?_))
    obtain ⟨t47, h34, hm⟩ := bindO hm
    refine kS h34 Y Y Y (je Y Y (jv ?_))
    obtain rfl := sj hm
    refine ja ?_
    exact jy _ () Y (⟨h14, h15⟩) (sE Y) (fun w hh => hh)
   replace hm := ifE h10 hm
   refine jO (jj (jj (jC ?_)))
   obtain rfl := sj hm
   have hbo := h9 _ Y
   subst hbo
   exact jg () (⟨h7, h8⟩) (.nil) (fun w hh => hh)
  intro l hj
  obtain ⟨h5, h6⟩ := hj
  replace hm := h4
  obtain rfl := sj hm
  refine JP Y (fun w hh => .nil) (fun w hh => ⟨(), rfl, ⟨h5, h6⟩, hh.se [0, 1] [] 2 Y Y Y rfl⟩)
structure K5 where
  r1 : (List Bool)
  r0 : (List Change)
structure Qt where
  by9 : (List Change)
  met8 : (List Bool)
structure Kp where
  by9 : (List Change)
  met8 : (List Bool)
def JL (n00 : (List Wy)) (s : Kp) : Option (Kp ⊕ Qt) :=
 (zb n00 s.met8 s.by9).bind fun t18 =>
 if t18.f1_c0_0 = s.met8 then
 (some (.inr (⟨t18.f1_c1_0, t18.f1_c0_0⟩ : Qt))) else
 (some (.inl (⟨t18.f1_c1_0, t18.f1_c0_0⟩ : Kp)))
structure JC where
  at12 : Int
  out11 : (List Change)
def JG (from1 : Int) (o : Qt) (n00 : (List Wy)) (s_1 : JC) : Option (JC ⊕ (List Change)) :=
 if s_1.at12 = from1 then
 (some (.inr s_1.out11)) else
 ((ix o.by9 s_1.at12).bind fun t33 =>
 (appc 16 s_1.out11 [(⟨t33.way, t33.more⟩ : Change)]).bind fun t36 =>
 (ix o.by9 s_1.at12).bind fun t40 =>
 (qq n00 t40).bind fun t42 =>
 some (.inl (⟨t42.r0, t36⟩ : JC)))
def KR (n00 : (List Wy)) (from1 : Int) (to2 : Int) : Option K5 :=
 (ix (List.replicate 12 false : (List Bool)) from1).bind fun t14 =>
 (some ((List.replicate 12 false : (List Bool)).set (Int.toNat from1) true)).bind fun met8 =>
 (iterM FU (JL n00) (⟨(List.replicate 12 (⟨0, false⟩ : Change) : (List Change)), met8⟩ : Kp)).bind fun o =>
 (ix o.met8 to2).bind fun t23 =>
 if (!t23) = true then
 (some (⟨o.met8, []⟩ : K5)) else
 ((iterM FU (JG from1 o n00) (⟨to2, []⟩ : JC)).bind fun o_1 =>
 some (⟨o.met8, o_1⟩ : K5))
theorem jaR (n00 : (List Wy)) (from1 : Int) (to2 : Int) (rb : Nat) (qa1 : Option Addr) (na1 ca1 : Nat) (w : World) (hw : HV w (keys [] []) [] [] [(rb, 0, [.slice qa1 na1 ca1]), (aB qa1, aO qa1, RWay.enc n00)] w)  (hna1 : n00.length = na1) (hqa1 : AOK na1 qa1) (hla1 : na1 ≤ ca1) {res : K5} (hm : KR n00 from1 to2 = some res) :
    Calls Tryz.prog 104 #[ptr rb 0, .int .i64 from1, .int .i64 to2] w (fun en w' => ∃ l : VL, en = .returned (.tuple #[sL l, .agg (RB.enc res.r1).toArray]) ∧ (VOK 2 l.n l.cap (RCh.enc res.r0) l.sp l.q ∧ (l.q = none ↔ res.r0 = []) ∧ res.r1.length = 12) ∧ HV w (keys [] []) [] [vL 164 l (RCh.enc res.r0)] [] w') := by
  unfold KR at hm
  refine kj func104 Y ntmps104 Y (e := [(0, _), (1, _), (2, _)]) Y hw (jp (jc Y Y Y (fun _ _ => qQ Y) ?_))
  refine zG RB (l := (List.replicate 12 false : (List Bool))) (k := 12) (fun w => zeroValue158 w) Y Y Y (fun b h4 h5 => ?_)
  refine j3 ?_
  refine zG RB (l := (List.replicate 12 false : (List Bool))) (k := 12) (fun w => zeroValue158 w) Y Y Y (fun b_1 h6 h7 => ?_)
  refine j3 ?_
  refine zG RCh (l := (List.replicate 12 (⟨0, false⟩ : Change) : (List Change))) (k := 12) (fun w => zeroValue171 w) Y Y Y (fun b_2 h8 h9 => ?_)
  refine j3 (je Y Y ?_)
  obtain ⟨t14, h10, hm⟩ := bindO hm
  refine jc Y Y Y (fun w _ => JQ h10 h7 (runUnderlying158 w) (sizeOf4 w) Y Y) ?_
  obtain ⟨met8, hmet8, hm⟩ := bindO hm
  refine ja1 RB 1 0 true (S' := [_, _, _]) (fun w => sizeOf4 w) Y Y Y Y h7 (Nat.add_zero _).symm Y h10 Y Y (Option.some.inj hmet8) Y (fun h11 => ?_)
  refine jo (jk ?_)
  obtain ⟨o, h12, h13⟩ := bindO hm
  refine jD (ι := Unit) (fun l => o.by9.length = 12 ∧ o.met8.length = 12) (fun l => [(0, ptr rb 0), (1, .int .i64 from1), (2, .int .i64 to2), (7, ptr b 0), (8, ptr b_1 0), (9, ptr b_2 0)]) (fun l => [(b_2, .cells (RCh.enc o.by9).toArray 171 (0, 0)), (b_1, .cells (RB.enc o.met8).toArray 158 (0, 0)), (b, .cells (RB.enc (List.replicate 12 false : (List Bool))).toArray 158 (0, 0))]) (fun l => []) ?_ ?_
  ·replace hm := h12
   refine jl ?_
   refine jF (ι := Unit) hm (fun s l_1 => s.by9.length = 12 ∧ s.met8.length = 12) (fun s l_1 => [(0, ptr rb 0), (1, .int .i64 from1), (2, .int .i64 to2), (7, ptr b 0), (8, ptr b_1 0), (9, ptr b_2 0)]) (fun s l_1 => [(b_2, .cells (RCh.enc s.by9).toArray 171 (0, 0)), (b_1, .cells (RB.enc s.met8).toArray 158 (0, 0)), (b, .cells (RB.enc (List.replicate 12 false : (List Bool))).toArray 158 (0, 0))]) (fun s l_1 => []) () (⟨h9, h11⟩) (sE Y) (fun w hh => hh) (fun s l_1 r hpl hm h18 => ?_)
   obtain ⟨h16, h17⟩ := hpl
   unfold JL at hm
   refine jl (jp (jc Y Y Y (fun w hh => y6 RB h17 (isAgg158 w) (sizeOf158 w) Y Y (hh.bsegA 1 Y)) ?_))
   refine zG RB (l := (List.replicate 12 false : (List Bool))) (k := 12) (fun w => zeroValue158 w) Y Y Y (fun b_3 h19 h20 => ?_)
   refine Z1 RB (S' := [_, _, _, _]) 0 (fun w => sizeOf158 w) Y Y Y h20 h17 Y Y (j3 (je Y Y (jc Y Y Y (fun _ _ => jR (u := #[]) (u' := #[_, _]) Y Y) ?_)))
   obtain ⟨t18, h21, hm⟩ := bindO hm
   refine jT (S' := [_, _, _, _]) (vs' := []) [2, 1, 0, 3] [] 0 Y Y Y Y ?_
   refine jd [_, _] [] Y Y Y Y Y Y Y call108 (fun w hh => Y0 n00 s.met8 s.by9 rb qa1 na1 ca1 b_1 b_2 w (HV.callee (S0 := [_, _]) (vs0 := []) hh (roR hh 0 Y (roR hh 1 Y roN))) hna1 hqa1 hla1 h17 h16 h21) (fun l_2 h22 => ?_)
   obtain ⟨h23, h24⟩ := h22
   refine jT (S' := [_, _, _, _]) (vs' := []) [0, 1, 2, 3] [] 0 Y Y Y Y (j3 (jc Y Y Y (fun w hh => y6 RB h23 (isAgg158 w) (sizeOf158 w) Y Y (hh.bsegA 0 Y)) (jc Y Y Y (fun w hh => y6 RB h17 (isAgg158 w) (sizeOf158 w) Y Y (hh.bsegA 2 Y)) ?_)))
   refine jc Y Y Y (fun w _ => ZA (equal_arrB underlying158 (fun w => sizeOf4 w) (fun w => isAgg4 w) underlying4 h23 h17 w) ja2 Y Y) ?_
   refine jo ?_
   refine jq Y (fun h25 => ?_) (fun h25 => ?_)
   ·replace hm := ifD h25 hm
    refine jO (jaQ Y (jj (jC ?_)))
    obtain rfl := sj hm
    have hbo := h18 _ Y
    subst hbo
    exact jg () (⟨h24, h23⟩) (sE Y) (hsE [1, 0, 3] [] 0 Y Y Y Y)
   replace hm := ifE h25 hm
   refine jt (js ?_)
   obtain rfl := sj hm
   refine ja ?_
   exact jy _ () Y (⟨h24, h23⟩) (sE Y) (hsE [1, 0, 3] [] 0 Y Y Y Y)
  intro l hj
  obtain ⟨h14, h15⟩ := hj
  replace hm := h13
  refine ja (jk (jp (je Y Y ?_)))
  obtain ⟨t23, h26, hm⟩ := bindO hm
  refine jc Y Y Y (fun w _ => JQ h26 h15 (runUnderlying158 w) (sizeOf4 w) Y Y) (jc Y Y Y (fun w hh => jW RB 0 h26 (isAgg4 w) Y (hh.bsegA 1 Y) Y (Nat.add_zero _).symm) (jc Y Y Y (fun _ _ => kV Y) (jo ?_)))
  refine jq Y (fun h27 => ?_) (fun h27 => ?_)
  ·replace hm := ifT (h27) hm
   refine jk ?_
   refine jV none (.hoist 0 (.free 1 (.one 2 .done))) (HV _ _ [(b_2, .cells (RCh.enc o.by9).toArray 171 (0, 0)), (b_1, .cells (RB.enc o.met8).toArray 158 (0, 0))] [] _) Y (by decide +kernel) (fun w k hh => hh.draw k) (hsE [0, 1] [] 0 Y Y Y Y) ?_
   refine jA Y Y Y Y (fun w hh => y6 RB h15 (isAgg158 w) (sizeOf158 w) Y Y (hh.bsegA 1 Y)) (ji Y Y Y Y (fun _ _ => qQ Y) (jJ Y (Z1 RB (S' := [_, _, _]) 2 (fun w => sizeOf158 w) Y Y Y h5 h15 Y Y (jr (hsE [0, 1] [] 0 Y Y Y Y) (jI (ja (jw ?_)))))))
   refine jf (kp 164 ?_)
   obtain rfl := sj hm
   refine jn Y (fun w hh => (.tmp Y (.cell Y (loadVar_arr RB h15 (isAgg158 _) (sizeOf158 _) Y (hh.bsegA 2 Y)) .nil))) (fun w hh => ⟨⟨none, 0, 0, []⟩, rfl, ⟨VOK.nil, nieN, h15⟩, hh.se [] [0] 2 Y Y Y rfl⟩)
  replace hm := ifN h27 hm
  refine jt (ja (jp (jc Y Y Y (fun _ _ => qQ Y) (jo (jk (jp (je Y Y ?_)))))))
  refine jm Y Y (jo (kp 164 ?_))
  obtain ⟨o_1, h28, h29⟩ := bindO hm
  refine jD (ι := VL) (fun l_3 => VOK 2 l_3.n l_3.cap (RCh.enc o_1) l_3.sp l_3.q ∧ (l_3.q = none ↔ o_1 = [])) (fun l_3 => [(7, ptr b 0), (8, ptr b_1 0), (11, sL l_3)]) (fun l_3 => [(b_2, .cells (RCh.enc o.by9).toArray 171 (0, 0)), (b_1, .cells (RB.enc o.met8).toArray 158 (0, 0)), (b, .cells (RB.enc (List.replicate 12 false : (List Bool))).toArray 158 (0, 0))]) (fun l_3 => [vL 164 l_3 (RCh.enc o_1)]) ?_ ?_
  ·replace hm := h28
   refine jl ?_
   refine jF (ι := VL) hm (fun s_1 l_4 => VOK 2 l_4.n l_4.cap (RCh.enc s_1.out11) l_4.sp l_4.q ∧ (l_4.q = none ↔ s_1.out11 = [])) (fun s_1 l_4 => [(0, ptr rb 0), (1, .int .i64 from1), (7, ptr b 0), (8, ptr b_1 0), (9, ptr b_2 0), (11, sL l_4), (12, .int .i64 s_1.at12)]) (fun s_1 l_4 => [(b_2, .cells (RCh.enc o.by9).toArray 171 (0, 0)), (b_1, .cells (RB.enc o.met8).toArray 158 (0, 0)), (b, .cells (RB.enc (List.replicate 12 false : (List Bool))).toArray 158 (0, 0))]) (fun s_1 l_4 => [vL 164 l_4 (RCh.enc s_1.out11)]) ⟨none, 0, 0, []⟩ (⟨VOK.nil, nieN⟩) (sE Y) (fun w hh => hh) (fun s_1 l_4 r_1 hpl hm h34 => ?_)
   obtain ⟨h32, h33⟩ := hpl
   unfold JG at hm
   refine jk (jp (je Y Y (je Y Y (jc Y Y Y (fun _ _ => k5 Y Y) (jo ?_)))))
   refine jq Y (fun h35 => ?_) (fun h35 => ?_)
   ·replace hm := ifF (of_ndec_true h35) hm
    refine jt (ja (jl (jp (je Y Y (je Y Y ?_)))))
    obtain ⟨t33, h36, hm⟩ := bindO hm
    refine jc Y Y Y (fun w _ => JQ h36 h14 (runUnderlying171 w) (sizeOf164 w) Y Y) ?_
    refine jc Y Y Y (fun w hh => kz RCh 0 [.int .i64 t33.way, .bool t33.more] h36 (isAgg164 w) (sizeOf164 w) Y (hh.bsegA 0 Y) Y (Nat.add_zero _).symm) ?_
    refine kU RCh [(⟨t33.way, t33.more⟩ : Change)] (ps := [(0, _)]) (cells := [_, _]) (fun w => runUnderlying157 w) (fun w => sizeOf164 w) (fun w => zeroValue164 w) Y Y Y Y Y Y Y Y (fun L h37 => ?_)
    obtain ⟨t36, h38, hm⟩ := bindO hm
    refine yS RCh 1 h38 underlying157 Zs Y Y Y Y Y h32 Y Y (vlen RCh h37 Y) (AOK.q (vne h37)) (fun w hh => (hh.vsegA 0 Y h37)) Y (fun L_1 h39 h39n => ?_)
    refine jT (S' := [_, _, _]) (vs' := [_, _]) [0, 1, 2] [0, 1] 0 Y Y Y Y (jm Y Y (jo (jh (je Y Y (je Y Y ?_)))))
    obtain ⟨t40, h40, hm⟩ := bindO hm
    refine jc Y Y Y (fun w _ => JQ h40 h14 (runUnderlying171 w) (sizeOf164 w) Y Y) ?_
    refine jc Y Y Y (fun w hh => kz RCh 0 [.int .i64 t40.way, .bool t40.more] h40 (isAgg164 w) (sizeOf164 w) Y (hh.bsegA 0 Y) Y (Nat.add_zero _).symm) ?_
    obtain ⟨t42, h41, hm⟩ := bindO hm
    refine jd [] [] Y Y Y Y Y Y Y call130 (fun w hh => Kg n00 t40 rb qa1 na1 ca1 w (HV.callee (S0 := []) (vs0 := []) hh (roR hh 0 Y (roR hh 1 Y roN))) hna1 hqa1 hla1 h41) (fun l_5 h42 => ?_)
    refine je Y Y (kt Y Y Y (kt Y Y Y (kt Y Y Y (kt Y Y Y (jm Y Y (jv (js ?_)))))))
    obtain rfl := sj hm
    refine ja ?_
    exact jy _ L_1 Y (⟨h39, (h39n h33)⟩) (sE Y) (hsE [0, 1, 2] [1] 0 Y Y Y Y)
   replace hm := ifT (of_ndec_false h35) hm
   refine jO (jj (jj (jC ?_)))
   obtain rfl := sj hm
   have hbo := h34 _ Y
   subst hbo
   exact jg l_4 (⟨h32, h33⟩) (sE Y) (fun w hh => hh)
  intro l_3 hj
  obtain ⟨h30, h31⟩ := hj
  replace hm := h29
  refine ja (jk ?_)
  refine jV none (.free 0 (.hoist 1 (.free 2 (.one 3 .done)))) (HV _ _ [(b_2, .cells (RCh.enc o.by9).toArray 171 (0, 0)), (b_1, .cells (RB.enc o.met8).toArray 158 (0, 0))] [vL 164 l_3 (RCh.enc o_1)] _) Y (by decide +kernel) (fun w k hh => hh.draw k) (hsE [0, 1] [0] 0 Y Y Y Y) ?_
  refine kb Y Y Y (jA Y Y Y Y (fun w hh => y6 RB h15 (isAgg158 w) (sizeOf158 w) Y Y (hh.bsegA 1 Y)) (ji Y Y Y Y (fun _ _ => jQ Y) (jJ Y (Z1 RB (S' := [_, _, _]) 2 (fun w => sizeOf158 w) Y Y Y h5 h15 Y Y (jr (hsE [0, 1] [0] 0 Y Y Y Y) (jI (ja ?_)))))))
  refine jw ?_
  obtain rfl := sj hm
  refine jn Y (fun w hh => (.tmp Y (.cell Y (loadVar_arr RB h15 (isAgg158 _) (sizeOf158 _) Y (hh.bsegA 2 Y)) .nil))) (fun w hh => ⟨l_3, rfl, ⟨h30, h31, h15⟩, hh.se [] [0] 2 Y Y Y rfl⟩)
structure Jx where
  t22 : Int
  out7_of_ : (List Int)
def JE (d01 : (List Span)) (met2 : (List Bool)) (s : Jx) : Option (Jx ⊕ (List Int)) :=
 if s.t22 < (d01.length : Int) then
 (((addc 7 s.t22).bind fun t26 =>
 (ix met2 t26).bind fun t27 =>
 if (!t27) = true then
 ((appc 8 s.out7_of_ [s.t22]).bind fun t34 =>
 some t34) else
 (some s.out7_of_)).bind fun o_1 =>
 (addc s.t22 1).bind fun t36 =>
 some (.inl (⟨t36, o_1⟩ : Jx))) else
 (some (.inr s.out7_of_))
structure Jw where
  t44 : Int
  out7_of_ : (List Int)
def JJ (d00 : (List Strip)) (met2 : (List Bool)) (s_1 : Jw) : Option (Jw ⊕ (List Int)) :=
 if s_1.t44 < (d00.length : Int) then
 (((addc 1 s_1.t44).bind fun t48 =>
 (ix met2 t48).bind fun t49 =>
 if t49 = true then
 ((appc 8 s_1.out7_of_ [s_1.t44]).bind fun t55 =>
 some t55) else
 (some s_1.out7_of_)).bind fun o_3 =>
 (addc s_1.t44 1).bind fun t57 =>
 some (.inl (⟨t57, o_3⟩ : Jw))) else
 (some (.inr s_1.out7_of_))
def QB (d00 : (List Strip)) (d01 : (List Span)) (w1 : Wy) (met2 : (List Bool)) : Option Lack :=
 if w1.dst = 0 then
 ((iterM FU (JE d01 met2) (⟨0, []⟩ : Jx)).bind fun o =>
 some (⟨(decide (w1.dst = 0)), o⟩ : Lack)) else
 ((iterM FU (JJ d00 met2) (⟨0, []⟩ : Jw)).bind fun o_2 =>
 some (⟨(decide (w1.dst = 0)), o_2⟩ : Lack))
theorem jaB (d00 : (List Strip)) (d01 : (List Span)) (w1 : Wy) (met2 : (List Bool)) (rb : Nat) (qa1 : Option Addr) (na1 ca1 : Nat) (qa2 : Option Addr) (na2 ca2 : Nat) (mv : Value) (w : World) (hw : HV w (keys [] []) [] [] [(rb, 0, [.slice qa1 na1 ca1, .slice qa2 na2 ca2, mv]), (aB qa1, aO qa1, RSt.enc d00), (aB qa2, aO qa2, RSp.enc d01)] w)  (hna1 : d00.length = na1) (hqa1 : AOK na1 qa1) (hla1 : na1 ≤ ca1) (hna2 : d01.length = na2) (hqa2 : AOK na2 qa2) (hla2 : na2 ≤ ca2) (hl_met2 : met2.length = 12) {res : Lack} (hm : QB d00 d01 w1 met2 = some res) :
    Calls Tryz.prog 105 #[ptr rb 0, .agg #[.int .i64 w1.fr, .int .i64 w1.dst, .int .i64 w1.lo, .int .i64 w1.hi, .int .i64 w1.cost, .int .i64 w1.goes], .agg (RB.enc met2).toArray] w (fun en w' => ∃ l : VL, en = .returned (.agg #[.bool res.tenants, sL l]) ∧ (VOK 1 l.n l.cap (RI.enc res.of_) l.sp l.q) ∧ HV w (keys [] []) [] [vL 3 l (RI.enc res.of_)] [] w') := by
  unfold QB at hm
  refine kj func105 Y ntmps105 Y (e := [(0, _), (1, _), (2, _)]) Y hw (jp ?_)
  refine jK Y Y (fun b h2 => ?_)
  refine jK Y Y (fun b_1 h3 => ?_)
  refine ju (fun w => zeroValue30 w) Y (fun b_2 h4 => ?_)
  refine j3 (jM 1 runUnderlying156 Y sizeOf3 Y Y (jS 2 isAgg3 Y Y Y Y (jc Y Y Y (fun _ _ => Kc Y Y) (jc Y Y Y (fun _ _ => jG (vs := [(0, _)]) (cells := [_, _]) Y Y) ?_))))
  refine ju (fun w => zeroValue30 w) Y (fun b_3 h5 => ?_)
  refine jE (us := #[_, _]) (cs' := [_, _]) (S' := [_, _, _, _]) 0 (fun w => sizeOf30 w) Y Y Y Y Y Y Y (jo (jk (jp (jM 0 runUnderlying30 Y sizeOf4 Y Y (jS 0 isAgg4 Y Y Y Y (jo ?_))))))
  refine jq Y (fun h6 => ?_) (fun h6 => ?_)
  ·replace hm := ifD h6 hm
   refine jk (jp (je Y Y (jc Y Y Y (fun _ _ => jN Y) (jM 0 runUnderlying144 Y sizeOf25 Y Y (jM 1 runUnderlying25 Y sizeOf23 Y Y (jc Y Y Y (fun w hh => j0 (isAgg23 w) Y (segCell (hh.seg 0 Y) 1 Y)) (jc Y Y Y (fun w _ => jB hna2 (runUnderlying23 w) Y) ?_)))))))
   refine je Y Y (jo (kp 3 ?_))
   obtain ⟨o, h7, h8⟩ := bindO hm
   refine jD (ι := VL) (fun l => VOK 1 l.n l.cap (RI.enc o) l.sp l.q) (fun l => [(6, ptr b_2 0), (7, ptr b_3 0)]) (fun l => [kc b_3 #[.bool (decide (w1.dst = 0)), sL l] 30, kc b_2 #[.bool false, slv none 0 0] 30, (b_1, .cells (RB.enc met2).toArray 158 (0, 0)), kc b #[.int .i64 w1.fr, .int .i64 w1.dst, .int .i64 w1.lo, .int .i64 w1.hi, .int .i64 w1.cost, .int .i64 w1.goes] 156]) (fun l => [vL 3 l (RI.enc o)]) ?_ ?_
   ·replace hm := h7
    refine jl ?_
    refine jF (ι := VL) hm (fun s l_1 => VOK 1 l_1.n l_1.cap (RI.enc s.out7_of_) l_1.sp l_1.q) (fun s l_1 => [(5, ptr b_1 0), (6, ptr b_2 0), (7, ptr b_3 0), (21, .int .i64 (d01.length : Int)), (22, .int .i64 s.t22)]) (fun s l_1 => [kc b_3 #[.bool (decide (w1.dst = 0)), sL l_1] 30, kc b_2 #[.bool false, slv none 0 0] 30, (b_1, .cells (RB.enc met2).toArray 158 (0, 0)), kc b #[.int .i64 w1.fr, .int .i64 w1.dst, .int .i64 w1.lo, .int .i64 w1.hi, .int .i64 w1.cost, .int .i64 w1.goes] 156]) (fun s l_1 => [vL 3 l_1 (RI.enc s.out7_of_)]) ⟨none, 0, 0, []⟩ (VOK.nil) (sE Y) (fun w hh => hh) (fun s l_1 r hpl hm h11 => ?_)
    have h10 := hpl
    unfold JE at hm
    refine jp (q8 Y Y Y (jo (jk ?_)))
    refine jq Y (fun h12 => ?_) (fun h12 => ?_)
    ·replace hm := ifD h12 hm
     refine jt (ja (jk ?_))
     obtain ⟨o_1, h13, h14⟩ := bindO hm
     refine jD (ι := VL) (fun l_2 => VOK 1 l_2.n l_2.cap (RI.enc o_1) l_2.sp l_2.q) (fun l_2 => [(5, ptr b_1 0), (6, ptr b_2 0), (7, ptr b_3 0), (21, .int .i64 (d01.length : Int)), (22, .int .i64 s.t22)]) (fun l_2 => [kc b_3 #[.bool (decide (w1.dst = 0)), sL l_2] 30, kc b_2 #[.bool false, slv none 0 0] 30, (b_1, .cells (RB.enc met2).toArray 158 (0, 0)), kc b #[.int .i64 w1.fr, .int .i64 w1.dst, .int .i64 w1.lo, .int .i64 w1.hi, .int .i64 w1.cost, .int .i64 w1.goes] 156]) (fun l_2 => [vL 3 l_2 (RI.enc o_1)]) ?_ ?_
     ·replace hm := h13
      refine jl (jp (je Y Y (jm Y Y (j3 (je Y Y ?_)))))
      obtain ⟨t26, h16, hm⟩ := bindO hm
      refine kS h16 Y Y Y ?_
      obtain ⟨t27, h17, hm⟩ := bindO hm
      refine jc Y Y Y (fun w _ => JQ h17 hl_met2 (runUnderlying158 w) (sizeOf4 w) Y Y) (jc Y Y Y (fun w hh => jW RB 0 h17 (isAgg4 w) Y (hh.bsegA 2 Y) Y (Nat.add_zero _).symm) (jc Y Y Y (fun _ _ => kV Y) (jo ?_)))
      refine jq Y (fun h18 => ?_) (fun h18 => ?_)
      ·replace hm := ifT (h18) hm
       refine jh (jM 1 runUnderlying30 Y sizeOf26 Y Y (jS 0 isAgg26 Y Y Y Y (je Y Y ?_)))
       refine kU RI [s.t22] (ps := [(0, _)]) (cells := [_]) (fun w => runUnderlying26 w) (fun w => sizeOf3 w) (fun w => zeroValue3 w) Y Y Y Y Y Y Y Y (fun L h19 => ?_)
       obtain ⟨t34, h20, hm⟩ := bindO hm
       refine yS RI 1 h20 underlying26 zZ Y Y Y Y Y h10 Y Y (vlen RI h19 Y) (AOK.q (vne h19)) (fun w hh => (hh.vsegA 0 Y h19)) Y (fun L_1 h21 h21n => ?_)
       refine jT (S' := [_, _, _, _]) (vs' := [_, _]) [0, 1, 2, 3] [0, 1] 0 Y Y Y Y (jM 1 runUnderlying30 Y sizeOf26 Y Y (y4 (cs' := #[_, _]) (S' := [_, _, _, _]) 0 (fun w => sizeOf26 w) Y Y Y Y Y Y Y (jv (js ?_))))
       obtain rfl := sj hm
       exact jg L_1 (h21) (sE Y) (hsE [0, 1, 2, 3] [1] 0 Y Y Y Y)
      replace hm := ifN h18 hm
      refine jt (js ?_)
      obtain rfl := sj hm
      exact jg l_1 (h10) (sE Y) (fun w hh => hh)
     intro l_2 hj
     have h15 := hj
     replace hm := h14
     refine ja (jh ?_)
     obtain ⟨t36, h22, hm⟩ := bindO hm
     refine kS h22 Y Y Y (je Y Y (jv ?_))
     obtain rfl := sj hm
     refine ja ?_
     exact jy _ l_2 Y (h15) (sE Y) (fun w hh => hh)
    replace hm := ifE h12 hm
    refine jO (jj (jj (jC ?_)))
    obtain rfl := sj hm
    have hbo := h11 _ Y
    subst hbo
    exact jg l_1 (h10) (sE Y) (fun w hh => hh)
   intro l hj
   have h9 := hj
   replace hm := h8
   refine ja (jp (qh [_, _] 0 isAgg30 sizeOf30 Y Y Y Y (jE (us := #[_, _]) (cs' := [_, _]) (S' := [_, _, _, _]) 1 (fun w => sizeOf30 w) Y Y Y Y Y Y Y (jo (jw (jf ?_))))))
   obtain rfl := sj hm
   refine jn Y (fun w hh => (.cell Y (loadVar_agg (vs := [_, _]) (isAgg30 _) (sizeOf30 _) (hh.cells 1 Y Y)) .nil)) (fun w hh => ⟨l, rfl, h9, hh.se [] [0] 3 Y Y Y rfl⟩)
  replace hm := ifE h6 hm
  refine jt (ja (jk (jp (je Y Y (jc Y Y Y (fun _ _ => jN Y) (jM 0 runUnderlying144 Y sizeOf25 Y Y (jM 0 runUnderlying25 Y sizeOf22 Y Y ?_)))))))
  refine jc Y Y Y (fun w hh => j0 (isAgg22 w) Y (segCell (hh.seg 0 Y) 0 Y)) (jc Y Y Y (fun w _ => jB hna1 (runUnderlying22 w) Y) (je Y Y (jo (kp 3 ?_))))
  obtain ⟨o_2, h23, h24⟩ := bindO hm
  refine jD (ι := VL) (fun l_3 => VOK 1 l_3.n l_3.cap (RI.enc o_2) l_3.sp l_3.q) (fun l_3 => [(6, ptr b_2 0), (7, ptr b_3 0)]) (fun l_3 => [kc b_3 #[.bool (decide (w1.dst = 0)), sL l_3] 30, kc b_2 #[.bool false, slv none 0 0] 30, (b_1, .cells (RB.enc met2).toArray 158 (0, 0)), kc b #[.int .i64 w1.fr, .int .i64 w1.dst, .int .i64 w1.lo, .int .i64 w1.hi, .int .i64 w1.cost, .int .i64 w1.goes] 156]) (fun l_3 => [vL 3 l_3 (RI.enc o_2)]) ?_ ?_
  ·replace hm := h23
   refine jl ?_
   refine jF (ι := VL) hm (fun s_1 l_4 => VOK 1 l_4.n l_4.cap (RI.enc s_1.out7_of_) l_4.sp l_4.q) (fun s_1 l_4 => [(5, ptr b_1 0), (6, ptr b_2 0), (7, ptr b_3 0), (43, .int .i64 (d00.length : Int)), (44, .int .i64 s_1.t44)]) (fun s_1 l_4 => [kc b_3 #[.bool (decide (w1.dst = 0)), sL l_4] 30, kc b_2 #[.bool false, slv none 0 0] 30, (b_1, .cells (RB.enc met2).toArray 158 (0, 0)), kc b #[.int .i64 w1.fr, .int .i64 w1.dst, .int .i64 w1.lo, .int .i64 w1.hi, .int .i64 w1.cost, .int .i64 w1.goes] 156]) (fun s_1 l_4 => [vL 3 l_4 (RI.enc s_1.out7_of_)]) ⟨none, 0, 0, []⟩ (VOK.nil) (sE Y) (fun w hh => hh) (fun s_1 l_4 r_1 hpl hm h27 => ?_)
   have h26 := hpl
   unfold JJ at hm
   refine jp (q8 Y Y Y (jo (jk ?_)))
   refine jq Y (fun h28 => ?_) (fun h28 => ?_)
   ·replace hm := ifD h28 hm
    refine jt (ja (jk ?_))
    obtain ⟨o_3, h29, h30⟩ := bindO hm
    refine jD (ι := VL) (fun l_5 => VOK 1 l_5.n l_5.cap (RI.enc o_3) l_5.sp l_5.q) (fun l_5 => [(5, ptr b_1 0), (6, ptr b_2 0), (7, ptr b_3 0), (43, .int .i64 (d00.length : Int)), (44, .int .i64 s_1.t44)]) (fun l_5 => [kc b_3 #[.bool (decide (w1.dst = 0)), sL l_5] 30, kc b_2 #[.bool false, slv none 0 0] 30, (b_1, .cells (RB.enc met2).toArray 158 (0, 0)), kc b #[.int .i64 w1.fr, .int .i64 w1.dst, .int .i64 w1.lo, .int .i64 w1.hi, .int .i64 w1.cost, .int .i64 w1.goes] 156]) (fun l_5 => [vL 3 l_5 (RI.enc o_3)]) ?_ ?_
    ·replace hm := h29
     refine jl (jp (je Y Y (jm Y Y (j3 (je Y Y ?_)))))
     obtain ⟨t48, h32, hm⟩ := bindO hm
     refine kS h32 Y Y Y ?_
     obtain ⟨t49, h33, hm⟩ := bindO hm
     refine jc Y Y Y (fun w _ => JQ h33 hl_met2 (runUnderlying158 w) (sizeOf4 w) Y Y) (jc Y Y Y (fun w hh => jW RB 0 h33 (isAgg4 w) Y (hh.bsegA 2 Y) Y (Nat.add_zero _).symm) (jo ?_))
     refine jq Y (fun h34 => ?_) (fun h34 => ?_)
     ·replace hm := ifT (h34) hm
      refine jh (jM 1 runUnderlying30 Y sizeOf26 Y Y (jS 0 isAgg26 Y Y Y Y (je Y Y ?_)))
      refine kU RI [s_1.t44] (ps := [(0, _)]) (cells := [_]) (fun w => runUnderlying26 w) (fun w => sizeOf3 w) (fun w => zeroValue3 w) Y Y Y Y Y Y Y Y (fun L_2 h35 => ?_)
      obtain ⟨t55, h36, hm⟩ := bindO hm
      refine yS RI 1 h36 underlying26 zZ Y Y Y Y Y h26 Y Y (vlen RI h35 Y) (AOK.q (vne h35)) (fun w hh => (hh.vsegA 0 Y h35)) Y (fun L_3 h37 h37n => ?_)
      refine jT (S' := [_, _, _, _]) (vs' := [_, _]) [0, 1, 2, 3] [0, 1] 0 Y Y Y Y (jM 1 runUnderlying30 Y sizeOf26 Y Y (y4 (cs' := #[_, _]) (S' := [_, _, _, _]) 0 (fun w => sizeOf26 w) Y Y Y Y Y Y Y (jv (js ?_))))
      obtain rfl := sj hm
      exact jg L_3 (h37) (sE Y) (hsE [0, 1, 2, 3] [1] 0 Y Y Y Y)
     replace hm := ifN h34 hm
     refine jt (js ?_)
     obtain rfl := sj hm
     exact jg l_4 (h26) (sE Y) (fun w hh => hh)
    intro l_5 hj
    have h31 := hj
    replace hm := h30
    refine ja (jh ?_)
    obtain ⟨t57, h38, hm⟩ := bindO hm
    refine kS h38 Y Y Y (je Y Y (jv ?_))
    obtain rfl := sj hm
    refine ja ?_
    exact jy _ l_5 Y (h31) (sE Y) (fun w hh => hh)
   replace hm := ifE h28 hm
   refine jO (jj (jj (jC ?_)))
   obtain rfl := sj hm
   have hbo := h27 _ Y
   subst hbo
   exact jg l_4 (h26) (sE Y) (fun w hh => hh)
  intro l_3 hj
  have h25 := hj
  replace hm := h24
  refine ja (jp (qh [_, _] 0 isAgg30 sizeOf30 Y Y Y Y (jE (us := #[_, _]) (cs' := [_, _]) (S' := [_, _, _, _]) 1 (fun w => sizeOf30 w) Y Y Y Y Y Y Y (jo (jw ?_)))))
  obtain rfl := sj hm
  refine jn Y (fun w hh => (.cell Y (loadVar_agg (vs := [_, _]) (isAgg30 _) (sizeOf30 _) (hh.cells 1 Y Y)) .nil)) (fun w hh => ⟨l_3, rfl, h25, hh.se [] [0] 3 Y Y Y rfl⟩)
structure Jt where
  most2 : Int
  t16 : Int
def yh (l1 : (List Change)) (n00 : (List Wy)) (s : Jt) : Option (Jt ⊕ Int) :=
 if s.t16 < (l1.length : Int) then
 ((ix l1 s.t16).bind fun t18 =>
 (qq n00 t18).bind fun t23 =>
 (JH s.most2 [t23.r3]).bind fun t31 =>
 (addc s.t16 1).bind fun t32 =>
 some (.inl (⟨t31, t32⟩ : Jt))) else
 (some (.inr s.most2))
structure Jo where
  t35 : Int
  n00 : (List Wy)
def yc (l1 : (List Change)) (o : Int) (s_1 : Jo) : Option (Jo ⊕ (List Wy)) :=
 if s_1.t35 < (l1.length : Int) then
 (((ix l1 s_1.t35).bind fun t37 =>
 if t37.more = true then
 ((ix s_1.n00 t37.way).bind fun t47 =>
 (addc t47.goes o).bind fun t51 =>
 (ix s_1.n00 t37.way).bind fun t52 =>
 (some (s_1.n00.set (Int.toNat t37.way) (⟨t52.fr, t52.dst, t52.lo, t52.hi, t52.cost, t51⟩ : Wy))).bind fun n00_1 =>
 some n00_1) else
 ((ix s_1.n00 t37.way).bind fun t60 =>
 (subc t60.goes o).bind fun t64 =>
 (ix s_1.n00 t37.way).bind fun t65 =>
 (some (s_1.n00.set (Int.toNat t37.way) (⟨t65.fr, t65.dst, t65.lo, t65.hi, t65.cost, t64⟩ : Wy))).bind fun n00_2 =>
 some n00_2)).bind fun o_2 =>
 (addc s_1.t35 1).bind fun t67 =>
 some (.inl (⟨t67, o_2⟩ : Jo))) else
 (some (.inr s_1.n00))
def z7 (n00 : (List Wy)) (l1 : (List Change)) (most2 : Int) : Option (List Wy) :=
 (iterM FU (yh l1 n00) (⟨most2, 0⟩ : Jt)).bind fun o =>
 (iterM FU (yc l1 o) (⟨0, n00⟩ : Jo)).bind fun o_1 =>
 some o_1
theorem YQ (n00 : (List Wy)) (l1 : (List Change)) (most2 : Int) (rb : Nat) (V_n00 : VL) (qa1 : Option Addr) (na1 ca1 : Nat) (w : World) (hw : HV w (keys [] [vL 156 V_n00 (RWay.enc n00)]) [] [vL 156 V_n00 (RWay.enc n00)] [(rb, 0, [sL V_n00]), (aB qa1, aO qa1, RCh.enc l1)] w)  (hv_n00 : VOK 6 V_n00.n V_n00.cap (RWay.enc n00) V_n00.sp V_n00.q) (hna1 : l1.length = na1) (hqa1 : AOK na1 qa1) (hla1 : na1 ≤ ca1) {res : (List Wy)} (hm : z7 n00 l1 most2 = some res) :
    Calls Tryz.prog 106 #[ptr rb 0, .slice qa1 na1 ca1, .int .i64 most2] w (fun en w' => ∃ l : Unit, en = .returned (.tuple #[]) ∧ (VOK 6 V_n00.n V_n00.cap (RWay.enc res) V_n00.sp V_n00.q) ∧ HV w (keys [] [vL 156 V_n00 (RWay.enc n00)]) [] [vL 156 V_n00 (RWay.enc res)] [] w') := by
  unfold z7 at hm
  refine kj func106 Y ntmps106 Y (e := [(0, _), (1, _), (2, _)]) Y hw (jk (jp (je Y Y (jc Y Y Y (fun w _ => jB hna1 (runUnderlying157 w) Y) (je Y Y (jo ?_))))))
  obtain ⟨o, h2, h3⟩ := bindO hm
  refine jD (ι := Unit) (fun l => True) (fun l => [(0, ptr rb 0), (1, .slice qa1 na1 ca1), (2, .int .i64 o)]) (fun l => []) (fun l => [vL 156 V_n00 (RWay.enc n00)]) ?_ ?_
  ·replace hm := h2
   refine jl ?_
   refine jF (ι := Unit) hm (fun s l_1 => True) (fun s l_1 => [(0, ptr rb 0), (1, .slice qa1 na1 ca1), (2, .int .i64 s.most2), (14, .slice qa1 na1 ca1), (15, .int .i64 (l1.length : Int)), (16, .int .i64 s.t16)]) (fun s l_1 => []) (fun s l_1 => [vL 156 V_n00 (RWay.enc n00)]) () (trivial) (sE Y) (fun w hh => hh) (fun s l_1 r hpl hm h4 => ?_)
   unfold yh at hm
   refine jp (q8 Y Y Y (jo (jk ?_)))
   refine jq Y (fun h5 => ?_) (fun h5 => ?_)
   ·replace hm := ifD h5 hm
    refine jt (ja (jk (jl (jp ?_))))
    obtain ⟨t18, h6, hm⟩ := bindO hm
    refine jc Y Y Y (fun w _ => jY h6 (runUnderlying157 w) (sizeOf164 w) Y Y hna1 hqa1) ?_
    refine jc Y Y Y (fun w hh => kz RCh 0 [.int .i64 t18.way, .bool t18.more] h6 (isAgg164 w) (sizeOf164 w) Y (hh.seg 1 Y) Y (Nat.add_zero _).symm) ?_
    refine ju (fun w => zeroValue164 w) Y (fun b h7 => ?_)
    refine jE (us := #[_, _]) (cs' := [_, _]) (S' := [_]) 0 (fun w => sizeOf164 w) Y Y Y Y Y Y Y (j3 (je Y Y (qh [_, _] 0 isAgg164 sizeOf164 Y Y Y Y ?_)))
    obtain ⟨t23, h8, hm⟩ := bindO hm
    refine jd [] [] Y Y Y Y Y Y Y call130 (fun w hh => Kg n00 t18 rb (qA V_n00.q) V_n00.n V_n00.cap w (HV.callee (S0 := []) (vs0 := []) hh (roR hh 0 Y (roC (hh.vsepA 0 Y hv_n00) roN))) (vlen RWay hv_n00 Y) (AOK.q (vne hv_n00)) (hv_n00).hle h8) (fun l_2 h9 => ?_)
    refine je Y Y (kt Y Y Y (kt Y Y Y (kt Y Y Y (kt Y Y Y (jm Y Y (jm Y Y (jm Y Y ?_)))))))
    refine jm Y Y (jo (jh (je Y Y (je Y Y ?_))))
    refine kU RI [t23.r3] (ps := [(0, _)]) (cells := [_]) (fun w => runUnderlying26 w) (fun w => sizeOf3 w) (fun w => zeroValue3 w) Y Y Y Y Y Y Y Y (fun L h10 => ?_)
    obtain ⟨t31, h11, hm⟩ := bindO hm
    refine jd [] [] Y Y Y Y Y Y Y call74 (fun w hh => KK s.most2 [t23.r3] (qA L.q) L.n L.cap w (HV.callee (S0 := []) (vs0 := []) hh (roC (hh.vsepA 0 Y h10) roN)) (vlen RI h10 Y) (AOK.q (vne h10)) (h10).hle h11) (fun l_3 h12 => ?_)
    refine jm Y Y (jv (js (ja (jh ?_))))
    obtain ⟨t32, h13, hm⟩ := bindO hm
    refine kS h13 Y Y Y (je Y Y (jv ?_))
    obtain rfl := sj hm
    refine ja ?_
    exact jy _ () Y (trivial) (sE Y) (hsE [] [1] 0 Y Y Y Y)
   replace hm := ifE h5 hm
   refine jO (jj (jj (jC ?_)))
   obtain rfl := sj hm
   have hbo := h4 _ Y
   subst hbo
   exact jg () (trivial) (sE Y) (fun w hh => hh)
  intro l hj
  replace hm := h3
  refine ja (jp (je Y Y (jc Y Y Y (fun w _ => jB hna1 (runUnderlying157 w) Y) (je Y Y (jo ?_)))))
  obtain ⟨o_1, h14, h15⟩ := bindO hm
  refine jD (ι := Unit) (fun l_4 => VOK 6 V_n00.n V_n00.cap (RWay.enc o_1) V_n00.sp V_n00.q) (fun l_4 => []) (fun l_4 => []) (fun l_4 => [vL 156 V_n00 (RWay.enc o_1)]) ?_ ?_
  ·replace hm := h14
   refine jl ?_
   refine jF (ι := Unit) hm (fun s_1 l_5 => VOK 6 V_n00.n V_n00.cap (RWay.enc s_1.n00) V_n00.sp V_n00.q) (fun s_1 l_5 => [(0, ptr rb 0), (2, .int .i64 o), (33, .slice qa1 na1 ca1), (34, .int .i64 (l1.length : Int)), (35, .int .i64 s_1.t35)]) (fun s_1 l_5 => []) (fun s_1 l_5 => [vL 156 V_n00 (RWay.enc s_1.n00)]) () (hv_n00) (sE Y) (fun w hh => hh) (fun s_1 l_5 r_1 hpl hm h18 => ?_)
   have h17 := hpl
   unfold yc at hm
   refine jp (q8 Y Y Y (jo (jk ?_)))
   refine jq Y (fun h19 => ?_) (fun h19 => ?_)
   ·replace hm := ifD h19 hm
    refine jt (ja (jk ?_))
    obtain ⟨o_2, h20, h21⟩ := bindO hm
    refine jD (ι := Unit) (fun l_6 => VOK 6 V_n00.n V_n00.cap (RWay.enc o_2) V_n00.sp V_n00.q) (fun l_6 => [(0, ptr rb 0), (2, .int .i64 o), (33, .slice qa1 na1 ca1), (34, .int .i64 (l1.length : Int)), (35, .int .i64 s_1.t35)]) (fun l_6 => []) (fun l_6 => [vL 156 V_n00 (RWay.enc o_2)]) ?_ ?_
    ·replace hm := h20
     refine jl (jp ?_)
     obtain ⟨t37, h23, hm⟩ := bindO hm
     refine jc Y Y Y (fun w _ => jY h23 (runUnderlying157 w) (sizeOf164 w) Y Y hna1 hqa1) ?_
     refine jc Y Y Y (fun w hh => kz RCh 0 [.int .i64 t37.way, .bool t37.more] h23 (isAgg164 w) (sizeOf164 w) Y (hh.seg 1 Y) Y (Nat.add_zero _).symm) ?_
     refine ju (fun w => zeroValue164 w) Y (fun b_1 h24 => ?_)
     refine jE (us := #[_, _]) (cs' := [_, _]) (S' := [_]) 0 (fun w => sizeOf164 w) Y Y Y Y Y Y Y (j3 (jM 1 runUnderlying164 Y sizeOf4 Y Y (jS 0 isAgg4 Y Y Y Y (jo ?_))))
     refine jq Y (fun h25 => ?_) (fun h25 => ?_)
     ·replace hm := ifT (h25) hm
      refine jV (some 13) (.free 0 (.free 1 (.free 2 (.hoist 3 (.free 4 (.hoist 5 (.free 6 (.free 7 (.hoist 8 (.free 9 (.free 10 (.free 11 (.free 12 (.last 13 .done)))))))))))))) _ Y (by decide +kernel) (fun w k hh => hh.draw k) (fun w hh => hh) ?_
      refine kb Y Y Y (ji Y Y Y Y (fun _ _ => jN Y) (kF 0 runUnderlying154 sizeOf152 Y Y Y Y (jA Y Y Y Y (fun w hh => j0 (isAgg152 w) Y (segCell (hh.seg 0 Y) 0 Y)) (kF 0 runUnderlying164 sizeOf3 Y Y Y Y (qs 0 isAgg3 Y Y Y Y Y ?_)))))
      obtain ⟨t47, h26, hm⟩ := bindO hm
      refine ji Y Y Y Y (fun w _ => qR h26 (runUnderlying152 w) (sizeOf156 w) Y Y (vlen RWay h17 Y) (vne h17)) (kF 5 runUnderlying156 sizeOf3 Y Y Y Y (jA Y Y Y Y (fun w hh => jW RWay 5 h26 (isAgg3 w) Y (hh.vseg 0 Y h17) Y Y) (kb Y Y Y ?_)))
      obtain ⟨t51, h27, hm⟩ := bindO hm
      refine ji Y Y Y Y (fun _ _ => zD h27 Y Y) ?_
      obtain ⟨t52, h28, hm⟩ := bindO hm
      refine ji Y Y Y Y (fun w _ => qR h28 (runUnderlying152 w) (sizeOf156 w) Y Y (vlen RWay h17 Y) (vne h17)) (kF 5 runUnderlying156 sizeOf3 Y Y Y Y (Qn Y ?_))
      obtain ⟨n00_1, hn00_1, hm⟩ := bindO hm
      refine Qv RWay 0 5 (⟨t52.fr, t52.dst, t52.lo, t52.hi, t52.cost, t51⟩ : Wy) (fun w => sizeOf3 w) Y Y Y Y h17 Y Y Y h28 Y Y (Option.some.inj hn00_1) (fun h29 => ?_)
      refine jT (S' := [_]) (vs' := [_]) [0] [0] 0 Y Y Y Y (Kb (jI (js ?_)))
      obtain rfl := sj hm
      exact jg () (h29) (sE Y) (hsE [] [0] 0 Y Y Y Y)
     replace hm := ifN h25 hm
     refine jV (some 13) (.free 0 (.free 1 (.free 2 (.hoist 3 (.free 4 (.hoist 5 (.free 6 (.free 7 (.hoist 8 (.free 9 (.free 10 (.free 11 (.free 12 (.last 13 .done)))))))))))))) _ Y (by decide +kernel) (fun w k hh => hh.draw k) (fun w hh => hh) ?_
     refine kb Y Y Y (ji Y Y Y Y (fun _ _ => jN Y) (kF 0 runUnderlying154 sizeOf152 Y Y Y Y (jA Y Y Y Y (fun w hh => j0 (isAgg152 w) Y (segCell (hh.seg 0 Y) 0 Y)) (kF 0 runUnderlying164 sizeOf3 Y Y Y Y (qs 0 isAgg3 Y Y Y Y Y ?_)))))
     obtain ⟨t60, h30, hm⟩ := bindO hm
     refine ji Y Y Y Y (fun w _ => qR h30 (runUnderlying152 w) (sizeOf156 w) Y Y (vlen RWay h17 Y) (vne h17)) (kF 5 runUnderlying156 sizeOf3 Y Y Y Y (jA Y Y Y Y (fun w hh => jW RWay 5 h30 (isAgg3 w) Y (hh.vseg 0 Y h17) Y Y) (kb Y Y Y ?_)))
     obtain ⟨t64, h31, hm⟩ := bindO hm
     refine ji Y Y Y Y (fun _ _ => qp h31 Y Y) ?_
     obtain ⟨t65, h32, hm⟩ := bindO hm
     refine ji Y Y Y Y (fun w _ => qR h32 (runUnderlying152 w) (sizeOf156 w) Y Y (vlen RWay h17 Y) (vne h17)) (kF 5 runUnderlying156 sizeOf3 Y Y Y Y (Qn Y ?_))
     obtain ⟨n00_2, hn00_2, hm⟩ := bindO hm
     refine Qv RWay 0 5 (⟨t65.fr, t65.dst, t65.lo, t65.hi, t65.cost, t64⟩ : Wy) (fun w => sizeOf3 w) Y Y Y Y h17 Y Y Y h32 Y Y (Option.some.inj hn00_2) (fun h33 => ?_)
     refine jT (S' := [_]) (vs' := [_]) [0] [0] 0 Y Y Y Y (Kb (jI (js ?_)))
     obtain rfl := sj hm
     exact jg () (h33) (sE Y) (hsE [] [0] 0 Y Y Y Y)
    intro l_6 hj
    have h22 := hj
    replace hm := h21
    refine ja (jh ?_)
    obtain ⟨t67, h34, hm⟩ := bindO hm
    refine kS h34 Y Y Y (je Y Y (jv ?_))
    obtain rfl := sj hm
    refine ja ?_
    exact jy _ () Y (h22) (sE Y) (fun w hh => hh)
   replace hm := ifE h19 hm
   refine jO (jj (jj (jC ?_)))
   obtain rfl := sj hm
   have hbo := h18 _ Y
   subst hbo
   exact jg () (h17) (.nil) (fun w hh => hh)
  intro l_4 hj
  have h16 := hj
  replace hm := h15
  obtain rfl := sj hm
  refine JP Y (fun w hh => .nil) (fun w hh => ⟨(), rfl, h16, hh.se [] [0] 2 Y Y Y rfl⟩)
structure ym where
  a55_0 : (List Int)
  a66_0 : (List Change)
  a77 : Int
def qf (c0 : Change) (a1 : Int) (b2 : Int) (cost3 : Int) (room4 : Int) (a550 : (List Int)) (a660 : (List Change)) (a77 : Int) : Option ym :=
 (ix a550 a1).bind fun t14 =>
 (addc t14 cost3).bind fun t17 =>
 (ix a550 b2).bind fun t19 =>
 if t17 < t19 then
 ((ix a550 a1).bind fun t25 =>
 (addc t25 cost3).bind fun t28 =>
 (ix a550 b2).bind fun t31 =>
 (some (a550.set (Int.toNat b2) t28)).bind fun a55 =>
 (ix a660 b2).bind fun t32 =>
 (some (a660.set (Int.toNat b2) c0)).bind fun a66 =>
 some (⟨a55, a66, b2⟩ : ym)) else
 (some (⟨a550, a660, a77⟩ : ym))
theorem YB (c0 : Change) (a1 : Int) (b2 : Int) (cost3 : Int) (room4 : Int) (a550 : (List Int)) (a660 : (List Change)) (a77 : Int) (pb : Nat) (pb_1 : Nat) (pb_2 : Nat) (w : World) (hw : HV w (keys [(pb, .cells (RI.enc a550).toArray 118 (0, 0)), (pb_1, .cells (RCh.enc a660).toArray 171 (0, 0)), kc pb_2 #[.int .i64 a77] 3] []) [(pb, .cells (RI.enc a550).toArray 118 (0, 0)), (pb_1, .cells (RCh.enc a660).toArray 171 (0, 0)), kc pb_2 #[.int .i64 a77] 3] [] [] w) (hl_a550 : a550.length = 12) (hl_a660 : a660.length = 12) {res : ym} (hm : qf c0 a1 b2 cost3 room4 a550 a660 a77 = some res) :
    Calls Tryz.prog 131 #[.agg #[.int .i64 c0.way, .bool c0.more], .int .i64 a1, .int .i64 b2, .int .i64 cost3, .int .i64 room4, ptr pb 0, ptr pb_1 0, ptr pb_2 0] w (fun en w' => ∃ l : Unit, en = .returned (.tuple #[]) ∧ (res.a55_0.length = 12 ∧ res.a66_0.length = 12) ∧ HV w (keys [(pb, .cells (RI.enc a550).toArray 118 (0, 0)), (pb_1, .cells (RCh.enc a660).toArray 171 (0, 0)), kc pb_2 #[.int .i64 a77] 3] []) [(pb, .cells (RI.enc res.a55_0).toArray 118 (0, 0)), (pb_1, .cells (RCh.enc res.a66_0).toArray 171 (0, 0)), kc pb_2 #[.int .i64 res.a77] 3] [] [] w') := by
  unfold qf at hm
  refine kj func131 Y ntmps131 Y (e := [(0, _), (1, _), (2, _), (3, _), (4, _), (5, _), (6, _), (7, _)]) Y hw (jp ?_)
  refine jK Y Y (fun b h3 => ?_)
  refine jo (jk ?_)
  refine jV none (.free 0 (.free 1 (.hoist 2 (.free 3 (.free 4 (.free 5 (.free 6 (.hoist 7 (.free 8 .done))))))))) _ Y (by decide +kernel) (fun w k hh => hh.draw k) (fun w hh => hh) ?_
  refine kb Y Y Y ?_
  obtain ⟨t14, h4, hm⟩ := bindO hm
  refine ji Y Y Y Y (fun w _ => JQ h4 hl_a550 (runUnderlying118 w) (sizeOf3 w) Y Y) (jA Y Y Y Y (fun w hh => jW RI 0 h4 (isAgg3 w) Y (hh.bsegA 1 Y) Y (Nat.add_zero _).symm) (kb Y Y Y ?_))
  obtain ⟨t17, h5, hm⟩ := bindO hm
  refine ji Y Y Y Y (fun _ _ => zD h5 Y Y) (kb Y Y Y ?_)
  obtain ⟨t19, h6, hm⟩ := bindO hm
  refine ji Y Y Y Y (fun w _ => JQ h6 hl_a550 (runUnderlying118 w) (sizeOf3 w) Y Y) (jA Y Y Y Y (fun w hh => jW RI 0 h6 (isAgg3 w) Y (hh.bsegA 1 Y) Y (Nat.add_zero _).symm) (ji Y Y Y Y (fun _ _ => Z5 Y Y) (jI (ja ?_))))
  refine jq Y (fun h7 => ?_) (fun h7 => ?_)
  ·replace hm := ifD h7 hm
   refine jV none (.free 0 (.free 1 (.free 2 (.free 3 (.free 5 (.hoist 7 (.free 8 (.one 4 (.free 6 (.free 9 (.one 10 (.free 11 (.one 12 (.one 13 .done)))))))))))))) (HV _ _ [kc b #[.int .i64 c0.way, .bool c0.more] 164] [] _) Y (by decide +kernel) (fun w k hh => hh.draw k) (hsE [0] [] 0 Y Y Y Y) ?_
   refine kb Y Y Y (kb Y Y Y (kb Y Y Y ?_))
   obtain ⟨t25, h8, hm⟩ := bindO hm
   refine ji Y Y Y Y (fun w _ => JQ h8 hl_a550 (runUnderlying118 w) (sizeOf3 w) Y Y) (kb Y Y Y (jA Y Y Y Y (fun w hh => kn (vs := [_, _]) (isAgg164 w) (sizeOf164 w) Y (hh.cells 0 Y Y)) (kb Y Y Y (jJ Y (jc Y Y Y (fun w hh => jW RI 0 h8 (isAgg3 w) Y (hh.bsegA 1 Y) Y (Nat.add_zero _).symm) (jr (hsE [0] [] 0 Y Y Y Y) ?_))))))
   obtain ⟨t28, h9, hm⟩ := bindO hm
   refine ji Y Y Y Y (fun _ _ => zD h9 Y Y) ?_
   obtain ⟨t31, h10, hm⟩ := bindO hm
   refine ji Y Y Y Y (fun w _ => JQ h10 hl_a550 (runUnderlying118 w) (sizeOf3 w) Y Y) (jJ Y ?_)
   obtain ⟨a55, ha55, hm⟩ := bindO hm
   refine ja1 RI 1 0 t28 (S' := [_, _, _, _]) (fun w => sizeOf3 w) Y Y Y Y hl_a550 (Nat.add_zero _).symm Y h10 Y Y (Option.some.inj ha55) Y (fun h11 => ?_)
   refine jr (hsE [0] [] 0 Y Y Y Y) ?_
   obtain ⟨t32, h12, hm⟩ := bindO hm
   refine ji Y Y Y Y (fun w _ => JQ h12 hl_a660 (runUnderlying171 w) (sizeOf164 w) Y Y) (jJ Y ?_)
   obtain ⟨a66, ha66, hm⟩ := bindO hm
   refine ja7 (us := #[_, _]) RCh 2 c0 (S' := [_, _, _, _]) (fun w => sizeOf164 w) Y Y Y hl_a660 Y Y h12 Y (Option.some.inj ha66) Y (fun h13 => ?_)
   refine jr (hsE [0] [] 0 Y Y Y Y) (jJ Y (y4 (cs' := #[_]) (S' := [_, _, _, _]) 3 (fun w => sizeOf3 w) Y Y Y Y Y Y Y (jr (hsE [0] [] 0 Y Y Y Y) (jI ?_))))
   obtain rfl := sj hm
   refine JP Y (fun w hh => .nil) (fun w hh => ⟨(), rfl, ⟨h11, h13⟩, hh.se [1, 2, 3] [] 0 Y Y Y rfl⟩)
  replace hm := ifE h7 hm
  refine jt ?_
  obtain rfl := sj hm
  refine JP Y (fun w hh => .nil) (fun w hh => ⟨(), rfl, ⟨hl_a550, hl_a660⟩, hh.se [1, 2, 3] [] 0 Y Y Y rfl⟩)
structure JN where
  f1_c0_0 : (List Int)
  f1_c1_0 : (List Change)
  f1_c2 : Int
structure KF where
  f1_c0_0 : (List Int)
  f1_c1_0 : (List Change)
  f1_c2 : Int
structure qL where
  t17 : Int
  f1_c0_0 : (List Int)
  f1_c1_0 : (List Change)
  f1_c2 : Int
structure KI where
  f1_c0_0 : (List Int)
  f1_c1_0 : (List Change)
  f1_c2 : Int
structure yB where
  t22 : Int
  f1_c0_0 : (List Int)
  f1_c1_0 : (List Change)
  f1_c2 : Int
structure qy where
  f1_c0_0 : (List Int)
  f1_c1_0 : (List Change)
  f1_c2 : Int
def kg (n00 : (List Wy)) (s : qL) (s_1 : yB) : Option (yB ⊕ KI) :=
 if s_1.t22 < ([true, false].length : Int) then
 (((ix [true, false] s_1.t22).bind fun t24 =>
 (qq n00 (⟨s.t17, t24⟩ : Change)).bind fun t32 =>
 if 0 < t32.r3 then
 ((qf (⟨s.t17, t24⟩ : Change) t32.r0 t32.r1 t32.r2 t32.r3 s_1.f1_c0_0 s_1.f1_c1_0 s_1.f1_c2).bind fun t45 =>
 some (⟨t45.a55_0, t45.a66_0, t45.a77⟩ : qy)) else
 (some (⟨s_1.f1_c0_0, s_1.f1_c1_0, s_1.f1_c2⟩ : qy))).bind fun o_2 =>
 (addc s_1.t22 1).bind fun t46 =>
 some (.inl (⟨t46, o_2.f1_c0_0, o_2.f1_c1_0, o_2.f1_c2⟩ : yB))) else
 (some (.inr (⟨s_1.f1_c0_0, s_1.f1_c1_0, s_1.f1_c2⟩ : KI)))
def qJ (n00 : (List Wy)) (s : qL) : Option (qL ⊕ KF) :=
 if s.t17 < (n00.length : Int) then
 ((iterM FU (kg n00 s) (⟨0, s.f1_c0_0, s.f1_c1_0, s.f1_c2⟩ : yB)).bind fun o_1 =>
 (addc s.t17 1).bind fun t47 =>
 some (.inl (⟨t47, o_1.f1_c0_0, o_1.f1_c1_0, o_1.f1_c2⟩ : qL))) else
 (some (.inr (⟨s.f1_c0_0, s.f1_c1_0, s.f1_c2⟩ : KF)))
def yX (n00 : (List Wy)) (f1_c00 : (List Int)) (f1_c10 : (List Change)) (f1_c2 : Int) : Option JN :=
 (iterM FU (qJ n00) (⟨0, f1_c00, f1_c10, f1_c2⟩ : qL)).bind fun o =>
 some (⟨o.f1_c0_0, o.f1_c1_0, o.f1_c2⟩ : JN)
theorem Y4 (n00 : (List Wy)) (f1_c00 : (List Int)) (f1_c10 : (List Change)) (f1_c2 : Int) (rb : Nat) (qa1 : Option Addr) (na1 ca1 : Nat) (pb : Nat) (pb_1 : Nat) (pb_2 : Nat) (w : World) (hw : HV w (keys [(pb, .cells (RI.enc f1_c00).toArray 118 (0, 0)), (pb_1, .cells (RCh.enc f1_c10).toArray 171 (0, 0)), kc pb_2 #[.int .i64 f1_c2] 3] []) [(pb, .cells (RI.enc f1_c00).toArray 118 (0, 0)), (pb_1, .cells (RCh.enc f1_c10).toArray 171 (0, 0)), kc pb_2 #[.int .i64 f1_c2] 3] [] [(rb, 0, [.slice qa1 na1 ca1]), (aB qa1, aO qa1, RWay.enc n00)] w)  (hna1 : n00.length = na1) (hqa1 : AOK na1 qa1) (hla1 : na1 ≤ ca1) (hl_f1_c00 : f1_c00.length = 12) (hl_f1_c10 : f1_c10.length = 12) {res : JN} (hm : yX n00 f1_c00 f1_c10 f1_c2 = some res) :
    Calls Tryz.prog 108 #[ptr rb 0, .func (.func 131) #[] #[ptr pb 0, ptr pb_1 0, ptr pb_2 0]] w (fun en w' => ∃ l : Unit, en = .returned (.tuple #[]) ∧ (res.f1_c0_0.length = 12 ∧ res.f1_c1_0.length = 12) ∧ HV w (keys [(pb, .cells (RI.enc f1_c00).toArray 118 (0, 0)), (pb_1, .cells (RCh.enc f1_c10).toArray 171 (0, 0)), kc pb_2 #[.int .i64 f1_c2] 3] []) [(pb, .cells (RI.enc res.f1_c0_0).toArray 118 (0, 0)), (pb_1, .cells (RCh.enc res.f1_c1_0).toArray 171 (0, 0)), kc pb_2 #[.int .i64 res.f1_c2] 3] [] [] w') := by
  unfold yX at hm
  refine kj func108 Y ntmps108 Y (e := [(0, _), (1, _)]) Y hw (jp (je Y Y (jc Y Y Y (fun _ _ => jN Y) (jM 0 runUnderlying154 Y sizeOf152 Y Y (jc Y Y Y (fun w hh => j0 (isAgg152 w) Y (segCell (hh.seg 0 Y) 0 Y)) (jc Y Y Y (fun w _ => jB hna1 (runUnderlying152 w) Y) (je Y Y ?_)))))))
  refine jo ?_
  obtain ⟨o, h3, h4⟩ := bindO hm
  refine jD (ι := Unit) (fun l => o.f1_c0_0.length = 12 ∧ o.f1_c1_0.length = 12) (fun l => []) (fun l => [(pb, .cells (RI.enc o.f1_c0_0).toArray 118 (0, 0)), (pb_1, .cells (RCh.enc o.f1_c1_0).toArray 171 (0, 0)), kc pb_2 #[.int .i64 o.f1_c2] 3]) (fun l => []) ?_ ?_
  ·replace hm := h3
   refine jl ?_
   refine jF (ι := Unit) hm (fun s l_1 => s.f1_c0_0.length = 12 ∧ s.f1_c1_0.length = 12) (fun s l_1 => [(0, ptr rb 0), (1, .func (.func 131) #[] #[ptr pb 0, ptr pb_1 0, ptr pb_2 0]), (16, .int .i64 (n00.length : Int)), (17, .int .i64 s.t17)]) (fun s l_1 => [(pb, .cells (RI.enc s.f1_c0_0).toArray 118 (0, 0)), (pb_1, .cells (RCh.enc s.f1_c1_0).toArray 171 (0, 0)), kc pb_2 #[.int .i64 s.f1_c2] 3]) (fun s l_1 => []) () (⟨hl_f1_c00, hl_f1_c10⟩) (sE Y) (fun w hh => hh) (fun s l_1 r hpl hm h9 => ?_)
   obtain ⟨h7, h8⟩ := hpl
   unfold qJ at hm
   refine jp (q8 Y Y Y (jo (jk ?_)))
   refine jq Y (fun h10 => ?_) (fun h10 => ?_)
   ·replace hm := ifD h10 hm
    refine jt (ja (jk (jl (jp (je Y Y (jm Y Y (j3 ?_)))))))
    refine kU RB [true, false] (ps := [(0, _), (1, _)]) (cells := [_, _]) (fun w => runUnderlying93 w) (fun w => sizeOf4 w) (fun w => zeroValue4 w) Y Y Y Y Y Y Y Y (fun L h11 => ?_)
    refine jc Y Y Y (fun w _ => QC (vlen RB h11 Y) (runUnderlying93 w) Y) (je Y Y (jo ?_))
    obtain ⟨o_1, h12, h13⟩ := bindO hm
    refine jD (ι := Unit) (fun l_2 => o_1.f1_c0_0.length = 12 ∧ o_1.f1_c1_0.length = 12) (fun l_2 => [(0, ptr rb 0), (1, .func (.func 131) #[] #[ptr pb 0, ptr pb_1 0, ptr pb_2 0]), (16, .int .i64 (n00.length : Int)), (17, .int .i64 s.t17)]) (fun l_2 => [(pb, .cells (RI.enc o_1.f1_c0_0).toArray 118 (0, 0)), (pb_1, .cells (RCh.enc o_1.f1_c1_0).toArray 171 (0, 0)), kc pb_2 #[.int .i64 o_1.f1_c2] 3]) (fun l_2 => []) ?_ ?_
    ·replace hm := h12
     refine jl ?_
     refine jF (ι := Unit) hm (fun s_1 l_3 => s_1.f1_c0_0.length = 12 ∧ s_1.f1_c1_0.length = 12) (fun s_1 l_3 => [(0, ptr rb 0), (1, .func (.func 131) #[] #[ptr pb 0, ptr pb_1 0, ptr pb_2 0]), (4, .int .i64 s.t17), (16, .int .i64 (n00.length : Int)), (17, .int .i64 s.t17), (20, sL L), (21, .int .i64 ([true, false].length : Int)), (22, .int .i64 s_1.t22)]) (fun s_1 l_3 => [(pb, .cells (RI.enc s_1.f1_c0_0).toArray 118 (0, 0)), (pb_1, .cells (RCh.enc s_1.f1_c1_0).toArray 171 (0, 0)), kc pb_2 #[.int .i64 s_1.f1_c2] 3]) (fun s_1 l_3 => [⟨4, RB.enc [true, false], L.sp, L.q, []⟩]) () (⟨h7, h8⟩) (sE Y) (fun w hh => hh) (fun s_1 l_3 r_1 hpl hm h18 => ?_)
     obtain ⟨h16, h17⟩ := hpl
     unfold kg at hm
     refine jp (q8 Y Y Y (jo (jk ?_)))
     refine jq Y (fun h19 => ?_) (fun h19 => ?_)
     ·replace hm := ifD h19 hm
      refine jt (ja (jk ?_))
      obtain ⟨o_2, h20, h21⟩ := bindO hm
      refine jD (ι := Unit) (fun l_4 => o_2.f1_c0_0.length = 12 ∧ o_2.f1_c1_0.length = 12) (fun l_4 => [(0, ptr rb 0), (1, .func (.func 131) #[] #[ptr pb 0, ptr pb_1 0, ptr pb_2 0]), (4, .int .i64 s.t17), (16, .int .i64 (n00.length : Int)), (17, .int .i64 s.t17), (20, sL L), (21, .int .i64 ([true, false].length : Int)), (22, .int .i64 s_1.t22)]) (fun l_4 => [(pb, .cells (RI.enc o_2.f1_c0_0).toArray 118 (0, 0)), (pb_1, .cells (RCh.enc o_2.f1_c1_0).toArray 171 (0, 0)), kc pb_2 #[.int .i64 o_2.f1_c2] 3]) (fun l_4 => [⟨4, RB.enc [true, false], L.sp, L.q, []⟩]) ?_ ?_
      ·replace hm := h20
       refine jl (jp ?_)
       obtain ⟨t24, h24, hm⟩ := bindO hm
       refine jc Y Y Y (fun w _ => qR h24 (runUnderlying93 w) (sizeOf4 w) Y Y (vlen RB h11 Y) (vne h11)) (jc Y Y Y (fun w hh => jW RB 0 h24 (isAgg4 w) Y (hh.vseg 0 Y h11) Y (Nat.add_zero _).symm) (jm Y Y (j3 (je Y Y (je Y Y (jc Y Y Y (fun _ _ => jG (vs := [(0, _), (1, _)]) (cells := [_, _]) Y Y) ?_))))))
       refine ju (fun w => zeroValue164 w) Y (fun b h25 => ?_)
       refine jE (us := #[_, _]) (cs' := [_, _]) (S' := [_, _, _, _]) 0 (fun w => sizeOf164 w) Y Y Y Y Y Y Y (j3 (je Y Y (qh [_, _] 0 isAgg164 sizeOf164 Y Y Y Y ?_)))
       obtain ⟨t32, h26, hm⟩ := bindO hm
       refine jd [] [] Y Y Y Y Y Y Y call130 (fun w hh => Kg n00 (⟨s.t17, t24⟩ : Change) rb qa1 na1 ca1 w (HV.callee (S0 := []) (vs0 := []) hh (roR hh 0 Y (roR hh 1 Y roN))) hna1 hqa1 hla1 h26) (fun l_5 h27 => ?_)
       refine je Y Y (kt Y Y Y (kt Y Y Y (kt Y Y Y (kt Y Y Y (jm Y Y (jm Y Y (jm Y Y ?_)))))))
       refine jm Y Y (j3 (je Y Y (jc Y Y Y (fun _ _ => JU Y Y) (jo ?_))))
       refine jq Y (fun h28 => ?_) (fun h28 => ?_)
       ·replace hm := ifD h28 hm
        refine jh (je Y Y (qh [_, _] 0 isAgg164 sizeOf164 Y Y Y Y (je Y Y (je Y Y (je Y Y (je Y Y ?_))))))
        obtain ⟨t45, h29, hm⟩ := bindO hm
        refine jT (S' := [_, _, _, _]) (vs' := [_]) [1, 2, 3, 0] [0] 0 Y Y Y Y ?_
        refine jd [_, _, _] [] Y Y Y Y Y Y Y call131 (fun w hh => YB (⟨s.t17, t24⟩ : Change) t32.r0 t32.r1 t32.r2 t32.r3 s_1.f1_c0_0 s_1.f1_c1_0 s_1.f1_c2 pb pb_1 pb_2 w (HV.callee (S0 := [_, _, _]) (vs0 := []) hh roN) h16 h17 h29) (fun l_6 h30 => ?_)
        obtain ⟨h31, h32⟩ := h30
        refine jT (S' := [_, _, _, _]) (vs' := [_]) [0, 1, 2, 3] [0] 0 Y Y Y Y (jv (js ?_))
        obtain rfl := sj hm
        exact jg () (⟨h31, h32⟩) (sE Y) (hsE [0, 1, 2] [0] 0 Y Y Y Y)
       replace hm := ifE h28 hm
       refine jt (js ?_)
       obtain rfl := sj hm
       exact jg () (⟨h16, h17⟩) (sE Y) (hsE [1, 2, 3] [0] 0 Y Y Y Y)
      intro l_4 hj
      obtain ⟨h22, h23⟩ := hj
      replace hm := h21
      refine ja (jh ?_)
      obtain ⟨t46, h33, hm⟩ := bindO hm
      refine kS h33 Y Y Y (je Y Y (jv ?_))
      obtain rfl := sj hm
      refine ja ?_
      exact jy _ () Y (⟨h22, h23⟩) (sE Y) (fun w hh => hh)
     replace hm := ifE h19 hm
     refine jO (jj (jj (jC ?_)))
     obtain rfl := sj hm
     have hbo := h18 _ Y
     subst hbo
     exact jg () (⟨h16, h17⟩) (sE Y) (hsE [0, 1, 2] [] 0 Y Y Y Y)
    intro l_2 hj
    obtain ⟨h14, h15⟩ := hj
    replace hm := h13
    refine js (ja (jh ?_))
    obtain ⟨t47, h34, hm⟩ := bindO hm
    refine kS h34 Y Y Y (je Y Y (jv ?_))
    obtain rfl := sj hm
    refine ja ?_
    exact jy _ () Y (⟨h14, h15⟩) (sE Y) (fun w hh => hh)
   replace hm := ifE h10 hm
   refine jO (jj (jj (jC ?_)))
   obtain rfl := sj hm
   have hbo := h9 _ Y
   subst hbo
   exact jg () (⟨h7, h8⟩) (.nil) (fun w hh => hh)
  intro l hj
  obtain ⟨h5, h6⟩ := hj
  replace hm := h4
  obtain rfl := sj hm
  refine JP Y (fun w hh => .nil) (fun w hh => ⟨(), rfl, ⟨h5, h6⟩, hh.se [0, 1, 2] [] 2 Y Y Y rfl⟩)
structure zT where
  last5 : Int
  by4 : (List Change)
  far3 : (List Int)
structure zI where
  t9 : Int
  last5 : Int
  by4 : (List Change)
  far3 : (List Int)
def qx (n00 : (List Wy)) (s : zI) : Option (zI ⊕ zT) :=
 if s.t9 < 13 then
 ((yX n00 s.far3 s.by4 (-1)).bind fun t13 =>
 (addc s.t9 1).bind fun t14 =>
 some (.inl (⟨t14, t13.f1_c2, t13.f1_c1_0, t13.f1_c0_0⟩ : zI))) else
 (some (.inr (⟨s.last5, s.by4, s.far3⟩ : zT)))
structure zE where
  at6 : Int
  t18 : Int
def qG (o : zT) (n00 : (List Wy)) (s_1 : zE) : Option (zE ⊕ Int) :=
 if s_1.t18 < 12 then
 ((ix o.by4 s_1.at6).bind fun t23 =>
 (qq n00 t23).bind fun t25 =>
 (addc s_1.t18 1).bind fun t30 =>
 some (.inl (⟨t25.r0, t30⟩ : zE))) else
 (some (.inr s_1.at6))
structure zH where
  at6 : Int
  out7 : (List Change)
def qF (o : zT) (n00 : (List Wy)) (o_1 : Int) (s_2 : zH) : Option (zH ⊕ (Unit ⊕ (List Change))) :=
 (ix o.by4 s_2.at6).bind fun t34 =>
 (appc 16 s_2.out7 [t34]).bind fun t37 =>
 (ix o.by4 s_2.at6).bind fun t41 =>
 (qq n00 t41).bind fun t43 =>
 if t43.r0 = o_1 then
 (some (.inr (.inr t37))) else
 (some (.inl (⟨t43.r0, t37⟩ : zH)))
def zp (n00 : (List Wy)) : Option (List Change) :=
 (iterM FU (qx n00) (⟨0, -1, (List.replicate 12 (⟨0, false⟩ : Change) : (List Change)), (List.replicate 12 0 : (List Int))⟩ : zI)).bind fun o =>
 if o.last5 < 0 then
 (some []) else
 ((iterM FU (qG o n00) (⟨o.last5, 0⟩ : zE)).bind fun o_1 =>
 (iterM FU (qF o n00 o_1) (⟨o_1, []⟩ : zH)).bind fun o_2 =>
 oc o_2 (fun j => none) (fun r_3 => some r_3))
theorem ZP (n00 : (List Wy)) (rb : Nat) (qa1 : Option Addr) (na1 ca1 : Nat) (w : World) (hw : HV w (keys [] []) [] [] [(rb, 0, [.slice qa1 na1 ca1]), (aB qa1, aO qa1, RWay.enc n00)] w)  (hna1 : n00.length = na1) (hqa1 : AOK na1 qa1) (hla1 : na1 ≤ ca1) {res : (List Change)} (hm : zp n00 = some res) :
    Calls Tryz.prog 107 #[ptr rb 0] w (fun en w' => ∃ l : VL, en = .returned (sL l) ∧ (VOK 2 l.n l.cap (RCh.enc res) l.sp l.q ∧ (l.q = none ↔ res = [])) ∧ HV w (keys [] []) [] [vL 164 l (RCh.enc res)] [] w') := by
  unfold zp at hm
  refine kj func107 Y ntmps107 Y (e := [(0, _)]) Y hw (jp (jc Y Y Y (fun _ _ => qQ Y) (j3 ?_)))
  refine zG RI (l := (List.replicate 12 0 : (List Int))) (k := 12) (fun w => zeroValue118 w) Y Y Y (fun b h3 h4 => ?_)
  refine j3 ?_
  refine zG RCh (l := (List.replicate 12 (⟨0, false⟩ : Change) : (List Change))) (k := 12) (fun w => zeroValue171 w) Y Y Y (fun b_1 h5 h6 => ?_)
  refine j3 ?_
  refine ju (fun w => zeroValue3 w) Y (fun b_2 h7 => ?_)
  refine y4 (cs' := #[_]) (S' := [_, _, _]) 0 (fun w => sizeOf3 w) Y Y Y Y Y Y Y (jo (jk (jp (je Y Y (jo ?_)))))
  obtain ⟨o, h8, h9⟩ := bindO hm
  refine jD (ι := Unit) (fun l => o.by4.length = 12 ∧ o.far3.length = 12) (fun l => [(0, ptr rb 0), (4, ptr b_1 0), (5, ptr b_2 0)]) (fun l => [kc b_2 #[.int .i64 o.last5] 3, (b_1, .cells (RCh.enc o.by4).toArray 171 (0, 0)), (b, .cells (RI.enc o.far3).toArray 118 (0, 0))]) (fun l => []) ?_ ?_
  ·replace hm := h8
   refine jl ?_
   refine jF (ι := Unit) hm (fun s l_1 => s.by4.length = 12 ∧ s.far3.length = 12) (fun s l_1 => [(0, ptr rb 0), (3, ptr b 0), (4, ptr b_1 0), (5, ptr b_2 0), (9, .int .i64 s.t9)]) (fun s l_1 => [kc b_2 #[.int .i64 s.last5] 3, (b_1, .cells (RCh.enc s.by4).toArray 171 (0, 0)), (b, .cells (RI.enc s.far3).toArray 118 (0, 0))]) (fun s l_1 => []) () (⟨h6, h4⟩) (sE Y) (fun w hh => hh) (fun s l_1 r hpl hm h14 => ?_)
   obtain ⟨h12, h13⟩ := hpl
   unfold qx at hm
   refine jp (q8 Y Y Y (jo (jk ?_)))
   refine jq Y (fun h15 => ?_) (fun h15 => ?_)
   ·replace hm := ifD h15 hm
    refine jt (ja (jk (jl (jp (y4 (cs' := #[_]) (S' := [_, _, _]) 0 (fun w => sizeOf3 w) Y Y Y Y Y Y Y (jo (jh ?_)))))))
    refine je Y Y (jc Y Y Y (fun _ _ => jR (u := #[]) (u' := #[_, _, _]) Y Y) ?_)
    obtain ⟨t13, h16, hm⟩ := bindO hm
    refine jT (S' := [_, _, _]) (vs' := []) [2, 1, 0] [] 0 Y Y Y Y ?_
    refine jd [_, _, _] [] Y Y Y Y Y Y Y call108 (fun w hh => Y4 n00 s.far3 s.by4 (-1) rb qa1 na1 ca1 b b_1 b_2 w (HV.callee (S0 := [_, _, _]) (vs0 := []) hh (roR hh 0 Y (roR hh 1 Y roN))) hna1 hqa1 hla1 h13 h12 h16) (fun l_2 h17 => ?_)
    obtain ⟨h18, h19⟩ := h17
    refine jT (S' := [_, _, _]) (vs' := []) [0, 1, 2] [] 0 Y Y Y Y (jv (js (ja (jh ?_))))
    obtain ⟨t14, h20, hm⟩ := bindO hm
    refine kS h20 Y Y Y (je Y Y (jv ?_))
    obtain rfl := sj hm
    refine ja ?_
    exact jy _ () Y (⟨h19, h18⟩) (sE Y) (hsE [2, 1, 0] [] 0 Y Y Y Y)
   replace hm := ifE h15 hm
   refine jO (jj (jj (jC ?_)))
   obtain rfl := sj hm
   have hbo := h14 _ Y
   subst hbo
   exact jg () (⟨h12, h13⟩) (sE Y) (fun w hh => hh)
  intro l hj
  obtain ⟨h10, h11⟩ := hj
  replace hm := h9
  refine ja (jk (jp (jS 0 isAgg3 Y Y Y Y (q8 Y Y Y (jo ?_)))))
  refine jq Y (fun h21 => ?_) (fun h21 => ?_)
  ·replace hm := ifD h21 hm
   refine jp (jc Y Y Y (fun _ _ => qQ Y) (jo (jw (jf (kp 164 ?_)))))
   obtain rfl := sj hm
   refine jn Y (fun w hh => (.tmp Y .nil)) (fun w hh => ⟨⟨none, 0, 0, []⟩, rfl, ⟨VOK.nil, nieN⟩, hh.se [] [0] 2 Y Y Y rfl⟩)
  replace hm := ifE h21 hm
  refine jt (ja (jp (jS 0 isAgg3 Y Y Y Y (jm Y Y (jo (jk (jp ?_)))))))
  refine je Y Y (jo ?_)
  obtain ⟨o_1, h22, h23⟩ := bindO hm
  refine jD (ι := Unit) (fun l_3 => True) (fun l_3 => [(0, ptr rb 0), (4, ptr b_1 0), (6, .int .i64 o_1)]) (fun l_3 => [kc b_2 #[.int .i64 o.last5] 3, (b_1, .cells (RCh.enc o.by4).toArray 171 (0, 0)), (b, .cells (RI.enc o.far3).toArray 118 (0, 0))]) (fun l_3 => []) ?_ ?_
  ·replace hm := h22
   refine jl ?_
   refine jF (ι := Unit) hm (fun s_1 l_4 => True) (fun s_1 l_4 => [(0, ptr rb 0), (4, ptr b_1 0), (6, .int .i64 s_1.at6), (18, .int .i64 s_1.t18)]) (fun s_1 l_4 => [kc b_2 #[.int .i64 o.last5] 3, (b_1, .cells (RCh.enc o.by4).toArray 171 (0, 0)), (b, .cells (RI.enc o.far3).toArray 118 (0, 0))]) (fun s_1 l_4 => []) () (trivial) (sE Y) (fun w hh => hh) (fun s_1 l_4 r_1 hpl hm h24 => ?_)
   unfold qG at hm
   refine jp (q8 Y Y Y (jo (jk ?_)))
   refine jq Y (fun h25 => ?_) (fun h25 => ?_)
   ·replace hm := ifD h25 hm
    refine jt (ja (jk (jl (jh (je Y Y (je Y Y ?_))))))
    obtain ⟨t23, h26, hm⟩ := bindO hm
    refine jc Y Y Y (fun w _ => JQ h26 h10 (runUnderlying171 w) (sizeOf164 w) Y Y) ?_
    refine jc Y Y Y (fun w hh => kz RCh 0 [.int .i64 t23.way, .bool t23.more] h26 (isAgg164 w) (sizeOf164 w) Y (hh.bsegA 1 Y) Y (Nat.add_zero _).symm) ?_
    obtain ⟨t25, h27, hm⟩ := bindO hm
    refine jd [] [] Y Y Y Y Y Y Y call130 (fun w hh => Kg n00 t23 rb qa1 na1 ca1 w (HV.callee (S0 := []) (vs0 := []) hh (roR hh 0 Y (roR hh 1 Y roN))) hna1 hqa1 hla1 h27) (fun l_5 h28 => ?_)
    refine je Y Y (kt Y Y Y (kt Y Y Y (kt Y Y Y (kt Y Y Y (jm Y Y (jv (js ?_)))))))
    refine ja (jh ?_)
    obtain ⟨t30, h29, hm⟩ := bindO hm
    refine kS h29 Y Y Y (je Y Y (jv ?_))
    obtain rfl := sj hm
    refine ja ?_
    exact jy _ () Y (trivial) (sE Y) (fun w hh => hh)
   replace hm := ifE h25 hm
   refine jO (jj (jj (jC ?_)))
   obtain rfl := sj hm
   have hbo := h24 _ Y
   subst hbo
   exact jg () (trivial) (sE Y) (fun w hh => hh)
  intro l_3 hj
  replace hm := h23
  refine ja (jp (jc Y Y Y (fun _ _ => qQ Y) (j3 (je Y Y (jm Y Y (jo (kp 164 ?_)))))))
  obtain ⟨o_2, h30, h31⟩ := bindO hm
  refine jD (ι := Unit) (fun j => False) (fun j => []) (fun j => [kc b_2 #[.int .i64 o.last5] 3, (b_1, .cells (RCh.enc o.by4).toArray 171 (0, 0)), (b, .cells (RI.enc o.far3).toArray 118 (0, 0))]) (fun j => []) ?_ ?_
  ·replace hm := h30
   refine jl ?_
   refine jF (ι := VL) hm (fun s_2 l_6 => VOK 2 l_6.n l_6.cap (RCh.enc s_2.out7) l_6.sp l_6.q ∧ (l_6.q = none ↔ s_2.out7 = [])) (fun s_2 l_6 => [(0, ptr rb 0), (4, ptr b_1 0), (6, .int .i64 s_2.at6), (7, sL l_6), (8, .int .i64 o_1)]) (fun s_2 l_6 => [kc b_2 #[.int .i64 o.last5] 3, (b_1, .cells (RCh.enc o.by4).toArray 171 (0, 0)), (b, .cells (RI.enc o.far3).toArray 118 (0, 0))]) (fun s_2 l_6 => [vL 164 l_6 (RCh.enc s_2.out7)]) ⟨none, 0, 0, []⟩ (⟨VOK.nil, nieN⟩) (sE Y) (fun w hh => hh) (fun s_2 l_6 r_2 hpl hm h34 => ?_)
   obtain ⟨h32, h33⟩ := hpl
   unfold qF at hm
   refine jl (jp (je Y Y (je Y Y ?_)))
   obtain ⟨t34, h35, hm⟩ := bindO hm
   refine jc Y Y Y (fun w _ => JQ h35 h10 (runUnderlying171 w) (sizeOf164 w) Y Y) ?_
   refine jc Y Y Y (fun w hh => kz RCh 0 [.int .i64 t34.way, .bool t34.more] h35 (isAgg164 w) (sizeOf164 w) Y (hh.bsegA 1 Y) Y (Nat.add_zero _).symm) ?_
   refine kU RCh [t34] (ps := [(0, _)]) (cells := [_, _]) (fun w => runUnderlying157 w) (fun w => sizeOf164 w) (fun w => zeroValue164 w) Y Y Y Y Y Y Y Y (fun L h36 => ?_)
   obtain ⟨t37, h37, hm⟩ := bindO hm
   refine yS RCh 1 h37 underlying157 Zs Y Y Y Y Y h32 Y Y (vlen RCh h36 Y) (AOK.q (vne h36)) (fun w hh => (hh.vsegA 0 Y h36)) Y (fun L_1 h38 h38n => ?_)
   refine jT (S' := [_, _, _]) (vs' := [_, _]) [0, 1, 2] [0, 1] 0 Y Y Y Y (jm Y Y (j3 (je Y Y (je Y Y ?_))))
   obtain ⟨t41, h39, hm⟩ := bindO hm
   refine jc Y Y Y (fun w _ => JQ h39 h10 (runUnderlying171 w) (sizeOf164 w) Y Y) ?_
   refine jc Y Y Y (fun w hh => kz RCh 0 [.int .i64 t41.way, .bool t41.more] h39 (isAgg164 w) (sizeOf164 w) Y (hh.bsegA 1 Y) Y (Nat.add_zero _).symm) ?_
   obtain ⟨t43, h40, hm⟩ := bindO hm
   refine jd [] [] Y Y Y Y Y Y Y call130 (fun w hh => Kg n00 t41 rb qa1 na1 ca1 w (HV.callee (S0 := []) (vs0 := []) hh (roR hh 0 Y (roR hh 1 Y roN))) hna1 hqa1 hla1 h40) (fun l_7 h41 => ?_)
   refine je Y Y (kt Y Y Y (kt Y Y Y (kt Y Y Y (kt Y Y Y (jm Y Y (j3 (je Y Y ?_)))))))
   refine je Y Y (jc Y Y Y (fun _ _ => Kc Y Y) (jo ?_))
   refine jq Y (fun h42 => ?_) (fun h42 => ?_)
   ·replace hm := ifD h42 hm
    refine jp (je Y Y (jm Y Y (jo (jw (jz (jf (jz ?_)))))))
    obtain rfl := sj hm
    have hbo := h34 _ Y
    subst hbo
    refine jf ?_
    replace hm := ocR h31
    obtain rfl := sj hm
    refine jn Y (fun w hh => (.tmp Y .nil)) (fun w hh => ⟨L_1, rfl, ⟨h38, (h38n h33)⟩, hh.se [] [1] 2 Y Y Y rfl⟩)
   replace hm := ifE h42 hm
   refine jt (js ?_)
   obtain rfl := sj hm
   refine ja ?_
   exact jy _ L_1 Y (⟨h38, (h38n h33)⟩) (sE Y) (hsE [0, 1, 2] [1] 0 Y Y Y Y)
  exact fun _ hf => hf.elim
structure q7 where
  r1 : Lack
  t12 : (List Wy)
structure qj where
  t20 : Int
  t12 : (List Wy)
def yb (s : qj) (d00 : (List Strip)) (d01 : (List Span)) (s_1 : (List Wy)) : Option ((List Wy) ⊕ ((List Wy) ⊕ (Lack ⊕ q7))) :=
 (ix s_1 s.t20).bind fun t28 =>
 (ix s_1 s.t20).bind fun t36 =>
 if t28.goes < t36.lo then
 ((ix s_1 s.t20).bind fun t45 =>
 (KR s_1 t45.dst t45.fr).bind fun t53 =>
 if (t53.r0.isEmpty) = true then
 ((QB d00 d01 t45 t53.r1).bind fun t61 =>
 some (.inr (.inr (.inl t61)))) else
 ((subc t45.lo t45.goes).bind fun t72 =>
 (appc 16 t53.r0 [(⟨s.t20, true⟩ : Change)]).bind fun t67 =>
 (z7 s_1 t67 t72).bind fun t73 =>
 some (.inl t73))) else
 (some (.inr (.inl s_1)))
def q6 (t14 : (List Wy)) (d00 : (List Strip)) (d01 : (List Span)) (s : qj) : Option (qj ⊕ ((List Wy) ⊕ (Lack ⊕ q7))) :=
 if s.t20 < (t14.length : Int) then
 ((iterM FU (yb s d00 d01) s.t12).bind fun o_1 =>
 oc o_1 (fun j_1 => (addc s.t20 1).bind fun t74 =>
 some (.inl (⟨t74, j_1⟩ : qj))) (fun r_2 => some (.inr (.inr r_2)))) else
 (some (.inr (.inl s.t12)))
def qZ  (s_2 : (List Wy)) : Option ((List Wy) ⊕ (List Wy)) :=
 (zp s_2).bind fun t76 =>
 if (t76.isEmpty) = true then
 (some (.inr s_2)) else
 ((z7 s_2 t76 1000000).bind fun t81 =>
 some (.inl t81))
def j5 (d00 : (List Strip)) (d01 : (List Span)) (d02 : (List (Pair × Bool))) (c1_0 : (Pair → Option Int)) : Option (Lack ⊕ q7) :=
 (J9 d00 d01 d02 c1_0).bind fun t14 =>
 (iterM FU (q6 t14 d00 d01) (⟨0, t14⟩ : qj)).bind fun o =>
 oc o (fun j => (iterM FU (qZ) j).bind fun o_2 =>
 some (.inr (⟨(⟨false, []⟩ : Lack), o_2⟩ : q7))) (fun r_4 => some r_4)
theorem kd (d00 : (List Strip)) (d01 : (List Span)) (d02 : (List (Pair × Bool))) (c1_0 : (Pair → Option Int)) (rb : Nat) (qa1 : Option Addr) (na1 ca1 : Nat) (qa2 : Option Addr) (na2 ca2 : Nat) (pb : Nat) (f_c1_0 : FuncId) (fs_c1_0 cs_c1_0 : Array Value) (T_c1_0 : List Sg) (w : World) (hw : HV w (keys [(pb, gobj (kR RPr) kB d02)] []) [(pb, gobj (kR RPr) kB d02)] [] ([(rb, 0, [.slice qa1 na1 ca1, .slice qa2 na2 ca2, .map (some pb)]), (aB qa1, aO qa1, RSt.enc d00), (aB qa2, aO qa2, RSp.enc d01)] ++ T_c1_0) w)  (hna1 : d00.length = na1) (hqa1 : AOK na1 qa1) (hla1 : na1 ≤ ca1) (hna2 : d01.length = na2) (hqa2 : AOK na2 qa2) (hla2 : na2 ≤ ca2) (hcl_c1_0 : ClOK Tryz.prog f_c1_0 fs_c1_0 cs_c1_0 T_c1_0 (fun x : Pair => [.agg #[.int .i64 x.tenant, .int .i64 x.strip]]) (fun x : Int => .int .i64 x) c1_0) {res : (Lack ⊕ q7)} (hm : j5 d00 d01 d02 c1_0 = some res) :
    Calls Tryz.prog 58 #[ptr rb 0, .agg #[.func (.func f_c1_0) fs_c1_0 cs_c1_0]] w (fun en w' => match res with | .inl res_ => (∃ l : VL, en = .returned (.tuple #[.pointer none, .agg #[.bool res_.tenants, sL l]]) ∧ (VOK 1 l.n l.cap (RI.enc res_.of_) l.sp l.q) ∧ HV w (keys [(pb, gobj (kR RPr) kB d02)] []) [(pb, gobj (kR RPr) kB d02)] [vL 3 l (RI.enc res_.of_)] [] w') | .inr res_ => (∃ l : Nat × VL × VL, en = .returned (.tuple #[ptr l.1 0, .agg #[.bool res_.r1.tenants, sL l.2.1]]) ∧ (VOK 1 l.2.1.n l.2.1.cap (RI.enc res_.r1.of_) l.2.1.sp l.2.1.q ∧ VOK 6 l.2.2.n l.2.2.cap (RWay.enc res_.t12) l.2.2.sp l.2.2.q) ∧ HV w (keys [(pb, gobj (kR RPr) kB d02)] []) [(pb, gobj (kR RPr) kB d02), kc l.1 #[sL l.2.2] 154] [vL 3 l.2.1 (RI.enc res_.r1.of_), vL 156 l.2.2 (RWay.enc res_.t12)] [] w')) := by
  unfold j5 at hm
  refine kj func58 Y ntmps58 Y (e := [(0, _), (1, _)]) Y hw (jp ?_)
  refine jK Y Y (fun b h4 => ?_)
  refine jm Y Y ?_
  refine ju (fun w => zeroValue30 w) Y (fun b_1 h5 => ?_)
  refine jo (jbt (jp (je Y Y (qh [_] 1 isAgg115 sizeOf115 Y Y Y Y ?_))))
  obtain ⟨t14, h6, hm⟩ := bindO hm
  refine jT (S' := [_, _, _]) (vs' := []) [2, 0, 1] [] 0 Y Y Y Y ?_
  refine jd [_] [] Y Y Y Y Y Y Y call103 (fun w hh => ZW d00 d01 d02 c1_0 rb qa1 na1 ca1 qa2 na2 ca2 pb f_c1_0 fs_c1_0 cs_c1_0 T_c1_0 w (HV.callee (S0 := [_]) (vs0 := []) hh (roA (roR hh 0 Y (roR hh 1 Y (roR hh 2 Y roN))) (hh.rsepT (fun t ht => (List.mem_cons_of_mem _ (List.mem_cons_of_mem _ (List.mem_cons_of_mem _ ht))))))) hna1 hqa1 hla1 hna2 hqa2 hla2 hcl_c1_0 h6) (fun l h7 => ?_)
  have h8 := h7
  refine jT (S' := [_, _, _, _]) (vs' := [_]) [0, 1, 2, 3] [0] 0 Y Y Y Y (jm Y Y (jo (jk (jp (je Y Y (jc Y Y Y (fun _ _ => jN Y) (jM 0 runUnderlying154 Y sizeOf152 Y Y ?_)))))))
  refine jS 1 isAgg152 Y Y Y Y (jc Y Y Y (fun w _ => QC (vlen RWay h8 Y) (runUnderlying152 w) Y) (je Y Y (jo ?_)))
  obtain ⟨o, h9, h10⟩ := bindO hm
  refine jD (ι := (List Wy)) (fun j => o = .inl j ∧ VOK 6 l.2.n l.2.cap (RWay.enc j) l.2.sp l.2.q) (fun j => [(5, ptr b_1 0), (6, ptr l.1 0)]) (fun j => [(pb, gobj (kR RPr) kB d02), kc l.1 #[sL l.2] 154, kc b_1 #[.bool false, slv none 0 0] 30, kc b #[.func (.func f_c1_0) fs_c1_0 cs_c1_0] 115]) (fun j => [vL 156 l.2 (RWay.enc j)]) ?_ ?_
  ·replace hm := h9
   refine jl ?_
   refine jF (ι := Unit) hm (fun s l_1 => VOK 6 l.2.n l.2.cap (RWay.enc s.t12) l.2.sp l.2.q) (fun s l_1 => [(0, ptr rb 0), (5, ptr b_1 0), (6, ptr l.1 0), (19, .int .i64 (t14.length : Int)), (20, .int .i64 s.t20)]) (fun s l_1 => [(pb, gobj (kR RPr) kB d02), kc l.1 #[sL l.2] 154, kc b_1 #[.bool false, slv none 0 0] 30, kc b #[.func (.func f_c1_0) fs_c1_0 cs_c1_0] 115]) (fun s l_1 => [vL 156 l.2 (RWay.enc s.t12)]) () (h8) (sE Y) (fun w hh => hh) (fun s l_1 r hpl hm h13 => ?_)
   have h12 := hpl
   unfold q6 at hm
   refine jp (q8 Y Y Y (jo (jk ?_)))
   refine jq Y (fun h14 => ?_) (fun h14 => ?_)
   ·replace hm := ifD h14 hm
    refine jt (ja (jk (jl (jp (je Y Y (jm Y Y (jo ?_)))))))
    obtain ⟨o_1, h15, h16⟩ := bindO hm
    refine jD (ι := (List Wy)) (fun j_1 => o_1 = .inl j_1 ∧ VOK 6 l.2.n l.2.cap (RWay.enc j_1) l.2.sp l.2.q) (fun j_1 => [(0, ptr rb 0), (5, ptr b_1 0), (6, ptr l.1 0), (19, .int .i64 (t14.length : Int)), (20, .int .i64 s.t20)]) (fun j_1 => [(pb, gobj (kR RPr) kB d02), kc l.1 #[sL l.2] 154, kc b_1 #[.bool false, slv none 0 0] 30, kc b #[.func (.func f_c1_0) fs_c1_0 cs_c1_0] 115]) (fun j_1 => [vL 156 l.2 (RWay.enc j_1)]) ?_ ?_
    ·replace hm := h15
     refine jl ?_
     refine jF (ι := Unit) hm (fun s_1 l_2 => VOK 6 l.2.n l.2.cap (RWay.enc s_1) l.2.sp l.2.q) (fun s_1 l_2 => [(0, ptr rb 0), (5, ptr b_1 0), (6, ptr l.1 0), (7, .int .i64 s.t20), (19, .int .i64 (t14.length : Int)), (20, .int .i64 s.t20)]) (fun s_1 l_2 => [(pb, gobj (kR RPr) kB d02), kc l.1 #[sL l.2] 154, kc b_1 #[.bool false, slv none 0 0] 30, kc b #[.func (.func f_c1_0) fs_c1_0 cs_c1_0] 115]) (fun s_1 l_2 => [vL 156 l.2 (RWay.enc s_1)]) () (h12) (sE Y) (fun w hh => hh) (fun s_1 l_2 r_1 hpl hm h19 => ?_)
     have h18 := hpl
     unfold yb at hm
     refine jk (jk ?_)
     refine jV none (.free 0 (.free 1 (.free 2 (.hoist 3 (.free 4 (.free 5 (.free 6 (.hoist 7 (.free 8 (.free 9 (.free 10 (.hoist 11 (.free 12 (.free 13 (.free 14 (.hoist 15 (.free 16 .done))))))))))))))))) _ Y (by decide +kernel) (fun w k hh => hh.draw k) (fun w hh => hh) ?_
     refine kb Y Y Y (ji Y Y Y Y (fun _ _ => jN Y) (kF 0 runUnderlying154 sizeOf152 Y Y Y Y (qs 1 isAgg152 Y Y Y Y Y (kb Y Y Y ?_))))
     obtain ⟨t28, h20, hm⟩ := bindO hm
     refine ji Y Y Y Y (fun w _ => qR h20 (runUnderlying152 w) (sizeOf156 w) Y Y (vlen RWay h18 Y) (vne h18)) (kF 5 runUnderlying156 sizeOf3 Y Y Y Y (jA Y Y Y Y (fun w hh => jW RWay 5 h20 (isAgg3 w) Y (hh.vseg 0 Y h18) Y Y) (kb Y Y Y (ji Y Y Y Y (fun _ _ => jN Y) (kF 0 runUnderlying154 sizeOf152 Y Y Y Y (qs 1 isAgg152 Y Y Y Y Y (kb Y Y Y ?_)))))))
     obtain ⟨t36, h21, hm⟩ := bindO hm
     refine ji Y Y Y Y (fun w _ => qR h21 (runUnderlying152 w) (sizeOf156 w) Y Y (vlen RWay h18 Y) (vne h18)) (kF 2 runUnderlying156 sizeOf3 Y Y Y Y (jA Y Y Y Y (fun w hh => jW RWay 2 h21 (isAgg3 w) Y (hh.vseg 0 Y h18) Y Y) (ji Y Y Y Y (fun _ _ => Z5 Y Y) (jI (ja ?_)))))
     refine jq Y (fun h22 => ?_) (fun h22 => ?_)
     ·replace hm := ifD h22 hm
      refine jt (ja (jl (jp (je Y Y (jc Y Y Y (fun _ _ => jN Y) (jM 0 runUnderlying154 Y sizeOf152 Y Y (jS 1 isAgg152 Y Y Y Y ?_)))))))
      refine je Y Y ?_
      obtain ⟨t45, h23, hm⟩ := bindO hm
      refine jc Y Y Y (fun w _ => qR h23 (runUnderlying152 w) (sizeOf156 w) Y Y (vlen RWay h18 Y) (vne h18)) ?_
      refine jc Y Y Y (fun w hh => kz RWay 0 [.int .i64 t45.fr, .int .i64 t45.dst, .int .i64 t45.lo, .int .i64 t45.hi, .int .i64 t45.cost, .int .i64 t45.goes] h23 (isAgg156 w) (sizeOf156 w) Y (hh.vseg 0 Y h18) Y (Nat.add_zero _).symm) ?_
      refine ju (fun w => zeroValue156 w) Y (fun b_2 h24 => ?_)
      refine jE (us := #[_, _, _, _, _, _]) (cs' := [_, _, _, _, _, _]) (S' := [_, _, _, _, _]) 0 (fun w => sizeOf156 w) Y Y Y Y Y Y Y (j3 (je Y Y (jM 1 runUnderlying156 Y sizeOf3 Y Y (jS 0 isAgg3 Y Y Y Y (jM 0 runUnderlying156 Y sizeOf3 Y Y (jS 0 isAgg3 Y Y Y Y ?_))))))
      obtain ⟨t53, h25, hm⟩ := bindO hm
      refine jd [] [] Y Y Y Y Y Y Y call104 (fun w hh => jaR s_1 t45.dst t45.fr l.1 (qA l.2.q) l.2.n l.2.cap w (HV.callee (S0 := []) (vs0 := []) hh (roC (bsep (hh.bseg 2 Y)) (roC (hh.vsepA 0 Y h18) roN))) (vlen RWay h18 Y) (AOK.q (vne h18)) (h18).hle h25) (fun l_3 h26 => ?_)
      obtain ⟨h27, h28, h29⟩ := h26
      refine jT (S' := [_, _, _, _, _]) (vs' := [_, _]) [0, 1, 2, 3, 4] [0, 1] 0 Y Y Y Y (je Y Y (kt Y Y Y (kt Y Y Y ?_)))
      refine zG RB (l := (List.replicate 12 false : (List Bool))) (k := 12) (fun w => zeroValue158 w) Y Y Y (fun b_3 h30 h31 => ?_)
      refine jm Y Y (Z1 RB (S' := [_, _, _, _, _, _]) 0 (fun w => sizeOf158 w) Y Y Y h31 h29 Y Y (jo (jk (jp (je Y Y (jc Y Y Y (fun w _ => jaj h28 (runUnderlying157 w) Y Y) (jo ?_)))))))
      refine jq Y (fun h32 => ?_) (fun h32 => ?_)
      ·replace hm := ifT (h32) hm
       refine jp (je Y Y (qh [_, _, _, _, _, _] 1 isAgg156 sizeOf156 Y Y Y Y (jc Y Y Y (fun w hh => y6 RB h29 (isAgg158 w) (sizeOf158 w) Y Y (hh.bsegA 0 Y)) ?_)))
       obtain ⟨t61, h33, hm⟩ := bindO hm
       refine jd [] [] Y Y Y Y Y Y Y call105 (fun w hh => jaB d00 d01 t45 t53.r1 rb qa1 na1 ca1 qa2 na2 ca2 (.map (some pb)) w (HV.callee (S0 := []) (vs0 := []) hh (roR hh 0 Y (roR hh 1 Y (roR hh 2 Y roN)))) hna1 hqa1 hla1 hna2 hqa2 hla2 h29 h33) (fun l_4 h34 => ?_)
       have h35 := h34
       refine jT (S' := [_, _, _, _, _, _]) (vs' := [_, _, _]) [0, 1, 2, 3, 4, 5] [0, 1, 2] 0 Y Y Y Y (jm Y Y (jE (us := #[_, _]) (cs' := [_, _]) (S' := [_, _, _, _, _, _]) 4 (fun w => sizeOf30 w) Y Y Y Y Y Y Y (jo (jw (jf (jz (jf ?_)))))))
       refine jz ?_
       obtain rfl := sj hm
       have hbo := h19 _ Y
       subst hbo
       refine jf ?_
       replace hm := ocR h16
       refine jz (jf (jf (jz ?_)))
       obtain rfl := sj hm
       have hbo := h13 _ Y
       subst hbo
       refine jf ?_
       replace hm := ocR h10
       refine jf (jaF ?_)
       obtain rfl := sj hm
       refine jn Y (fun w hh => (.tmp Y (.cell Y (loadVar_agg (vs := [_, _]) (isAgg30 _) (sizeOf30 _) (hh.cells 4 Y Y)) .nil))) (fun w hh => ⟨l_4, rfl, h35, hh.selN [2] [0] (by decide) (by decide) Y rfl⟩)
      replace hm := ifN h32 hm
      refine jt (ja ?_)
      refine jV none (.free 0 (.free 1 (.free 2 (.free 3 (.free 6 (.hoist 7 (.free 8 (.hoist 9 (.free 10 (.one 4 (.one 5 (.one 11 .done)))))))))))) (HV _ _ [(b_3, .cells (RB.enc t53.r1).toArray 158 (0, 0)), kc b_2 #[.int .i64 t45.fr, .int .i64 t45.dst, .int .i64 t45.lo, .int .i64 t45.hi, .int .i64 t45.cost, .int .i64 t45.goes] 156, (pb, gobj (kR RPr) kB d02), kc l.1 #[sL l.2] 154, kc b_1 #[.bool false, slv none 0 0] 30, kc b #[.func (.func f_c1_0) fs_c1_0 cs_c1_0] 115] [] _) Y (by decide +kernel) (fun w k hh => hh.draw k) (hsE [0, 1, 2, 3, 4, 5] [] 0 Y Y Y Y) ?_
      refine kb Y Y Y (kb Y Y Y (kb Y Y Y (ji Y Y Y Y (fun _ _ => jG (vs := [(0, _), (1, _)]) (cells := [_, _]) Y Y) (kF 2 runUnderlying156 sizeOf3 Y Y Y Y (qs 1 isAgg3 Y Y Y Y Y (kF 5 runUnderlying156 sizeOf3 Y Y Y Y (qs 1 isAgg3 Y Y Y Y Y ?_)))))))
      obtain ⟨t72, h36, hm⟩ := bindO hm
      refine ji Y Y Y Y (fun _ _ => qp h36 Y Y) (jJ Y ?_)
      refine kU RCh [(⟨s.t20, true⟩ : Change)] (ps := [(0, _)]) (cells := [_, _]) (fun w => runUnderlying157 w) (fun w => sizeOf164 w) (fun w => zeroValue164 w) Y Y Y Y Y Y Y Y (fun L h37 => ?_)
      refine jr (hsE [0, 1, 2, 3, 4, 5] [] 0 Y Y Y Y) (jJ Y ?_)
      obtain ⟨t67, h38, hm⟩ := bindO hm
      refine yS RCh 1 h38 underlying157 Zs Y Y Y Y Y h27 Y Y (vlen RCh h37 Y) (AOK.q (vne h37)) (fun w hh => (hh.vsegA 0 Y h37)) Y (fun L_1 h39 h39n => ?_)
      refine jT (S' := [_, _, _, _, _, _]) (vs' := [_, _, _]) [0, 1, 2, 3, 4, 5] [0, 1, 2] 0 Y Y Y Y (jr (hsE [0, 1, 2, 3, 4, 5] [] 0 Y Y Y Y) (jJ Y ?_))
      obtain ⟨t73, h40, hm⟩ := bindO hm
      refine jT (S' := [_, _, _, _, _, _]) (vs' := [_, _, _]) [0, 1, 2, 3, 4, 5] [2, 0, 1] 0 Y Y Y Y ?_
      refine jd [] [_] Y Y Y Y Y Y Y call106 (fun w hh => YQ s_1 t67 t72 l.1 ⟨l.2.q, l.2.n, l.2.cap, l.2.sp⟩ (qA L_1.q) L_1.n L_1.cap w (HV.callee (S0 := []) (vs0 := [_]) hh (roC (hh.bsepH 3 Y) (roC (hh.vsepA 1 Y h39) roN))) h18 (vlen RCh h39 Y) (AOK.q (vne h39)) (h39).hle h40) (fun l_5 h41 => ?_)
      have h42 := h41
      refine jT (S' := [_, _, _, _, _, _]) (vs' := [_, _, _]) [0, 1, 2, 3, 4, 5] [0, 1, 2] 0 Y Y Y Y (jr (hsE [0, 1, 2, 3, 4, 5] [] 0 Y Y Y Y) (jI (js ?_)))
      obtain rfl := sj hm
      refine ja ?_
      exact jy _ () Y (h42) (sE Y) (hsE [2, 3, 4, 5] [0] 0 Y Y Y Y)
     replace hm := ifE h22 hm
     refine jO (jj (jj (jC ?_)))
     obtain rfl := sj hm
     have hbo := h19 _ Y
     subst hbo
     exact jg s_1 (⟨rfl, h18⟩) (sE Y) (fun w hh => hh)
    intro j_1 hj
    obtain ⟨h43, h17⟩ := hj
    subst h43
    replace hm := ocL h16
    refine js (ja (jh ?_))
    obtain ⟨t74, h44, hm⟩ := bindO hm
    refine kS h44 Y Y Y (je Y Y (jv ?_))
    obtain rfl := sj hm
    refine ja ?_
    exact jy _ () Y (h17) (sE Y) (fun w hh => hh)
   replace hm := ifE h14 hm
   refine jO (jj (jj (jC ?_)))
   obtain rfl := sj hm
   have hbo := h13 _ Y
   subst hbo
   exact jg s.t12 (⟨rfl, h12⟩) (sE Y) (fun w hh => hh)
  intro j hj
  obtain ⟨h45, h11⟩ := hj
  subst h45
  replace hm := ocL h10
  refine ja (jk (jbz (ja (jk ?_))))
  obtain ⟨o_2, h46, h47⟩ := bindO hm
  refine jD (ι := Unit) (fun l_6 => VOK 6 l.2.n l.2.cap (RWay.enc o_2) l.2.sp l.2.q) (fun l_6 => [(5, ptr b_1 0), (6, ptr l.1 0)]) (fun l_6 => [(pb, gobj (kR RPr) kB d02), kc l.1 #[sL l.2] 154, kc b_1 #[.bool false, slv none 0 0] 30, kc b #[.func (.func f_c1_0) fs_c1_0 cs_c1_0] 115]) (fun l_6 => [vL 156 l.2 (RWay.enc o_2)]) ?_ ?_
  ·replace hm := h46
   refine jl ?_
   refine jF (ι := Unit) hm (fun s_2 l_7 => VOK 6 l.2.n l.2.cap (RWay.enc s_2) l.2.sp l.2.q) (fun s_2 l_7 => [(5, ptr b_1 0), (6, ptr l.1 0)]) (fun s_2 l_7 => [(pb, gobj (kR RPr) kB d02), kc l.1 #[sL l.2] 154, kc b_1 #[.bool false, slv none 0 0] 30, kc b #[.func (.func f_c1_0) fs_c1_0 cs_c1_0] 115]) (fun s_2 l_7 => [vL 156 l.2 (RWay.enc s_2)]) () (h11) (sE Y) (fun w hh => hh) (fun s_2 l_7 r_3 hpl hm h50 => ?_)
   have h49 := hpl
   unfold qZ at hm
   refine jl (jp (je Y Y ?_))
   obtain ⟨t76, h51, hm⟩ := bindO hm
   refine jd [] [] Y Y Y Y Y Y Y call107 (fun w hh => ZP s_2 l.1 (qA l.2.q) l.2.n l.2.cap w (HV.callee (S0 := []) (vs0 := []) hh (roC (bsep (hh.bseg 1 Y)) (roC (hh.vsepA 0 Y h49) roN))) (vlen RWay h49 Y) (AOK.q (vne h49)) (h49).hle h51) (fun l_8 h52 => ?_)
   obtain ⟨h53, h54⟩ := h52
   refine jT (S' := [_, _, _, _]) (vs' := [_, _]) [0, 1, 2, 3] [0, 1] 0 Y Y Y Y (jm Y Y (jo (jk (jp (je Y Y (jc Y Y Y (fun w _ => jaj h54 (runUnderlying157 w) Y Y) (jo ?_)))))))
   refine jq Y (fun h55 => ?_) (fun h55 => ?_)
   ·replace hm := ifT (h55) hm
    refine jO (jj (jaQ Y (jj (jC ?_))))
    obtain rfl := sj hm
    have hbo := h50 _ Y
    subst hbo
    exact jg () (h49) (sE Y) (hsE [0, 1, 2, 3] [1] 0 Y Y Y Y)
   replace hm := ifN h55 hm
   refine jt (ja (jh (je Y Y (je Y Y ?_))))
   obtain ⟨t81, h56, hm⟩ := bindO hm
   refine jT (S' := [_, _, _, _]) (vs' := [_, _]) [0, 1, 2, 3] [1, 0] 0 Y Y Y Y ?_
   refine jd [] [_] Y Y Y Y Y Y Y call106 (fun w hh => YQ s_2 t76 1000000 l.1 ⟨l.2.q, l.2.n, l.2.cap, l.2.sp⟩ (qA l_8.q) l_8.n l_8.cap w (HV.callee (S0 := []) (vs0 := [_]) hh (roC (hh.bsepH 1 Y) (roC (hh.vsepA 0 Y h53) roN))) h49 (vlen RCh h53 Y) (AOK.q (vne h53)) (h53).hle h56) (fun l_9 h57 => ?_)
   have h58 := h57
   refine jT (S' := [_, _, _, _]) (vs' := [_, _]) [0, 1, 2, 3] [0, 1] 0 Y Y Y Y (jv (js ?_))
   obtain rfl := sj hm
   refine ja ?_
   exact jy _ () Y (h58) (sE Y) (hsE [0, 1, 2, 3] [0] 0 Y Y Y Y)
  intro l_6 hj
  have h48 := hj
  replace hm := h47
  refine ja (jp (je Y Y (jc Y Y Y (fun _ _ => jG (vs := []) (cells := [_, _]) Y Y) (jm Y Y (jE (us := #[_, _]) (cs' := [_, _]) (S' := [_, _, _, _]) 2 (fun w => sizeOf30 w) Y Y Y Y Y Y Y (jo (jw ?_)))))))
  refine jaF (kp 3 ?_)
  obtain rfl := sj hm
  refine jn Y (fun w hh => (.tmp Y (.cell Y (loadVar_agg (vs := [_, _]) (isAgg30 _) (sizeOf30 _) (hh.cells 2 Y Y)) .nil))) (fun w hh => ⟨(l.1, ⟨none, 0, 0, []⟩, l.2), rfl, ⟨VOK.nil, h48⟩, hh.selN [0, 1] [0, 1] (by decide) (by decide) Y rfl⟩)
structure Jp where
  t18 : Int
  out5 : (List (List Int))
def yi (t15 : (List (List Int))) (d10 : (List Strip)) (s : Jp) : Option (Jp ⊕ (List (List Int))) :=
 if s.t18 < (t15.length : Int) then
 ((makec 8 0 (d10.length : Int) (d10.length : Int)).bind fun t29 =>
 (ix s.out5 s.t18).bind fun t30 =>
 (some (s.out5.set (Int.toNat s.t18) t29)).bind fun out5 =>
 (addc s.t18 1).bind fun t31 =>
 some (.inl (⟨t31, out5⟩ : Jp))) else
 (some (.inr s.out5))
structure yY where
  t37 : Int
  out5 : (List (List Int))
def y3 (n00 : (List Wy)) (s_1 : yY) : Option (yY ⊕ (List (List Int))) :=
 if s_1.t37 < (n00.length : Int) then
 (((ix n00 s_1.t37).bind fun t39 =>
 (if t39.fr = 0 then
 (some false) else
 (some (!decide (t39.dst = 0)))).bind fun o_3 =>
 if o_3 = true then
 ((subc t39.dst 1).bind fun t52 =>
 (subc t52 6).bind fun t53 =>
 (ix s_1.out5 t53).bind fun t54 =>
 (subc t39.fr 1).bind fun t58 =>
 (ix t54 t58).bind fun t61 =>
 (some (t54.set (Int.toNat t58) t39.goes)).bind fun row =>
 (some (s_1.out5.set (Int.toNat t53) row)).bind fun out5_1 =>
 some out5_1) else
 (some s_1.out5)).bind fun o_2 =>
 (addc s_1.t37 1).bind fun t62 =>
 some (.inl (⟨t62, o_2⟩ : yY))) else
 (some (.inr s_1.out5))
def yx (n00 : (List Wy)) (d10 : (List Strip)) (d11 : (List Span)) : Option (List (List Int)) :=
 (makec 24 ([] : (List Int)) (d11.length : Int) (d11.length : Int)).bind fun t15 =>
 (iterM FU (yi t15 d10) (⟨0, t15⟩ : Jp)).bind fun o =>
 (iterM FU (y3 n00) (⟨0, o⟩ : yY)).bind fun o_1 =>
 some o_1
theorem YI (n00 : (List Wy)) (d10 : (List Strip)) (d11 : (List Span)) (rb : Nat) (qa1 : Option Addr) (na1 ca1 : Nat) (rb_1 : Nat) (qa3 : Option Addr) (na3 ca3 : Nat) (qa4 : Option Addr) (na4 ca4 : Nat) (mv : Value) (w : World) (hw : HV w (keys [] []) [] [] [(rb, 0, [.slice qa1 na1 ca1]), (aB qa1, aO qa1, RWay.enc n00), (rb_1, 0, [.slice qa3 na3 ca3, .slice qa4 na4 ca4, mv]), (aB qa3, aO qa3, RSt.enc d10), (aB qa4, aO qa4, RSp.enc d11)] w)  (hna1 : n00.length = na1) (hqa1 : AOK na1 qa1) (hla1 : na1 ≤ ca1)  (hna3 : d10.length = na3) (hqa3 : AOK na3 qa3) (hla3 : na3 ≤ ca3) (hna4 : d11.length = na4) (hqa4 : AOK na4 qa4) (hla4 : na4 ≤ ca4) {res : (List (List Int))} (hm : yx n00 d10 d11 = some res) :
    Calls Tryz.prog 99 #[ptr rb 0, ptr rb_1 0] w (fun en w' => ∃ l : DL, en = .returned (sL l.v) ∧ (VOK 1 l.v.n l.v.cap (RwH.enc l.rs) l.v.sp l.v.q ∧ DOK RI res l.rs) ∧ HV w (keys [] []) [] [⟨26, RwH.enc l.rs, l.v.sp, l.v.q, dbl 3 RI res l.rs⟩] [] w') := by
  unfold yx at hm
  refine kj func99 Y ntmps99 Y (e := [(0, _), (1, _)]) Y hw (jp (jc Y Y Y (fun _ _ => qQ Y) (j3 (je Y Y (jc Y Y Y (fun _ _ => jN Y) (jM 0 runUnderlying144 Y sizeOf25 Y Y (jM 1 runUnderlying25 Y sizeOf23 Y Y ?_)))))))
  refine jc Y Y Y (fun w hh => j0 (isAgg23 w) Y (segCell (hh.seg 2 Y) 1 Y)) (jc Y Y Y (fun w _ => jB hna4 (runUnderlying23 w) Y) ?_)
  obtain ⟨t15, h3, hm⟩ := bindO hm
  refine kC RwH vl0 (makecL vl0 h3) underlying70 jbh Y Y Y Y Y (fun L h4 => ?_)
  refine ja9 (E2 := 3) RI (Int.toNat (d11.length : Int)) (makecO h3).1.symm (fun h5 => ?_)
  refine jm Y Y (jo (jk (jp (je Y Y (jc Y Y Y (fun w _ => QC (Eq.trans (h5).len (vlen RwH h4 Y)) (runUnderlying70 w) Y) (je Y Y (jo ?_)))))))
  obtain ⟨o, h6, h7⟩ := bindO hm
  refine jD (ι := DL) (fun l => VOK 1 l.v.n l.v.cap (RwH.enc l.rs) l.v.sp l.v.q ∧ DOK RI o l.rs) (fun l => [(0, ptr rb 0), (5, sL l.v)]) (fun l => []) (fun l => [⟨26, RwH.enc l.rs, l.v.sp, l.v.q, dbl 3 RI o l.rs⟩]) ?_ ?_
  ·replace hm := h6
   refine jl ?_
   refine jF (ι := DL) hm (fun s l_1 => VOK 1 l_1.v.n l_1.v.cap (RwH.enc l_1.rs) l_1.v.sp l_1.v.q ∧ DOK RI s.out5 l_1.rs) (fun s l_1 => [(0, ptr rb 0), (1, ptr rb_1 0), (5, sL l_1.v), (17, .int .i64 (t15.length : Int)), (18, .int .i64 s.t18)]) (fun s l_1 => []) (fun s l_1 => [⟨26, RwH.enc l_1.rs, l_1.v.sp, l_1.v.q, dbl 3 RI s.out5 l_1.rs⟩]) (⟨⟨L.q, L.n, L.cap, L.sp⟩, (List.replicate (Int.toNat (d11.length : Int)) vl0)⟩) (⟨h4, h5⟩) (sE Y) (fun w hh => hh) (fun s l_1 r hpl hm h12 => ?_)
   obtain ⟨h10, h11⟩ := hpl
   unfold yi at hm
   refine jp (q8 Y Y Y (jo (jk ?_)))
   refine jq Y (fun h13 => ?_) (fun h13 => ?_)
   ·replace hm := ifD h13 hm
    refine jt (ja (jk (jl (jp (je Y Y (jm Y Y (jo ?_)))))))
    refine jh (je Y Y (je Y Y (je Y Y (jc Y Y Y (fun _ _ => jN Y) (jM 0 runUnderlying144 Y sizeOf25 Y Y (jM 0 runUnderlying25 Y sizeOf22 Y Y (jc Y Y Y (fun w hh => j0 (isAgg22 w) Y (segCell (hh.seg 2 Y) 0 Y)) ?_)))))))
    refine jc Y Y Y (fun w _ => jB hna3 (runUnderlying22 w) Y) ?_
    obtain ⟨t29, h14, hm⟩ := bindO hm
    refine kC RI 0 h14 underlying26 zZ Y Y Y Y Y (fun L_1 h15 => ?_)
    obtain ⟨t30, h16, hm⟩ := bindO hm
    obtain ⟨L_2, h17, h18⟩ := (h11).row h16
    refine jc Y Y Y (fun w _ => qR h17 (runUnderlying70 w) (sizeOf26 w) Y Y (vlen RwH h10 Y) (vne h10)) ?_
    obtain ⟨out5, hout5, hm⟩ := bindO hm
    refine Qv RwH 1 0 (⟨L_1.q, L_1.n, L_1.cap, L_1.sp⟩ : VL) (fun w => sizeOf26 w) Y Y Y Y h10 Y (Nat.add_zero _).symm Y h17 Y Y Y (fun h19 => ?_)
    refine jT (S' := []) (vs' := [_, _]) [] [0, 1] 0 Y Y Y Y (jT (S' := []) (vs' := [_, _]) [] [1, 0] 0 Y Y Y Y ?_)
    refine jbf RI s.t18 L_1.n L_1.cap h11 h15 h16 (Option.some.inj hout5) (fun h20 => ?_)
    refine jv (js (ja (jh ?_)))
    obtain ⟨t31, h21, hm⟩ := bindO hm
    refine kS h21 Y Y Y (je Y Y (jv ?_))
    obtain rfl := sj hm
    refine ja ?_
    exact jy _ (⟨⟨l_1.v.q, l_1.v.n, l_1.v.cap, l_1.v.sp⟩, (l_1.rs.set (Int.toNat s.t18) (⟨L_1.q, L_1.n, L_1.cap, L_1.sp⟩ : VL))⟩) Y (⟨h19, h20⟩) (sE Y) (fun w hh => hh)
   replace hm := ifE h13 hm
   refine jO (jj (jj (jC ?_)))
   obtain rfl := sj hm
   have hbo := h12 _ Y
   subst hbo
   exact jg l_1 (⟨h10, h11⟩) (sE Y) (fun w hh => hh)
  intro l hj
  obtain ⟨h8, h9⟩ := hj
  replace hm := h7
  refine ja (jk (jp (je Y Y (jc Y Y Y (fun _ _ => jN Y) (jM 0 runUnderlying154 Y sizeOf152 Y Y (jc Y Y Y (fun w hh => j0 (isAgg152 w) Y (segCell (hh.seg 0 Y) 0 Y)) (jc Y Y Y (fun w _ => jB hna1 (runUnderlying152 w) Y) ?_)))))))
  refine je Y Y (jo ?_)
  obtain ⟨o_1, h22, h23⟩ := bindO hm
  refine jD (ι := Unit) (fun l_2 => DOK RI o_1 l.rs) (fun l_2 => [(5, sL l.v)]) (fun l_2 => []) (fun l_2 => [⟨26, RwH.enc l.rs, l.v.sp, l.v.q, dbl 3 RI o_1 l.rs⟩]) ?_ ?_
  ·replace hm := h22
   refine jl ?_
   refine jF (ι := Unit) hm (fun s_1 l_3 => DOK RI s_1.out5 l.rs) (fun s_1 l_3 => [(5, sL l.v), (35, .slice qa1 na1 ca1), (36, .int .i64 (n00.length : Int)), (37, .int .i64 s_1.t37)]) (fun s_1 l_3 => []) (fun s_1 l_3 => [⟨26, RwH.enc l.rs, l.v.sp, l.v.q, dbl 3 RI s_1.out5 l.rs⟩]) () (h9) (sE Y) (fun w hh => hh) (fun s_1 l_3 r_1 hpl hm h26 => ?_)
   have h25 := hpl
   unfold y3 at hm
   refine jp (q8 Y Y Y (jo (jk ?_)))
   refine jq Y (fun h27 => ?_) (fun h27 => ?_)
   ·replace hm := ifD h27 hm
    refine jt (ja (jk ?_))
    obtain ⟨o_2, h28, h29⟩ := bindO hm
    refine jD (ι := Unit) (fun l_4 => DOK RI o_2 l.rs) (fun l_4 => [(5, sL l.v), (35, .slice qa1 na1 ca1), (36, .int .i64 (n00.length : Int)), (37, .int .i64 s_1.t37)]) (fun l_4 => []) (fun l_4 => [⟨26, RwH.enc l.rs, l.v.sp, l.v.q, dbl 3 RI o_2 l.rs⟩]) ?_ ?_
    ·replace hm := h28
     refine jl (jp ?_)
     obtain ⟨t39, h31, hm⟩ := bindO hm
     refine jc Y Y Y (fun w _ => jY h31 (runUnderlying152 w) (sizeOf156 w) Y Y hna1 hqa1) ?_
     refine jc Y Y Y (fun w hh => kz RWay 0 [.int .i64 t39.fr, .int .i64 t39.dst, .int .i64 t39.lo, .int .i64 t39.hi, .int .i64 t39.cost, .int .i64 t39.goes] h31 (isAgg156 w) (sizeOf156 w) Y (hh.seg 1 Y) Y (Nat.add_zero _).symm) ?_
     refine ju (fun w => zeroValue156 w) Y (fun b h32 => ?_)
     refine jE (us := #[_, _, _, _, _, _]) (cs' := [_, _, _, _, _, _]) (S' := [_]) 0 (fun w => sizeOf156 w) Y Y Y Y Y Y Y (jo (jk ?_))
     obtain ⟨o_3, h33, h34⟩ := bindO hm
     refine jD (ι := Unit) (fun l_5 => True) (fun l_5 => [(5, sL l.v), (8, ptr b 0), (35, .slice qa1 na1 ca1), (36, .int .i64 (n00.length : Int)), (37, .int .i64 s_1.t37), (48, .bool o_3)]) (fun l_5 => [kc b #[.int .i64 t39.fr, .int .i64 t39.dst, .int .i64 t39.lo, .int .i64 t39.hi, .int .i64 t39.cost, .int .i64 t39.goes] 156]) (fun l_5 => [⟨26, RwH.enc l.rs, l.v.sp, l.v.q, dbl 3 RI s_1.out5 l.rs⟩]) ?_ ?_
     ·replace hm := h33
      refine jh (jM 0 runUnderlying156 Y sizeOf3 Y Y (jS 0 isAgg3 Y Y Y Y (jc Y Y Y (fun _ _ => k5 Y Y) (je Y Y ?_))))
      refine jH 44 Y (fun h35 => ?_) (fun h35 => ?_)
      ·replace hm := ifF (of_ndec_true h35) hm
       refine jb Y Y (jM 1 runUnderlying156 Y sizeOf3 Y Y (jb Y Y (jS 0 isAgg3 Y Y Y Y (jb Y Y (jc Y Y Y (fun _ _ => k5 Y Y) (j8 Y Y Y (jv ?_)))))))
       obtain rfl := sj hm
       exact jg () (trivial) (sE Y) (fun w hh => hh)
      replace hm := ifT (of_ndec_false h35) hm
      refine g_k Y Y Y Y (g_k Y Y Y Y (g_k Y Y Y Y (ky Y Y Y (jv ?_))))
      obtain rfl := sj hm
      exact jg () (trivial) (sE Y) (fun w hh => hh)
     intro l_5 hj
     replace hm := h34
     refine ja ?_
     refine jq Y (fun h36 => ?_) (fun h36 => ?_)
     ·replace hm := ifT (h36) hm
      refine jV (some 13) (.free 0 (.free 1 (.hoist 2 (.free 3 (.free 4 (.free 5 (.hoist 6 (.free 7 (.hoist 8 (.free 9 (.free 10 (.hoist 11 (.free 12 (.last 13 .done)))))))))))))) _ Y (by decide +kernel) (fun w k hh => hh.draw k) (fun w hh => hh) ?_
      refine kb Y Y Y (kF 1 runUnderlying156 sizeOf3 Y Y Y Y (qs 0 isAgg3 Y Y Y Y Y ?_))
      obtain ⟨t52, h37, hm⟩ := bindO hm
      refine ji Y Y Y Y (fun _ _ => qp h37 Y Y) ?_
      obtain ⟨t53, h38, hm⟩ := bindO hm
      refine ji Y Y Y Y (fun _ _ => qp h38 Y Y) ?_
      obtain ⟨t54, h39, hm⟩ := bindO hm
      obtain ⟨L_3, h40, h41⟩ := (h25).row h39
      refine ji Y Y Y Y (fun w _ => qR h40 (runUnderlying70 w) (sizeOf26 w) Y Y (vlen RwH h8 Y) (vne h8)) (jA Y Y Y Y (fun w hh => jW RwH 0 h40 (isAgg26 w) Y (hh.vseg 0 Y h8) Y (Nat.add_zero _).symm) (kF 0 runUnderlying156 sizeOf3 Y Y Y Y (qs 0 isAgg3 Y Y Y Y Y ?_)))
      obtain ⟨t58, h42, hm⟩ := bindO hm
      refine ji Y Y Y Y (fun _ _ => qp h42 Y Y) (kF 5 runUnderlying156 sizeOf3 Y Y Y Y (qs 0 isAgg3 Y Y Y Y Y ?_))
      obtain ⟨t61, h43, hm⟩ := bindO hm
      refine ji Y Y Y Y (fun w _ => qR h43 (runUnderlying26 w) (sizeOf3 w) Y Y (vlen RI h41 Y) (vne h41)) (Qn Y ?_)
      obtain ⟨row, hrow, hm⟩ := bindO hm
      obtain ⟨out5_1, hout5_1, hm⟩ := bindO hm
      refine jT (S' := [_]) (vs' := [_]) [0] [0] 0 Y Y Y Y ?_
      refine jbl RI t53 h25 h39 h40 (fun _ => ?_)
      refine Qv RI 1 0 t39.goes (fun w => sizeOf3 w) Y Y Y Y h41 Y (Nat.add_zero _).symm Y h43 Y Y (Option.some.inj hrow) (fun h44 => ?_)
      refine jT (S' := [_]) (vs' := [_, _]) [0] [0, 1] 0 Y Y Y Y ?_
      refine jbr RI t53 h25 h39 h40 h44 (Option.some.inj hout5_1) (fun h45 => ?_)
      refine Kb (jI (js ?_))
      obtain rfl := sj hm
      exact jg () (h45) (sE Y) (hsE [] [0] 0 Y Y Y Y)
     replace hm := ifN h36 hm
     refine jt (js ?_)
     obtain rfl := sj hm
     exact jg () (h25) (sE Y) (hsE [] [0] 0 Y Y Y Y)
    intro l_4 hj
    have h30 := hj
    replace hm := h29
    refine ja (jh ?_)
    obtain ⟨t62, h46, hm⟩ := bindO hm
    refine kS h46 Y Y Y (je Y Y (jv ?_))
    obtain rfl := sj hm
    refine ja ?_
    exact jy _ () Y (h30) (sE Y) (fun w hh => hh)
   replace hm := ifE h27 hm
   refine jO (jj (jj (jC ?_)))
   obtain rfl := sj hm
   have hbo := h26 _ Y
   subst hbo
   exact jg () (h25) (sE Y) (fun w hh => hh)
  intro l_2 hj
  have h24 := hj
  replace hm := h23
  refine ja (jp (je Y Y (jm Y Y (jo (jw ?_)))))
  obtain rfl := sj hm
  refine jn Y (fun w hh => (.tmp Y .nil)) (fun w hh => ⟨l, rfl, ⟨h8, h24⟩, hh.se [] [0] 5 Y Y Y rfl⟩)
end Go.Proofs.Ws

