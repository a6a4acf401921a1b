/- What the functions that the law StripTaken reaches come to, and why it holds: part 3. -/
import Derived.Test.YtnkphlgohnlooaaGreatStripTaken2
import Derived.Shelf.Slices.CompactI
namespace Go.Proofs
open Go.Shelf
def laysCompact_ren : Go.Shelf.Ren := ⟨fun | 20 => 70 | n => n, fun | 0 => 0 | 3 => 3 | 4 => 4 | 22 => 26 | n => n, fun | n => n⟩
theorem laysCompact : Go.Proofs.Lays2.n20 Tryz.prog laysCompact_ren := {
  mixed := by kernel_rfl,
  f20 := Tryz.func70.trans (congrArg some (by kernel_rfl)),
  t0 := Tryz.underlying0,
  a0 := Tryz.isAgg0,
  z0 := Tryz.sizeOf0,
  v0 := Tryz.zeroValue0,
  t3 := Tryz.underlying3,
  a3 := Tryz.isAgg3,
  z3 := Tryz.sizeOf3,
  v3 := Tryz.zeroValue3,
  t4 := Tryz.underlying4,
  a4 := Tryz.isAgg4,
  z4 := Tryz.sizeOf4,
  v4 := Tryz.zeroValue4,
  t22 := Tryz.underlying26,
  a22 := Tryz.isAgg26,
  z22 := Tryz.sizeOf26,
  v22 := Tryz.zeroValue26,
  i3 := by kernel_rfl }
end Go.Proofs
namespace Go.Proofs.Ws
open Go Go.Fw Go.Gx Go.Sp
theorem RI_len (l : List Int) : (RI.enc l).length = l.length := by rw [RI.enc_len]; exact Nat.mul_one _
theorem RI_get {l : List Int} {j : Nat} (h : j < l.length) : (RI.enc l)[j]? = some (.int .i64 l[j]!) := by
  have := RI.enc_get l j 0 l[j]! (by simp [h]) (by decide)
  simpa [RI] using this
def yN (l : List Int) : Option (List Int) := if l.length ≤ 4611686018427387903 then some (Go.Lib.compact l) else none
theorem compact_le (l : List Int) : (Go.Lib.compact l).length ≤ l.length := by
  unfold Go.Lib.compact Go.Lib.compactUpTo
  rw [List.length_map]
  exact Nat.le_trans (List.length_filter_le _ _) (by simp)
theorem put_cells {l s : List Int} {sp : List Value} (hs : s.length = l.length) : Go.Sort.putCells (Value.int .i64) 0 s.toArray (RI.enc l ++ sp).toArray = (RI.enc s ++ sp).toArray := by
  apply Array.toList_inj.1
  apply List.ext_getElem?
  intro k
  unfold Go.Sort.putCells
  rw [Array.getElem?_toList, Array.getElem?_mapIdx]
  simp only [List.getElem?_toArray, Nat.zero_le, true_and, Nat.zero_add, List.size_toArray, Nat.sub_zero]
  by_cases hk : k < s.length
  · rw [List.getElem?_append_left (by rw [RI_len]; omega), List.getElem?_append_left (by rw [RI_len]; omega), RI_get (by omega), RI_get hk]
    simp [hk]
  · rw [List.getElem?_append_right (by rw [RI_len]; omega), List.getElem?_append_right (by rw [RI_len]; omega), RI_len, RI_len, hs]
    have h2 : ¬ k < l.length := by omega
    simp [hk, h2]
theorem J1 (l : List Int) (V : VL) (w : World) (hw : HV w (keys [] [⟨3, RI.enc l, V.sp, V.q, []⟩]) [] [⟨3, RI.enc l, V.sp, V.q, []⟩] [] w) (hv : VOK 1 V.n V.cap (RI.enc l) V.sp V.q) {res : List Int} (hm : yN l = some res) :
    Calls Tryz.prog 70 #[slv V.q V.n V.cap] w (fun en w' => ∃ l' : VL, en = .returned (slv l'.q l'.n l'.cap) ∧ (VOK 1 l'.n l'.cap (RI.enc res) l'.sp l'.q) ∧ HV w (keys [] [⟨3, RI.enc l, V.sp, V.q, []⟩]) [] [⟨3, RI.enc res, l'.sp, l'.q, []⟩] [] w') := by
  unfold yN at hm
  obtain ⟨hl, hm⟩ := ifO hm
  obtain rfl := Option.some.inj hm
  have hn := vlen RI hv rfl
  obtain ⟨q, n, cap, sp⟩ := V
  simp only at hw hv hn ⊢
  subst hn
  have hle := compact_le l
  generalize hc : Go.Lib.compact l = r at *
  have hv' : VOK 1 r.length cap (RI.enc r) (RI.enc (List.replicate (l.length - r.length) 0) ++ sp) q := ⟨by rw [RI_len, Nat.mul_one], by
      have := hv.hcap
      rw [List.length_append, RI_len] at this
      rw [List.length_append, List.length_append, RI_len, RI_len, List.length_replicate]
      omega, by have := hv.hle; omega, hv.hmax, fun h => by
        have h1 := hv.hnone h
        have h2 : l.length = 0 := h1.1
        exact ⟨by omega, h1.2⟩, hv.hoff⟩
  cases q with
  | none =>
    have h0 := (hv.hnone rfl).1
    have e : l = [] := List.length_eq_zero_iff.1 h0
    subst e
    have er : r = [] := by rw [← hc]; rfl
    subst er
    refine Calls.mono (Any.slices_Compact_int_empty laysCompact none cap w) ?_
    rintro en w' ⟨rfl, rfl⟩
    exact ⟨⟨none, 0, cap, sp⟩, rfl, hv', by simpa using hw⟩
  | some p =>
    have ho := hv.hoff p rfl
    have hb : w.heap[p.1]? = some (.cells (RI.enc l ++ sp).toArray 3 (0, 0)) := hw.hs.ownOK (p.1, _) (by simp [vbl, VR.bl, vown])
    have hlt : p.1 < w.heap.size := (Array.getElem?_eq_some_iff.1 hb).1
    have hH : Go.Sort.Holds (Value.int .i64) w p.1 0 l.toArray := fun j hj => by
      have hj' : j < l.length := by simpa using hj
      refine ⟨?_, by simp [World.frozen?, hb]⟩
      have : (RI.enc l ++ sp)[j]? = some (.int .i64 l[j]!) := by rw [List.getElem?_append_left (by rw [RI_len]; exact hj')]; exact RI_get hj'
      simp [World.cell?, hb, this]
    have e1 : slv (some p) l.length cap = Value.slice (some ⟨p.1, 0, none⟩) l.length cap := by simp [slv, ho]
    rw [e1]
    refine Calls.mono (Any.slices_Compact_int laysCompact p.1 0 cap l w hH (by omega) hv.hle) ?_
    rw [hc]
    rintro en w' ⟨rfl, k, rfl⟩
    have e2 : Value.slice (some ⟨p.1, 0, none⟩) r.length cap = slv (some p) r.length cap := by simp [slv, ho]
    refine ⟨⟨some p, r.length, cap, RI.enc (List.replicate (l.length - r.length) 0) ++ sp⟩, by rw [e2], hv', ?_⟩
    have hput := put_cells (l := l) (s := r ++ List.replicate (l.length - r.length) 0) (sp := sp) (by simp; omega)
    have henc : RI.enc (r ++ List.replicate (l.length - r.length) 0) ++ sp = RI.enc r ++ (RI.enc (List.replicate (l.length - r.length) 0) ++ sp) := by rw [RI.enc_append, List.append_assoc]
    rw [henc] at hput
    have hmod : ∀ i : Nat, (Go.Sort.putRow (Value.int .i64) (Go.Sort.ahead w k) p.1 0 (r ++ List.replicate (l.length - r.length) 0).toArray).heap[i]? = if i = p.1 then some (.cells (RI.enc r ++ (RI.enc (List.replicate (l.length - r.length) 0) ++ sp)).toArray 3 (0, 0)) else w.heap[i]? := fun i => by
      simp only [Go.Sort.putRow, Go.Sort.mapBlock, Go.Sort.ahead]
      rw [Array.getElem?_modify]
      by_cases h : p.1 = i
      · subst h
        rw [if_pos rfl, if_pos rfl, hb]
        simp only [Option.map_some, Go.Sort.onCells, hput]
      · rw [if_neg h, if_neg (fun e => h e.symm)]
    have hhs := hw.hs
    refine ⟨rfl, rfl, rfl, ?_, fun i hi hM => ?_, fun x hx => ?_, fun x hx => ?_, ?_, fun x hx => by simp at hx, fun x hx => by simp at hx⟩
    · simp [Go.Sort.putRow, Go.Sort.mapBlock, Go.Sort.ahead]
    · have : i ≠ p.1 := fun e => hM (by simp [keys, vbl, VR.bl, vown, e])
      exact (hmod i).trans (if_neg this)
    · simp only [vbl, VR.bl, vown, List.nil_append, List.append_nil, List.mem_singleton] at hx
      subst hx
      exact (hmod p.1).trans (if_pos rfl)
    · simp only [vbl, VR.bl, vown, List.nil_append, List.append_nil, List.mem_singleton] at hx
      subst hx
      exact .inr (by simp [keys, vbl, VR.bl, vown])
    · simp [vbl, VR.bl, vown]
end Go.Proofs.Ws

namespace Go.Gx
open Go Go.Fw
section
variable {P : Program}
inductive EqG (P : Program) (xs ys : Array Value) : List Field → Bool → Prop
  | nil : EqG P xs ys [] true
  | int {f : Field} {fs : List Field} {k : IntKind} {a c : Int} {b : Bool} (hn : (f.name == "_") = false) (hg : ∀ w, (isAgg f.type).run P w = .ok false w) (hu : ∃ k', P.underlying f.type = some (.int k')) (hx : xs[f.offset]? = some (.int k a)) (hy : ys[f.offset]? = some (.int k c)) (h : EqG P xs ys fs b) : EqG P xs ys (f :: fs) (decide (a = c) && b)
  | bool {f : Field} {fs : List Field} {a c : Bool} {b : Bool} (hn : (f.name == "_") = false) (hg : ∀ w, (isAgg f.type).run P w = .ok false w) (hu : P.underlying f.type = some .bool) (hx : xs[f.offset]? = some (.bool a)) (hy : ys[f.offset]? = some (.bool c)) (h : EqG P xs ys fs b) : EqG P xs ys (f :: fs) (decide (a = c) && b)
  | sub {f : Field} {fs : List Field} {us vs : List Value} {k : Nat} {fs' : Array Field} {b b' : Bool} (hn : (f.name == "_") = false) (hg : ∀ w, (isAgg f.type).run P w = .ok true w) (hz : ∀ w, (sizeOf f.type).run P w = .ok k w) (hlx : us.length = k) (hly : vs.length = k) (hx : (xs.toList.drop f.offset).take k = us) (hy : (ys.toList.drop f.offset).take k = vs)
      (hu : P.underlying f.type = some (.struct fs')) (hp : P.stoodInHeld f.type = false) (h' : EqF P us.toArray vs.toArray fs'.toList b') (h : EqG P xs ys fs b) : EqG P xs ys (f :: fs) (b' && b)
theorem part_agg {T : TypeId} {cs : Array Value} {o : Nat} {us : List Value} {w : World} (hg : (isAgg T).run P w = .ok true w) (hz : (sizeOf T).run P w = .ok us.length w) (hv : (cs.toList.drop o).take us.length = us) : (part T cs o).run P w = .ok (.agg us.toArray) w := by
  have hsub : cs.extract o (o + us.length) = us.toArray := by
    apply Array.toList_inj.1
    rw [Array.toList_extract, List.extract_eq_take_drop]
    simpa using hv
  simp [part, hg, hz, hsub]
theorem EqG.run {xs ys : Array Value} {fs : List Field} {b : Bool} (h : EqG P xs ys fs b) (d : Nat) (w : World) : (Op.eqFields (d + 2) xs ys fs).run P w = .ok b w := by
  induction h with
  | nil => rfl
  | @int f fs k a c b hn hg hu hx hy h ih =>
    obtain ⟨k', hu⟩ := hu
    have hn' : f.name ≠ "_" := by simpa using hn
    simp only [Op.eqFields, hn', ne_eq, not_false_eq_true, if_true, Sem.run_bind, part_one (hg w) hx, part_one (hg w) hy, Result.andThen_ok, Go.run_equalIn_int w (d + 1) f.type k k' a c hu, Sem.run_ite]
    by_cases he : a = c
    · subst he; simp [ih]
    · simp [he]
  | @bool f fs a c b hn hg hu hx hy h ih =>
    have hn' : f.name ≠ "_" := by simpa using hn
    simp only [Op.eqFields, hn', ne_eq, not_false_eq_true, if_true, Sem.run_bind, part_one (hg w) hx, part_one (hg w) hy, Result.andThen_ok, run_equalIn_bool' w (d + 1) f.type a c hu, Sem.run_ite]
    by_cases he : a = c
    · subst he; simp [ih]
    · simp [he]
  | @sub f fs us vs k fs' b b' hn hg hz hlx hly hx hy hu hp h' h ih =>
    have hn' : f.name ≠ "_" := by simpa using hn
    have hf : P.fieldsOf f.type = fs' := by simp [Program.fieldsOf, hu]
    have he : (Op.equalIn (d + 2) f.type (.agg us.toArray) (.agg vs.toArray)).run P w = .ok b' w := by
      rw [run_equalIn_agg w (d + 1) f.type us.toArray vs.toArray (by rw [hf]; exact hu) hp, hf]
      exact h'.run d w
    simp only [Op.eqFields, hn', ne_eq, not_false_eq_true, if_true, Sem.run_bind, part_agg (us := us) (hg w) (by rw [hlx]; exact hz w) (by rw [hlx]; exact hx), part_agg (us := vs) (hg w) (by rw [hly]; exact hz w) (by rw [hly]; exact hy), Result.andThen_ok, he, Sem.run_ite]
    cases b' with
    | true => simp [ih]
    | false => simp
theorem equal_structG {t : TypeId} {fs : Array Field} {xs ys : Array Value} {b : Bool} (hu : P.underlying t = some (.struct fs)) (hp : P.stoodInHeld t = false) (h : EqG P xs ys fs.toList b) (w : World) : (Op.equalIn 10000 t (.agg xs) (.agg ys)).run P w = .ok b w := by
  have hf : P.fieldsOf t = fs := by simp [Program.fieldsOf, hu]
  rw [show (10000 : Nat) = 9999 + 1 from rfl, run_equalIn_agg w 9999 t xs ys (by rw [hf]; exact hu) hp, hf]
  exact h.run 9997 w
end
end Go.Gx

namespace Go.Fw
open Go Go.Gx
section
variable {n : Nat} {ds : List Deferred} {e : EnvL} {H : World → Prop} {P : Program} {F : Fence} {Q : Exit → Act → World → Prop} {r : Option Nat} {ops : Array Oper} {rest : List Oper} {d : Nat} {v : Value} {ty : TypeId} {pos : String} {after : Array Edge}
theorem jp {ops : Array Oper} {K : Act → World → Prop} (h : G n ds e H K) : G n ds e H (wpListIn F 0 P ops (thenQ K Q) []) := jv (ja h)
theorem jq {id : Nat} {l : List Oper} {y : Code} (h : G n ds e H (wpListIn F 0 P l.toArray (thenQ (y.wpIn F 0 P Q) Q) l)) : G n ds e H ((Code.seq (Code.region id l.toArray false) y).wpIn F 0 P Q) := jj (jh h)
theorem j0 {ops : Array Oper} {id : Nat} {l : List Oper} {y : Code} {Q' : Exit → Act → World → Prop} (h : G n ds e H (wpListIn F 0 P l.toArray (thenQ (y.wpIn F 0 P Q) Q) l)) : G n ds e H (wpListIn F 0 P ops (thenQ ((Code.seq (Code.region id l.toArray false) y).wpIn F 0 P Q) Q') []) := jv (ja (jj (jh h)))
theorem je {x : Operand} (hn : Nat.blt d n = true) (hx : ev e x = some v) (h : G n ds ((d, v) :: e) H (wpListIn (fw r) 0 P ops Q rest)) : G n ds e H (wpListIn (fw r) 0 P ops Q (⟨some d, .move x, ty, pos, after, none⟩ :: rest)) := jc rfl rfl hn (fun _ _ => J5 hx) h
theorem jk {x : Operand} (hn : Nat.blt d n = true) (hx : ev e x = some v) (h : G n ds ((d, v) :: e) H (wpListIn (fw r) 0 P ops Q rest)) : G n ds e H (wpListIn (fw r) 0 P ops Q (⟨some d, .assign x, ty, pos, after, none⟩ :: rest)) := jc rfl rfl hn (fun _ _ => jH hx) h
theorem kp {x : Operand} {i : Nat} {vs : Array Value} (hn : Nat.blt d n = true) (hx : ev e x = some (.tuple vs)) (hi : vs.toList[i]? = some v) (h : G n ds ((d, v) :: e) H (wpListIn (fw r) 0 P ops Q rest)) : G n ds e H (wpListIn (fw r) 0 P ops Q (⟨some d, .extract x i, ty, pos, after, none⟩ :: rest)) := jc rfl rfl hn (fun _ _ => jQ hx hi) h
theorem kx {c x y : Operand} (hn : Nat.blt d n = true) (hc : ev e c = some (.bool true)) (hx : ev e x = some v) (h : G n ds ((d, v) :: e) H (wpListIn (fw r) 0 P ops Q rest)) : G n ds e H (wpListIn (fw r) 0 P ops Q (⟨some d, .pick c x y, ty, pos, after, none⟩ :: rest)) := jc rfl rfl hn (fun _ _ => Jd hc hx) h
theorem j3 {c x y : Operand} (hn : Nat.blt d n = true) (hc : ev e c = some (.bool false)) (hy : ev e y = some v) (h : G n ds ((d, v) :: e) H (wpListIn (fw r) 0 P ops Q rest)) : G n ds e H (wpListIn (fw r) 0 P ops Q (⟨some d, .pick c x y, ty, pos, after, none⟩ :: rest)) := jc rfl rfl hn (fun _ _ => KG hc hy) h
theorem qs {t u : TypeId} {x y : Operand} {a b c : Int} (hm : addc a b = some c) (hn : Nat.blt d n = true) (hx : ev e x = some (.int .i64 a)) (hy : ev e y = some (.int .i64 b)) (h : G n ds ((d, .int .i64 c) :: e) H (wpListIn (fw r) 0 P ops Q rest)) : G n ds e H (wpListIn (fw r) 0 P ops Q (⟨some d, .binOp .add t x y u, ty, pos, after, none⟩ :: rest)) := jc rfl rfl hn (fun _ _ => KV hm hx hy) h
theorem yY {t u : TypeId} {x y : Operand} {k : IntKind} {m m' : Int} (hn : Nat.blt d n = true) (hx : ev e x = some (.int k m)) (hy : ev e y = some (.int k m')) (h : G n ds ((d, .bool (decide (m < m'))) :: e) H (wpListIn (fw r) 0 P ops Q rest)) : G n ds e H (wpListIn (fw r) 0 P ops Q (⟨some d, .binOp .lss t x y u, ty, pos, after, none⟩ :: rest)) := jc rfl rfl hn (fun _ _ => YE hx hy) h
theorem jP {s T : TypeId} {x : Operand} {f b o sz : Nat} {fs : Array Field} (k : Nat) (hu : ∀ w, (underlying s).run P w = .ok (.struct fs) w) (hf : (fs[f]?).map (fun fd => (fd.type, fd.offset)) = some (T, k)) (hz : ∀ w, (sizeOf T).run P w = .ok (sz + 1) w) (hx : ev e x = some (ptr b o)) (hn : Nat.blt d n = true) (h : G n ds ((d, ptr b (o + k)) :: e) H (wpListIn (fw r) 0 P ops Q rest)) : G n ds e H (wpListIn (fw r) 0 P ops Q (⟨some d, .fieldAddr s x f, ty, pos, after, none⟩ :: rest)) := jc rfl rfl hn (fun w _ => kf k (hu w) hf (hz w) hx) h
end
end Go.Fw
namespace Go.Gx
open Go Go.Fw
theorem jY {n : Nat} {ds : List Deferred} {e : EnvL} {w0 : World} {M : List Nat} {S : List (Nat × Obj)} {vs : List VR} {ro : List (Nat × Nat × List Value)} {P : Program} {Q : Exit → Act → World → Prop} {r : Option Nat} {ops : Array Oper} {rest : List Oper} {d : Nat} {v : Value} {ty : TypeId} {pos : String} {after : Array Edge} {t T : TypeId} {x : Operand} {b o : Nat} {cs : Array Value} {fr : Nat × Nat} (i : Nat) (hg' : ∀ w, (isAgg t).run P w = .ok false w) (hx : ev e x = some (ptr b o)) (hn : Nat.blt d n = true) (hi : S[i]? = some (b, .cells cs T fr)) (hv : cs.toList[o]? = some v) (h : G n ds ((d, v) :: e) (HV w0 M S vs ro) (wpListIn (fw r) 0 P ops Q rest)) : G n ds e (HV w0 M S vs ro) (wpListIn (fw r) 0 P ops Q (⟨some d, .load t x, ty, pos, after, none⟩ :: rest)) := jc rfl rfl hn (fun w hh => jR (hg' w) hx (hh.cell i hi hv)) h
theorem sE {e : EnvL} : ∀ {e' : EnvL}, e'.map (fun p => lk e p.1) = e'.map (fun p => some p.2) → Sub e e'
  | [], _ => .nil
  | (t, v) :: l, h => by
    simp only [List.map_cons, List.cons.injEq] at h
    exact .cons h.1 (sE h.2)
def ndB : List Nat → Bool
  | [] => true
  | x :: l => !(l.any (Nat.beq x)) && ndB l
theorem ndB_ok : ∀ {l : List Nat}, ndB l = true → l.Nodup
  | [], _ => List.nodup_nil
  | x :: l, h => by
    unfold ndB at h
    rw [Bool.and_eq_true, Bool.not_eq_true'] at h
    refine List.nodup_cons.2 ⟨fun hx => ?_, ndB_ok h.2⟩
    rw [List.any_eq_false] at h
    exact h.1 x hx (Nat.beq_refl x)
section
variable {w0 w : World} {M : List Nat} {S S' : List (Nat × Obj)} {vs vs' : List VR} {ro ro' : List Sg}
theorem HV.se (h : HV w0 M S vs ro w) (iS iV : List Nat) (k : Nat) (hn : (ndB iS && ndB iV) = true) (hS : iS.map (fun i => S[i]?) = S'.map some) (hV : iV.map (fun i => vs[i]?) = vs'.map some) (hr : ro.drop k = ro') : HV w0 M S' vs' ro' w :=
  h.sel iS iV k (ndB_ok (Bool.and_eq_true_iff.1 hn).1) (ndB_ok (Bool.and_eq_true_iff.1 hn).2) hS hV hr
theorem jT {n : Nat} {ds : List Deferred} {e : EnvL} {X : Act → World → Prop} (iS iV : List Nat) (k : Nat) (hn : (ndB iS && ndB iV) = true) (hS : iS.map (fun i => S[i]?) = S'.map some) (hV : iV.map (fun i => vs[i]?) = vs'.map some) (hr : ro.drop k = ro') (h : G n ds e (HV w0 M S' vs' ro') X) : G n ds e (HV w0 M S vs ro) X :=
  h.pre fun _ hh => hh.se iS iV k hn hS hV hr
theorem j5 {n : Nat} {P : Program} {f : FuncId} {fn : Func} {c : Code} {args : List Value} {R : Ending → World → Prop} {e : EnvL}
    (hf : P.funcs[f]? = some fn) (hb : fn.body = some c) (hn : fn.ntmps = n) (hl : Nat.ble args.length n = true) (he : argEnv 0 args = e) (hw : HV w M S vs ro w)
    (h : G n [] e (HV w M S vs ro) (c.wpIn (fw none) 0 P (bodyPost P fn R))) : Calls P f args.toArray w R := jab hf hb hn hl he hw h
theorem g_k {n : Nat} {ds : List Deferred} {e : EnvL} {H : World → Prop} {P : Program} {Q : Exit → Act → World → Prop} {r : Option Nat} {ops : Array Oper} {rest : List Oper} {d : Nat} {op : Op} {ty : TypeId} {pos : String} {after : Array Edge} {j t : Nat} {want b : Bool} (hj : (ops[j]?).bind (·.dst) = some t) (ht : lk e t = some (.bool b)) (hb : (b == want) = false) (hn : Nat.blt d n = true)
    (h : G n ds ((d, undef) :: e) H (wpListIn (fw r) 0 P ops Q rest)) : G n ds e H (wpListIn (fw r) 0 P ops Q (⟨some d, op, ty, pos, after, some (j, want)⟩ :: rest)) := Z7 rfl rfl hj ht hb hn h
end
section
variable {n : Nat} {ds : List Deferred} {e : EnvL} {w0 : World} {M : List Nat} {S : List (Nat × Obj)} {vs : List VR} {ro : List Sg} {P : Program} {Q : Exit → Act → World → Prop} {r : Option Nat} {ops : Array Oper} {rest : List Oper} {d : Nat} {v : Value} {ty : TypeId} {pos : String} {after : Array Edge} {t T : TypeId} {x : Operand} {b o : Nat} {cs : Array Value} {fr : Nat × Nat} {us : List Value}
theorem kD (us : List Value) (i : Nat) (hg' : ∀ w, (isAgg t).run P w = .ok true w) (hz : ∀ w, (sizeOf t).run P w = .ok us.length w) (hx : ev e x = some (ptr b o)) (hn : Nat.blt d n = true) (hi : S[i]? = some (b, .cells cs T fr)) (hv : (cs.toList.drop o).take us.length = us) (h : G n ds ((d, .agg us.toArray) :: e) (HV w0 M S vs ro) (wpListIn (fw r) 0 P ops Q rest)) : G n ds e (HV w0 M S vs ro) (wpListIn (fw r) 0 P ops Q (⟨some d, .load t x, ty, pos, after, none⟩ :: rest)) := jc rfl rfl hn (fun w hh => j1 (vs := us) (hg' w) (hz w) hx (hh.cells i hi hv)) h
theorem roR {w : World} {S0 : List (Nat × Obj)} {vs0 : List VR} {s : Sg} {ro' : List Sg} (h : HV w0 M (S0 ++ S) (vs0 ++ vs) ro w) (i : Nat) (hi : ro[i]? = some s) (hr : ∀ t, t ∈ ro' → segOK w t ∧ (t.2.2 ≠ [] → t.1 ∉ keys S0 vs0)) : ∀ t, t ∈ s :: ro' → segOK w t ∧ (t.2.2 ≠ [] → t.1 ∉ keys S0 vs0) := roC (h.rsep i hi) hr
end
theorem hsE {w0 : World} {M : List Nat} {S S' : List (Nat × Obj)} {vs vs' : List VR} {ro ro' : List Sg} (iS iV : List Nat) (k : Nat) (hn : (ndB iS && ndB iV) = true) (hS : iS.map (fun i => S[i]?) = S'.map some) (hV : iV.map (fun i => vs[i]?) = vs'.map some) (hr : ro.drop k = ro') : ∀ w, HV w0 M S vs ro w → HV w0 M S' vs' ro' w := fun _ h => h.se iS iV k hn hS hV hr
section
variable {n : Nat} {ds : List Deferred} {e : EnvL} {P : Program} {r : Option Nat} {ops : Array Oper} {C : World → Prop} {X : Act → World → Prop} {i d : Nat} {p : Plan} {v : Value} {ty : TypeId} {pos : String} {after : Array Edge} {H : World → Prop}
theorem ku {x : Operand} (ho : ops[i]? = some ⟨some d, .move x, ty, pos, after, none⟩) (hn : Nat.blt d n = true) (hx : ev e x = some v) (h : G n ds ((d, v) :: e) H (walk r P ops C X p)) : G n ds e H (walk r P ops C X (.free i p)) := ji ho rfl rfl hn (fun _ _ => J5 hx) h
theorem k5 {s T : TypeId} {x : Operand} {f b o sz : Nat} {fs : Array Field} (k : Nat) (hu : ∀ w, (underlying s).run P w = .ok (.struct fs) w) (hz : ∀ w, (sizeOf T).run P w = .ok (sz + 1) w) (ho : ops[i]? = some ⟨some d, .fieldAddr s x f, ty, pos, after, none⟩) (hf : (fs[f]?).map (fun fd => (fd.type, fd.offset)) = some (T, k)) (hn : Nat.blt d n = true) (hx : ev e x = some (ptr b o)) (h : G n ds ((d, ptr b (o + k)) :: e) H (walk r P ops C X p)) : G n ds e H (walk r P ops C X (.free i p)) := ji ho rfl rfl hn (fun w _ => kf k (hu w) hf (hz w) hx) h
theorem qY {w0 : World} {M : List Nat} {S : List (Nat × Obj)} {vs : List VR} {ro : List Sg} {t T : TypeId} {x : Operand} {b o : Nat} {cs : Array Value} {fr : Nat × Nat} (j : Nat) (hg' : ∀ w, (isAgg t).run P w = .ok false w) (ho : ops[i]? = some ⟨some d, .load t x, ty, pos, after, none⟩) (hx : ev e x = some (ptr b o)) (hn : Nat.blt d n = true) (hi : S[j]? = some (b, .cells cs T fr)) (hv : cs.toList[o]? = some v) (h : G n ds ((d, v) :: e) H (walk r P ops (HV w0 M S vs ro) X p)) : G n ds e H (walk r P ops (HV w0 M S vs ro) X (.hoist i p)) := jD ho rfl rfl hn (fun w hh => jR (hg' w) hx (hh.cell j hi hv)) h
end
theorem sj {α : Type} {a b : α} (h : some a = some b) : a = b := Option.some.inj h
theorem ifN {α : Type} {x : Bool} {a b r : α} (hx : x = false) (h : (if x = true then a else b) = r) : b = r := ifF (fun hh => Bool.noConfusion (hx.symm.trans hh)) h
theorem ifE {α : Type} {c : Prop} [Decidable c] {a b r : α} (hc : decide c = false) (h : (if c then a else b) = r) : b = r := ifF (of_decide_eq_false hc) h
theorem ifD {α : Type} {c : Prop} [Decidable c] {a b r : α} (hc : decide c = true) (h : (if c then a else b) = r) : a = r := ifT (of_decide_eq_true hc) h
end Go.Gx

namespace Go.Proofs.Ws
set_option maxHeartbeats 4000000
set_option maxRecDepth 100000
open Go Go.Fw Go.Gx Go.Sp
set_option linter.unusedVariables false
theorem JM : (Tryz.prog.info? 3).map (fun i => (i.zero, i.size, i.bytes)) = some (some (.int .i64 0), 1, 8) := by kernel_rfl
theorem jaW : (Tryz.prog.info? 26).map (fun i => (i.zero, i.size, i.bytes)) = some (some (.slice none 0 0), 1, 24) := by kernel_rfl
theorem Kw : (Tryz.prog.info? 32).map (fun i => (i.zero, i.size, i.bytes)) = some (some (.agg #[.int .i64 0, .int .i64 0]), 2, 16) := by kernel_rfl
theorem QT : (Tryz.prog.info? 62).map (fun i => (i.zero, i.size, i.bytes)) = some (some (.int .i64 0), 1, 8) := by kernel_rfl
theorem Zz : (Tryz.prog.info? 85).map (fun i => (i.zero, i.size, i.bytes)) = some (some (.agg #[.int .i64 0, .int .i64 0, .int .i64 0, .int .i64 0, .int .i64 0, .int .i64 0, .int .i64 0]), 7, 56) := by kernel_rfl
theorem Y6 : (Tryz.prog.info? 156).map (fun i => (i.zero, i.size, i.bytes)) = some (some (.agg #[.int .i64 0, .int .i64 0, .int .i64 0, .int .i64 0, .int .i64 0, .int .i64 0]), 6, 48) := by kernel_rfl
theorem YU : (Tryz.prog.info? 164).map (fun i => (i.zero, i.size, i.bytes)) = some (some (.agg #[.int .i64 0, .bool false]), 2, 16) := by kernel_rfl
theorem jba : (Tryz.prog.info? 32).map (fun i => i.size) = some 2 := by kernel_rfl
theorem jax : Tryz.prog.eqGuardType Tryz.prog.depth 158 = false := by decide +kernel
theorem Ye : Tryz.prog.eqGuardType Tryz.prog.depth 32 = false := by decide +kernel
theorem jaP : Tryz.prog.stoodInHeld 32 = false := by decide +kernel
theorem Zi (x y : Span) (w : World) : (Op.equalIn 10000 32 (.agg (RSp.cells x).toArray) (.agg (RSp.cells y).toArray)).run Tryz.prog w = .ok (decide (x = y)) w := by
  have h := equal_struct (xs := (RSp.cells x).toArray) (ys := (RSp.cells y).toArray) Tryz.underlying32 jaP (.int rfl (fun w => Tryz.isAgg3 w) ⟨_, Tryz.underlying3⟩ rfl rfl (.int rfl (fun w => Tryz.isAgg3 w) ⟨_, Tryz.underlying3⟩ rfl rfl .nil)) w
  rw [h]
  congr 1
  cases x; cases y
  rw [Bool.eq_iff_iff]
  simp only [Bool.and_eq_true, decide_eq_true_eq, Span.mk.injEq, and_true]
theorem jaD : Tryz.prog.eqGuardType Tryz.prog.depth 126 = false := by decide +kernel
theorem jaB : Tryz.prog.stoodInHeld 126 = false := by decide +kernel
theorem jam (x y : Pair) (w : World) : (Op.equalIn 10000 126 (.agg (RPr.cells x).toArray) (.agg (RPr.cells y).toArray)).run Tryz.prog w = .ok (decide (x = y)) w := by
  have h := equal_struct (xs := (RPr.cells x).toArray) (ys := (RPr.cells y).toArray) Tryz.underlying126 jaB (.int rfl (fun w => Tryz.isAgg3 w) ⟨_, Tryz.underlying3⟩ rfl rfl (.int rfl (fun w => Tryz.isAgg3 w) ⟨_, Tryz.underlying3⟩ rfl rfl .nil)) w
  rw [h]
  congr 1
  cases x; cases y
  rw [Bool.eq_iff_iff]
  simp only [Bool.and_eq_true, decide_eq_true_eq, Pair.mk.injEq, and_true]
theorem YV : KeyOK Tryz.prog 126 (kR RPr) := KeyOK.row RPr (fun w => Tryz.runUnderlying126 w) (fun x => (.int (fun w => Tryz.isAgg3 w) (fun w => Tryz.runUnderlying3 w) rfl (.int (fun w => Tryz.isAgg3 w) (fun w => Tryz.runUnderlying3 w) rfl .nil))) jam (fun x => by cases x; simp [RPr, Instr.sameBits])
def yF (lo0 : Int) (hi1 : Int) : Option Scalps :=
 some (⟨[(⟨0, (⟨10, 10⟩ : Span), (⟨0, 0⟩ : Span), (⟨0, 0⟩ : Span)⟩ : Strip), (⟨1, (⟨10, 10⟩ : Span), (⟨0, 0⟩ : Span), (⟨4, 6⟩ : Span)⟩ : Strip), (⟨0, (⟨10, 10⟩ : Span), (⟨0, 0⟩ : Span), (⟨0, 0⟩ : Span)⟩ : Strip)], [(⟨lo0, hi1⟩ : Span), (⟨0, 3⟩ : Span)]⟩ : Scalps)
theorem z5 (lo0 : Int) (hi1 : Int)  (w : World) (hw : HV w (keys [] []) [] [] [] w)  {res : Scalps} (hm : yF lo0 hi1 = some res) :
    Calls Tryz.prog 46 #[.int .i64 lo0, .int .i64 hi1] w (fun en w' => ∃ l : VL × VL, en = .returned (.agg #[slv l.1.q l.1.n l.1.cap, slv l.2.q l.2.n l.2.cap]) ∧ (VOK 7 l.1.n l.1.cap (RSt.enc res.strips) l.1.sp l.1.q ∧ VOK 2 l.2.n l.2.cap (RSp.enc res.carried) l.2.sp l.2.q) ∧ HV w (keys [] []) [] [⟨85, RSt.enc res.strips, l.1.sp, l.1.q, []⟩, ⟨32, RSp.enc res.carried, l.2.sp, l.2.q, []⟩] [] w') := by
  unfold yF at hm
  refine j5 Tryz.func46 rfl Tryz.ntmps46 rfl (e := [(0, _), (1, _)]) rfl hw (jq ?_)
  refine jo (fun w => Tryz.zeroValue25 w) rfl (fun b h3 => ?_)
  refine j0 (jc rfl rfl rfl (fun _ _ => jz (vs := [(0, _), (1, _)]) (cells := [_, _]) rfl rfl) ?_)
  refine jo (fun w => Tryz.zeroValue32 w) rfl (fun b_1 h4 => ?_)
  refine jy (us := #[_, _]) (cs' := [_, _]) (S' := [_, _]) 0 (fun w => Tryz.sizeOf32 w) rfl rfl rfl rfl rfl rfl rfl (j0 (kD [_, _] 0 Tryz.isAgg32 Tryz.sizeOf32 rfl rfl rfl rfl (jc rfl rfl rfl (fun _ _ => jz (vs := [(1, _)]) (cells := [_, _, _, _, _, _, _]) rfl rfl) (kD [_, _] 0 Tryz.isAgg32 Tryz.sizeOf32 rfl rfl rfl rfl (jc rfl rfl rfl (fun _ _ => jz (vs := [(0, _), (1, _)]) (cells := [_, _]) rfl rfl) (jc rfl rfl rfl (fun _ _ => jz (vs := [(0, _), (1, _), (3, _)]) (cells := [_, _, _, _, _, _, _]) rfl rfl) (kD [_, _] 0 Tryz.isAgg32 Tryz.sizeOf32 rfl rfl rfl rfl ?_)))))))
  refine jc rfl rfl rfl (fun _ _ => jz (vs := [(1, _)]) (cells := [_, _, _, _, _, _, _]) rfl rfl) ?_
  refine kG RSt [(⟨0, (⟨10, 10⟩ : Span), (⟨0, 0⟩ : Span), (⟨0, 0⟩ : Span)⟩ : Strip), (⟨1, (⟨10, 10⟩ : Span), (⟨0, 0⟩ : Span), (⟨4, 6⟩ : Span)⟩ : Strip), (⟨0, (⟨10, 10⟩ : Span), (⟨0, 0⟩ : Span), (⟨0, 0⟩ : Span)⟩ : Strip)] (ps := [(0, _), (1, _), (2, _)]) (cells := [_, _, _, _, _, _, _, _, _, _, _, _, _, _, _, _, _, _, _, _, _]) (fun w => Tryz.runUnderlying22 w) (fun w => Tryz.sizeOf85 w) (fun w => Tryz.zeroValue85 w) rfl rfl rfl rfl rfl rfl rfl rfl (fun L h5 => ?_)
  refine je rfl rfl (je rfl rfl (jc rfl rfl rfl (fun _ _ => jz (vs := [(0, _), (1, _)]) (cells := [_, _]) rfl rfl) (jc rfl rfl rfl (fun _ _ => jz (vs := [(1, _)]) (cells := [_, _]) rfl rfl) ?_)))
  refine kG RSp [(⟨lo0, hi1⟩ : Span), (⟨0, 3⟩ : Span)] (ps := [(0, _), (1, _)]) (cells := [_, _, _, _]) (fun w => Tryz.runUnderlying23 w) (fun w => Tryz.sizeOf32 w) (fun w => Tryz.zeroValue32 w) rfl rfl rfl rfl rfl rfl rfl rfl (fun L_1 h6 => ?_)
  refine jc rfl rfl rfl (fun _ _ => jz (vs := [(0, _), (1, _)]) (cells := [_, _]) rfl rfl) (jy (us := #[_, _]) (cs' := [_, _]) (S' := [_, _]) 1 (fun w => Tryz.sizeOf25 w) rfl rfl rfl rfl rfl rfl rfl (jp (jw ?_)))
  obtain rfl := sj hm
  refine jm rfl (fun w hh => (.cell rfl (loadVar_agg (vs := [_, _]) (Tryz.isAgg25 _) (Tryz.sizeOf25 _) (hh.cells 1 rfl rfl)) .nil)) (fun w hh => ⟨(L, L_1), rfl, ⟨h5, h6⟩, hh.se [] [1, 0] 0 rfl rfl rfl rfl⟩)
def KX (n0 : Int) (lo1 : Int) (hi2 : Int) : Option Bool :=
 (if lo1 ≤ n0 then
 (some (decide (n0 ≤ hi2))) else
 (some false)).bind fun o =>
 some o
theorem Yp (n0 : Int) (lo1 : Int) (hi2 : Int)  (w : World) (hw : HV w (keys [] []) [] [] [] w)  {res : Bool} (hm : KX n0 lo1 hi2 = some res) :
    Calls Tryz.prog 62 #[.int .i64 n0, .int .i64 lo1, .int .i64 hi2] w (fun en w' => ∃ l : Unit, en = .returned (.bool res) ∧ (True) ∧ HV w (keys [] []) [] [] [] w') := by
  unfold KX at hm
  refine j5 Tryz.func62 rfl Tryz.ntmps62 rfl (e := [(0, _), (1, _), (2, _)]) rfl hw (jq (jk rfl rfl (jp (jj ?_))))
  obtain ⟨o, h1, h2⟩ := bindO hm
  refine jF (ι := Unit) (fun l => True) (fun l => [(6, .bool o)]) (fun l => []) (fun l => []) ?_ ?_
  ·replace hm := h1
   refine jh (je rfl rfl (je rfl rfl (jc rfl rfl rfl (fun _ _ => K1 rfl rfl) (je rfl rfl ?_))))
   refine jJ 10 rfl (fun h3 => ?_) (fun h3 => ?_)
   ·replace hm := ifD h3 hm
    refine jb rfl rfl (je rfl rfl (jb rfl rfl (je rfl rfl (jb rfl rfl (jc rfl rfl rfl (fun _ _ => ZF rfl rfl) (kx rfl rfl rfl (jk rfl rfl ?_)))))))
    refine jv ?_
    obtain rfl := sj hm
    exact jg () (trivial) (sE rfl) (fun w hh => hh)
   ·replace hm := ifE h3 hm
    refine g_k rfl rfl rfl rfl (g_k rfl rfl rfl rfl (g_k rfl rfl rfl rfl (j3 rfl rfl rfl (jk rfl rfl (jv ?_)))))
    obtain rfl := sj hm
    exact jg () (trivial) (sE rfl) (fun w hh => hh)
  ·intro l hj
   replace hm := h2
   refine ja (jw ?_)
   obtain rfl := sj hm
   refine jm rfl (fun w hh => (.tmp rfl .nil)) (fun w hh => ⟨(), rfl, trivial, hh⟩)
def Jj (s0 : (List Span)) : Option (List Span) :=
 if 0 < (s0.length : Int) then ((appc 16 [] s0).bind fun t7 =>
 some t7) else none
theorem Y3 (s0 : (List Span)) (qa0 : Option Addr) (na0 ca0 : Nat) (w : World) (hw : HV w (keys [] []) [] [] [(aB qa0, aO qa0, RSp.enc s0)] w) (hna0 : s0.length = na0) (hqa0 : AOK na0 qa0) (hla0 : na0 ≤ ca0) {res : (List Span)} (hm : Jj s0 = some res) :
    Calls Tryz.prog 123 #[.slice qa0 na0 ca0] w (fun en w' => ∃ l : VL, en = .returned (slv l.q l.n l.cap) ∧ (VOK 2 l.n l.cap (RSp.enc res) l.sp l.q) ∧ HV w (keys [] []) [] [⟨32, RSp.enc res, l.sp, l.q, []⟩] [] w') := by
  unfold Jj at hm
  refine j5 Tryz.func123 rfl Tryz.ntmps123 rfl (e := [(0, _)]) rfl hw (jq (jc rfl rfl rfl (fun _ _ => kX rfl) (jp (jj (jq (je rfl rfl ?_))))))
  obtain ⟨h2, hm⟩ := ifO hm
  refine jc rfl rfl rfl (fun w _ => ZK hqa0 (len_posN hna0 h2) (Tryz.runUnderlying23 w) rfl rfl) (jp (qW rfl rfl (ju (ja (jq ?_)))))
  refine ZJ RSp (fun w => Tryz.runUnderlying23 w) (fun w => Tryz.sizeOf32 w) rfl rfl (fun L h3 => ?_)
  refine je rfl rfl ?_
  obtain ⟨t7, h4, hm⟩ := bindO hm
  refine yh RSp 0 h4 Tryz.underlying23 Kw rfl rfl rfl rfl rfl h3 rfl rfl hna0 hqa0 (fun w hh => (hh.seg 0 rfl)) rfl (fun L_1 h5 h5n => ?_)
  refine jT (S' := []) (vs' := [_]) [] [0] 0 rfl rfl rfl rfl (jk rfl rfl (jp (jw ?_)))
  obtain rfl := sj hm
  refine jm rfl (fun w hh => (.tmp rfl .nil)) (fun w hh => ⟨L_1, rfl, h5, hh.se [] [0] 1 rfl rfl rfl rfl⟩)
structure qB where
  t12 : Int
  out3 : (List Span)
def kF (s0 : Scalps) (s : qB) : Option (qB ⊕ (List Span)) :=
 if s.t12 < (s0.strips.length : Int) then
 ((ix s0.strips s.t12).bind fun t14 =>
 (appc 16 s.out3 [(⟨t14.lay.lo, t14.lay.hi⟩ : Span), (⟨t14.seeded.lo, t14.seeded.hi⟩ : Span), (⟨t14.left.lo, t14.left.hi⟩ : Span)]).bind fun t24 =>
 (addc s.t12 1).bind fun t25 =>
 some (.inl (⟨t25, t24⟩ : qB))) else
 (some (.inr s.out3))
def kU (s0 : Scalps) : Option (List Span) :=
 (Jj s0.carried).bind fun t8 =>
 (iterM FU (kF s0) (⟨0, t8⟩ : qB)).bind fun o =>
 some o
theorem KJ (s0 : Scalps) (qa0 : Option Addr) (na0 ca0 : Nat) (qa1 : Option Addr) (na1 ca1 : Nat) (w : World) (hw : HV w (keys [] []) [] [] [(aB qa0, aO qa0, RSt.enc s0.strips), (aB qa1, aO qa1, RSp.enc s0.carried)] w) (hna0 : s0.strips.length = na0) (hqa0 : AOK na0 qa0) (hla0 : na0 ≤ ca0) (hna1 : s0.carried.length = na1) (hqa1 : AOK na1 qa1) (hla1 : na1 ≤ ca1) {res : (List Span)} (hm : kU s0 = some res) :
    Calls Tryz.prog 88 #[.agg #[.slice qa0 na0 ca0, .slice qa1 na1 ca1]] w (fun en w' => ∃ l : VL, en = .returned (slv l.q l.n l.cap) ∧ (VOK 2 l.n l.cap (RSp.enc res) l.sp l.q) ∧ HV w (keys [] []) [] [⟨32, RSp.enc res, l.sp, l.q, []⟩] [] w') := by
  unfold kU at hm
  refine j5 Tryz.func88 rfl Tryz.ntmps88 rfl (e := [(0, _)]) rfl hw (jq ?_)
  refine jC rfl rfl (fun b h2 => ?_)
  refine jc rfl rfl rfl (fun _ _ => kX rfl) (j0 (jP 1 Tryz.runUnderlying25 rfl Tryz.sizeOf23 rfl rfl (jY 0 Tryz.isAgg23 rfl rfl rfl rfl ?_)))
  obtain ⟨t8, h3, hm⟩ := bindO hm
  refine jd [] [] rfl rfl rfl rfl rfl rfl rfl Tryz.call123 (fun w hh => Y3 s0.carried qa1 na1 ca1 w (HV.callee (S0 := []) (vs0 := []) hh (roR hh 1 rfl roN)) hna1 hqa1 hla1 h3) (fun l h4 => ?_)
  have h5 := h4
  refine jT (S' := [_]) (vs' := [_]) [0] [0] 0 rfl rfl rfl rfl (jk rfl rfl (jp (jj (jq (jP 0 Tryz.runUnderlying25 rfl Tryz.sizeOf22 rfl rfl (jY 0 Tryz.isAgg22 rfl rfl rfl rfl (jc rfl rfl rfl (fun w _ => jI hna0 (Tryz.runUnderlying22 w) rfl) ?_)))))))
  refine je rfl rfl (jp ?_)
  obtain ⟨o, h6, h7⟩ := bindO hm
  refine jF (ι := VL) (fun l_1 => VOK 2 l_1.n l_1.cap (RSp.enc o) l_1.sp l_1.q) (fun l_1 => [(3, slv l_1.q l_1.n l_1.cap)]) (fun l_1 => [(b, .cells #[.slice qa0 na0 ca0, .slice qa1 na1 ca1] 25 (0, 0))]) (fun l_1 => [⟨32, RSp.enc o, l_1.sp, l_1.q, []⟩]) ?_ ?_
  ·replace hm := h6
   refine jn ?_
   refine jL (ι := VL) hm (fun s l_2 => VOK 2 l_2.n l_2.cap (RSp.enc s.out3) l_2.sp l_2.q) (fun s l_2 => [(3, slv l_2.q l_2.n l_2.cap), (10, .slice qa0 na0 ca0), (11, .int .i64 (s0.strips.length : Int)), (12, .int .i64 s.t12)]) (fun s l_2 => [(b, .cells #[.slice qa0 na0 ca0, .slice qa1 na1 ca1] 25 (0, 0))]) (fun s l_2 => [⟨32, RSp.enc s.out3, l_2.sp, l_2.q, []⟩]) l (h5) (sE rfl) (fun w hh => hh) (fun s l_2 r hpl hm h10 => ?_)
   have h9 := hpl
   unfold kF at hm
   refine jq (yY rfl rfl rfl (jp (jj ?_)))
   refine js rfl (fun h11 => ?_) (fun h11 => ?_)
   ·replace hm := ifD h11 hm
    refine ju (ja (jj (jn (jq ?_))))
    obtain ⟨t14, h12, hm⟩ := bindO hm
    refine jc rfl rfl rfl (fun w _ => ki h12 (Tryz.runUnderlying22 w) (Tryz.sizeOf85 w) rfl rfl hna0 hqa0) ?_
    refine jc rfl rfl rfl (fun w hh => kt RSt 0 [.int .i64 t14.tenant, .int .i64 t14.lay.lo, .int .i64 t14.lay.hi, .int .i64 t14.seeded.lo, .int .i64 t14.seeded.hi, .int .i64 t14.left.lo, .int .i64 t14.left.hi] h12 (Tryz.isAgg85 w) (Tryz.sizeOf85 w) rfl (hh.seg 0 rfl) rfl (Nat.add_zero _).symm) ?_
    refine jo (fun w => Tryz.zeroValue85 w) rfl (fun b_1 h13 => ?_)
    refine jy (us := #[_, _, _, _, _, _, _]) (cs' := [_, _, _, _, _, _, _]) (S' := [_, _]) 0 (fun w => Tryz.sizeOf85 w) rfl rfl rfl rfl rfl rfl rfl (jp (jh (je rfl rfl (jP 1 Tryz.runUnderlying85 rfl Tryz.sizeOf32 rfl rfl (kD [_, _] 0 Tryz.isAgg32 Tryz.sizeOf32 rfl rfl rfl rfl (jP 3 Tryz.runUnderlying85 rfl Tryz.sizeOf32 rfl rfl (kD [_, _] 0 Tryz.isAgg32 Tryz.sizeOf32 rfl rfl rfl rfl ?_)))))))
    refine jP 5 Tryz.runUnderlying85 rfl Tryz.sizeOf32 rfl rfl (kD [_, _] 0 Tryz.isAgg32 Tryz.sizeOf32 rfl rfl rfl rfl ?_)
    refine kG RSp [(⟨t14.lay.lo, t14.lay.hi⟩ : Span), (⟨t14.seeded.lo, t14.seeded.hi⟩ : Span), (⟨t14.left.lo, t14.left.hi⟩ : Span)] (ps := [(0, _), (1, _), (2, _)]) (cells := [_, _, _, _, _, _]) (fun w => Tryz.runUnderlying23 w) (fun w => Tryz.sizeOf32 w) (fun w => Tryz.zeroValue32 w) rfl rfl rfl rfl rfl rfl rfl rfl (fun L h14 => ?_)
    obtain ⟨t24, h15, hm⟩ := bindO hm
    refine yh RSp 1 h15 Tryz.underlying23 Kw rfl rfl rfl rfl rfl h9 rfl rfl (vlen RSp h14 rfl) (AOK.q (vne h14)) (fun w hh => (hh.vsegA 0 rfl h14)) rfl (fun L_1 h16 h16n => ?_)
    refine jT (S' := [_, _]) (vs' := [_, _]) [0, 1] [0, 1] 0 rfl rfl rfl rfl (jk rfl rfl (jv (jt (ja (jh ?_)))))
    obtain ⟨t25, h17, hm⟩ := bindO hm
    refine qs h17 rfl rfl rfl (je rfl rfl (jv ?_))
    obtain rfl := sj hm
    refine ja ?_
    exact jA _ L_1 rfl (h16) (sE rfl) (hsE [1] [1] 0 rfl rfl rfl rfl)
   ·replace hm := ifE h11 hm
    refine jS (jl (jl (jG ?_)))
    obtain rfl := sj hm
    have hbo := h10 _ rfl
    subst hbo
    exact jg l_2 (h9) (sE rfl) (fun w hh => hh)
  ·intro l_1 hj
   have h8 := hj
   replace hm := h7
   refine ja (jq (je rfl rfl (jk rfl rfl (jp (jw ?_)))))
   obtain rfl := sj hm
   refine jm rfl (fun w hh => (.tmp rfl .nil)) (fun w hh => ⟨l_1, rfl, h8, hh.se [] [0] 2 rfl rfl rfl rfl⟩)
def zw (x0 : Span) : Option Bool :=
 ((KX x0.lo 0 30).bind fun t5 =>
 if t5 = true then
 ((KX x0.hi 0 30).bind fun t9 =>
 some t9) else
 (some false)).bind fun o =>
 some o
theorem Ym (x0 : Span)  (w : World) (hw : HV w (keys [] []) [] [] [] w)  {res : Bool} (hm : zw x0 = some res) :
    Calls Tryz.prog 73 #[.agg #[.int .i64 x0.lo, .int .i64 x0.hi]] w (fun en w' => ∃ l : Unit, en = .returned (.bool res) ∧ (True) ∧ HV w (keys [] []) [] [] [] w') := by
  unfold zw at hm
  refine j5 Tryz.func73 rfl Tryz.ntmps73 rfl (e := [(0, _)]) rfl hw (jq ?_)
  refine jC rfl rfl (fun b h1 => ?_)
  refine jk rfl rfl (jp (jj ?_))
  obtain ⟨o, h2, h3⟩ := bindO hm
  refine jF (ι := Unit) (fun l => True) (fun l => [(2, .bool o)]) (fun l => [(b, .cells #[.int .i64 x0.lo, .int .i64 x0.hi] 32 (0, 0))]) (fun l => []) ?_ ?_
  ·replace hm := h2
   refine jh (jP 0 Tryz.runUnderlying32 rfl Tryz.sizeOf3 rfl rfl (jY 0 Tryz.isAgg3 rfl rfl rfl rfl ?_))
   obtain ⟨t5, h4, hm⟩ := bindO hm
   refine jd [] [] rfl rfl rfl rfl rfl rfl rfl Tryz.call62 (fun w hh => Yp x0.lo 0 30 w (HV.callee (S0 := []) (vs0 := []) hh roN)  h4) (fun l_1 h5 => ?_)
   refine je rfl rfl ?_
   refine jJ 6 rfl (fun h6 => ?_) (fun h6 => ?_)
   ·replace hm := ifT (h6) hm
    refine jb rfl rfl (jP 1 Tryz.runUnderlying32 rfl Tryz.sizeOf3 rfl rfl (jb rfl rfl (jY 0 Tryz.isAgg3 rfl rfl rfl rfl (jb rfl rfl ?_))))
    obtain ⟨t9, h7, hm⟩ := bindO hm
    refine jd [] [] rfl rfl rfl rfl rfl rfl rfl Tryz.call62 (fun w hh => Yp x0.hi 0 30 w (HV.callee (S0 := []) (vs0 := []) hh roN)  h7) (fun l_2 h8 => ?_)
    refine kx rfl rfl rfl (jk rfl rfl (jv ?_))
    obtain rfl := sj hm
    exact jg () (trivial) (sE rfl) (fun w hh => hh)
   ·replace hm := ifN h6 hm
    refine g_k rfl rfl rfl rfl (g_k rfl rfl rfl rfl (g_k rfl rfl rfl rfl (j3 rfl rfl rfl (jk rfl rfl (jv ?_)))))
    obtain rfl := sj hm
    exact jg () (trivial) (sE rfl) (fun w hh => hh)
  ·intro l hj
   replace hm := h3
   refine ja (jw ?_)
   obtain rfl := sj hm
   refine jm rfl (fun w hh => (.tmp rfl .nil)) (fun w hh => ⟨(), rfl, trivial, hh.se [] [] 0 rfl rfl rfl rfl⟩)
def kz (x0 : Span) : Option Bool :=
 (zw x0).bind fun t6 =>
 some (!t6)
theorem Qr (x0 : Span) (rb : Nat) (w : World) (hw : HV w (keys [] []) [] [] [(rb, 0, [.func (.func 73) #[] #[]])] w)  {res : Bool} (hm : kz x0 = some res) :
    Calls Tryz.prog 122 #[.agg #[.int .i64 x0.lo, .int .i64 x0.hi], ptr rb 0] w (fun en w' => ∃ l : Unit, en = .returned (.bool res) ∧ (True) ∧ HV w (keys [] []) [] [] [] w') := by
  unfold kz at hm
  refine j5 Tryz.func122 rfl Tryz.ntmps122 rfl (e := [(0, _), (1, _)]) rfl hw (jq ?_)
  refine jC rfl rfl (fun b h1 => ?_)
  refine jk rfl rfl (j0 (jc rfl rfl rfl (fun w hh => jR (Tryz.isAgg100 w) rfl (segCell (hh.seg 0 rfl) 0 rfl)) (kD [_, _] 0 Tryz.isAgg32 Tryz.sizeOf32 rfl rfl rfl rfl ?_)))
  obtain ⟨t6, h2, hm⟩ := bindO hm
  refine jd [] [] rfl rfl rfl rfl rfl rfl rfl Tryz.call73 (fun w hh => Ym x0 w (HV.callee (S0 := []) (vs0 := []) hh roN)  h2) (fun l h3 => ?_)
  refine jc rfl rfl rfl (fun _ _ => kE rfl) (jk rfl rfl (jp (jw ?_)))
  obtain rfl := sj hm
  refine jm rfl (fun w hh => (.tmp rfl .nil)) (fun w hh => ⟨(), rfl, trivial, hh.se [] [] 1 rfl rfl rfl rfl⟩)
def yB (s0 : (List Span)) (s : Int) : Option (Int ⊕ (Unit ⊕ Int)) :=
 if s < (s0.length : Int) then
 ((ix s0 s).bind fun t14 =>
 (kz t14).bind fun t16 =>
 if t16 = true then
 (some (.inr (.inr s))) else
 ((addc s 1).bind fun t18 =>
 some (.inl t18))) else
 (some (.inr (.inl ())))
def yn (s0 : (List Span)) : Option Int :=
 (iterM FU (yB s0) 0).bind fun o =>
 oc o (fun j => some (-1)) (fun r_1 => some r_1)
theorem QN (s0 : (List Span)) (qa0 : Option Addr) (na0 ca0 : Nat) (rb : Nat) (w : World) (hw : HV w (keys [] []) [] [] [(aB qa0, aO qa0, RSp.enc s0), (rb, 0, [.func (.func 73) #[] #[]])] w) (hna0 : s0.length = na0) (hqa0 : AOK na0 qa0) (hla0 : na0 ≤ ca0)  {res : Int} (hm : yn s0 = some res) :
    Calls Tryz.prog 135 #[.slice qa0 na0 ca0, .func (.func 122) #[] #[ptr rb 0]] w (fun en w' => ∃ l : Unit, en = .returned (.int .i64 res) ∧ (True) ∧ HV w (keys [] []) [] [] [] w') := by
  unfold yn at hm
  refine j5 Tryz.func135 rfl Tryz.ntmps135 rfl (e := [(0, _), (1, _)]) rfl hw (jq (jk rfl rfl (jp (jj (jq (je rfl rfl (jc rfl rfl rfl (fun w _ => jI hna0 (Tryz.runUnderlying23 w) rfl) ?_)))))))
  refine je rfl rfl (jp ?_)
  obtain ⟨o, h1, h2⟩ := bindO hm
  refine jF (ι := Unit) (fun j => o = .inl j) (fun j => []) (fun j => []) (fun j => []) ?_ ?_
  ·replace hm := h1
   refine jn ?_
   refine jL (ι := Unit) hm (fun s l => True) (fun s l => [(0, .slice qa0 na0 ca0), (1, .func (.func 122) #[] #[ptr rb 0]), (7, .int .i64 (s0.length : Int)), (8, .int .i64 s)]) (fun s l => []) (fun s l => []) () (trivial) (sE rfl) (fun w hh => hh) (fun s l r hpl hm h3 => ?_)
   unfold yB at hm
   refine jq (yY rfl rfl rfl (jp (jj ?_)))
   refine js rfl (fun h4 => ?_) (fun h4 => ?_)
   ·replace hm := ifD h4 hm
    refine ju (ja (jj (jn (jq (je rfl rfl (jk rfl rfl (j0 ?_)))))))
    refine je rfl rfl (je rfl rfl (je rfl rfl ?_))
    obtain ⟨t14, h5, hm⟩ := bindO hm
    refine jc rfl rfl rfl (fun w _ => ki h5 (Tryz.runUnderlying23 w) (Tryz.sizeOf32 w) rfl rfl hna0 hqa0) ?_
    refine jc rfl rfl rfl (fun w hh => kt RSp 0 [.int .i64 t14.lo, .int .i64 t14.hi] h5 (Tryz.isAgg32 w) (Tryz.sizeOf32 w) rfl (hh.seg 0 rfl) rfl (Nat.add_zero _).symm) ?_
    obtain ⟨t16, h6, hm⟩ := bindO hm
    refine jd [] [] rfl rfl rfl rfl rfl rfl rfl Tryz.call122 (fun w hh => Qr t14 rb w (HV.callee (S0 := []) (vs0 := []) hh (roR hh 1 rfl roN))  h6) (fun l_1 h7 => ?_)
    refine jp ?_
    refine js rfl (fun h8 => ?_) (fun h8 => ?_)
    ·replace hm := ifT (h8) hm
     refine jq (je rfl rfl (jk rfl rfl (jp (jw (jx (jf (jf ?_)))))))
     refine jx ?_
     obtain rfl := sj hm
     have hbo := h3 _ rfl
     subst hbo
     refine jf ?_
     replace hm := ocR h2
     refine jf ?_
     obtain rfl := sj hm
     refine jm rfl (fun w hh => (.tmp rfl .nil)) (fun w hh => ⟨(), rfl, trivial, hh.se [] [] 2 rfl rfl rfl rfl⟩)
    ·replace hm := ifN h8 hm
     refine ju (jt (ja (jh ?_)))
     obtain ⟨t18, h9, hm⟩ := bindO hm
     refine qs h9 rfl rfl rfl (je rfl rfl (jv ?_))
     obtain rfl := sj hm
     refine ja ?_
     exact jA _ () rfl (trivial) (sE rfl) (fun w hh => hh)
   ·replace hm := ifE h4 hm
    refine jS (jl (jl (jG ?_)))
    obtain rfl := sj hm
    have hbo := h3 _ rfl
    subst hbo
    exact jg () (rfl) (.nil) (fun w hh => hh)
  ·intro j hj
   have h10 := hj
   subst h10
   replace hm := ocL h2
   refine ja (jq (jk rfl rfl (jp (jw ?_))))
   obtain rfl := sj hm
   refine jm rfl (fun w hh => (.tmp rfl .nil)) (fun w hh => ⟨(), rfl, trivial, hh.se [] [] 2 rfl rfl rfl rfl⟩)
def k6 (s0 : (List Span)) : Option Bool :=
 (yn s0).bind fun t7 =>
 some (decide (0 ≤ t7))
theorem Qp (s0 : (List Span)) (qa0 : Option Addr) (na0 ca0 : Nat) (rb : Nat) (w : World) (hw : HV w (keys [] []) [] [] [(aB qa0, aO qa0, RSp.enc s0), (rb, 0, [.func (.func 73) #[] #[]])] w) (hna0 : s0.length = na0) (hqa0 : AOK na0 qa0) (hla0 : na0 ≤ ca0)  {res : Bool} (hm : k6 s0 = some res) :
    Calls Tryz.prog 121 #[.slice qa0 na0 ca0, .func (.func 122) #[] #[ptr rb 0]] w (fun en w' => ∃ l : Unit, en = .returned (.bool res) ∧ (True) ∧ HV w (keys [] []) [] [] [] w') := by
  unfold k6 at hm
  refine j5 Tryz.func121 rfl Tryz.ntmps121 rfl (e := [(0, _), (1, _)]) rfl hw (jq (jk rfl rfl (j0 (je rfl rfl (je rfl rfl ?_)))))
  obtain ⟨t7, h1, hm⟩ := bindO hm
  refine jd [] [] rfl rfl rfl rfl rfl rfl rfl Tryz.call135 (fun w hh => QN s0 qa0 na0 ca0 rb w (HV.callee (S0 := []) (vs0 := []) hh (roR hh 0 rfl (roR hh 1 rfl roN))) hna0 hqa0 hla0 h1) (fun l h2 => ?_)
  refine jc rfl rfl rfl (fun _ _ => K1 rfl rfl) (jk rfl rfl (jp (jw ?_)))
  obtain rfl := sj hm
  refine jm rfl (fun w hh => (.tmp rfl .nil)) (fun w hh => ⟨(), rfl, trivial, hh.se [] [] 2 rfl rfl rfl rfl⟩)
def qb (l0 : (List Span)) : Option Bool :=
 (k6 l0).bind fun t7 =>
 some (!t7)
theorem QQ (l0 : (List Span)) (qa0 : Option Addr) (na0 ca0 : Nat) (w : World) (hw : HV w (keys [] []) [] [] [(aB qa0, aO qa0, RSp.enc l0)] w) (hna0 : l0.length = na0) (hqa0 : AOK na0 qa0) (hla0 : na0 ≤ ca0) {res : Bool} (hm : qb l0 = some res) :
    Calls Tryz.prog 87 #[.slice qa0 na0 ca0, .func (.func 73) #[] #[]] w (fun en w' => ∃ l : Unit, en = .returned (.bool res) ∧ (True) ∧ HV w (keys [] []) [] [] [] w') := by
  unfold qb at hm
  refine j5 Tryz.func87 rfl Tryz.ntmps87 rfl (e := [(0, _), (1, _)]) rfl hw (jq ?_)
  refine jC rfl rfl (fun b h1 => ?_)
  refine jk rfl rfl (j0 (je rfl rfl (jc rfl rfl rfl (fun _ _ => jK (u := #[]) (u' := #[_]) rfl rfl) ?_)))
  obtain ⟨t7, h2, hm⟩ := bindO hm
  refine jd [] [] rfl rfl rfl rfl rfl rfl rfl Tryz.call121 (fun w hh => Qp l0 qa0 na0 ca0 b w (HV.callee (S0 := []) (vs0 := []) hh (roR hh 0 rfl (roC (bsep (hh.bseg 0 rfl)) roN))) hna0 hqa0 hla0 h2) (fun l h3 => ?_)
  refine jc rfl rfl rfl (fun _ _ => kE rfl) (jk rfl rfl (jp (jw ?_)))
  obtain rfl := sj hm
  refine jm rfl (fun w hh => (.tmp rfl .nil)) (fun w hh => ⟨(), rfl, trivial, hh.se [] [] 1 rfl rfl rfl rfl⟩)
def jZ (s0 : Scalps) (n1 : Int) : Option Bool :=
 (subc (s0.carried.length : Int) 1).bind fun t9 =>
 (KX n1 0 t9).bind fun t10 =>
 some t10
theorem qq (s0 : Scalps) (n1 : Int) (qa0 : Option Addr) (na0 ca0 : Nat) (qa1 : Option Addr) (na1 ca1 : Nat) (w : World) (hw : HV w (keys [] []) [] [] [(aB qa0, aO qa0, RSt.enc s0.strips), (aB qa1, aO qa1, RSp.enc s0.carried)] w) (hna0 : s0.strips.length = na0) (hqa0 : AOK na0 qa0) (hla0 : na0 ≤ ca0) (hna1 : s0.carried.length = na1) (hqa1 : AOK na1 qa1) (hla1 : na1 ≤ ca1) {res : Bool} (hm : jZ s0 n1 = some res) :
    Calls Tryz.prog 68 #[.agg #[.slice qa0 na0 ca0, .slice qa1 na1 ca1], .int .i64 n1] w (fun en w' => ∃ l : Unit, en = .returned (.bool res) ∧ (True) ∧ HV w (keys [] []) [] [] [] w') := by
  unfold jZ at hm
  refine j5 Tryz.func68 rfl Tryz.ntmps68 rfl (e := [(0, _), (1, _)]) rfl hw (jq ?_)
  refine jC rfl rfl (fun b h1 => ?_)
  refine jk rfl rfl (j0 (je rfl rfl (jP 1 Tryz.runUnderlying25 rfl Tryz.sizeOf23 rfl rfl (jY 0 Tryz.isAgg23 rfl rfl rfl rfl (jc rfl rfl rfl (fun w _ => jI hna1 (Tryz.runUnderlying23 w) rfl) ?_)))))
  obtain ⟨t9, h2, hm⟩ := bindO hm
  refine jc rfl rfl rfl (fun _ _ => yb h2 rfl rfl) ?_
  obtain ⟨t10, h3, hm⟩ := bindO hm
  refine jd [] [] rfl rfl rfl rfl rfl rfl rfl Tryz.call62 (fun w hh => Yp n1 0 t9 w (HV.callee (S0 := []) (vs0 := []) hh roN)  h3) (fun l h4 => ?_)
  refine jk rfl rfl (jp (jw ?_))
  obtain rfl := sj hm
  refine jm rfl (fun w hh => (.tmp rfl .nil)) (fun w hh => ⟨(), rfl, trivial, hh.se [] [] 2 rfl rfl rfl rfl⟩)
def KD (x0 : Strip) (a11_f0 : Scalps) : Option Bool :=
 (jZ a11_f0 x0.tenant).bind fun t7 =>
 some t7
theorem ZL (x0 : Strip) (a11_f0 : Scalps) (rb : Nat) (qa1 : Option Addr) (na1 ca1 : Nat) (qa2 : Option Addr) (na2 ca2 : Nat) (w : World) (hw : HV w (keys [] []) [] [] [(rb, 0, [.func (.func 68) #[.agg #[.slice qa1 na1 ca1, .slice qa2 na2 ca2]] #[]]), (aB qa1, aO qa1, RSt.enc a11_f0.strips), (aB qa2, aO qa2, RSp.enc a11_f0.carried)] w)  (hna1 : a11_f0.strips.length = na1) (hqa1 : AOK na1 qa1) (hla1 : na1 ≤ ca1) (hna2 : a11_f0.carried.length = na2) (hqa2 : AOK na2 qa2) (hla2 : na2 ≤ ca2) {res : Bool} (hm : KD x0 a11_f0 = some res) :
    Calls Tryz.prog 90 #[.agg #[.int .i64 x0.tenant, .int .i64 x0.lay.lo, .int .i64 x0.lay.hi, .int .i64 x0.seeded.lo, .int .i64 x0.seeded.hi, .int .i64 x0.left.lo, .int .i64 x0.left.hi], ptr rb 0] w (fun en w' => ∃ l : Unit, en = .returned (.bool res) ∧ (True) ∧ HV w (keys [] []) [] [] [] w') := by
  unfold KD at hm
  refine j5 Tryz.func90 rfl Tryz.ntmps90 rfl (e := [(0, _), (1, _)]) rfl hw (jq ?_)
  refine jC rfl rfl (fun b h1 => ?_)
  refine jk rfl rfl (j0 (jc rfl rfl rfl (fun w hh => jR (Tryz.isAgg120 w) rfl (segCell (hh.seg 0 rfl) 0 rfl)) (jP 0 Tryz.runUnderlying85 rfl Tryz.sizeOf3 rfl rfl (jY 0 Tryz.isAgg3 rfl rfl rfl rfl ?_))))
  obtain ⟨t7, h2, hm⟩ := bindO hm
  refine jd [] [] rfl rfl rfl rfl rfl rfl rfl Tryz.call68 (fun w hh => qq a11_f0 x0.tenant qa1 na1 ca1 qa2 na2 ca2 w (HV.callee (S0 := []) (vs0 := []) hh (roR hh 1 rfl (roR hh 2 rfl roN))) hna1 hqa1 hla1 hna2 hqa2 hla2 h2) (fun l h3 => ?_)
  refine jk rfl rfl (jp (jw ?_))
  obtain rfl := sj hm
  refine jm rfl (fun w hh => (.tmp rfl .nil)) (fun w hh => ⟨(), rfl, trivial, hh.se [] [] 3 rfl rfl rfl rfl⟩)
def kd (x0 : Strip) (a11_c0_f0 : Scalps) : Option Bool :=
 (KD x0 a11_c0_f0).bind fun t6 =>
 some (!t6)
theorem Ks (x0 : Strip) (a11_c0_f0 : Scalps) (rb : Nat) (rb_1 : Nat) (qa2 : Option Addr) (na2 ca2 : Nat) (qa3 : Option Addr) (na3 ca3 : Nat) (w : World) (hw : HV w (keys [] []) [] [] [(rb, 0, [.func (.func 90) #[] #[ptr rb_1 0]]), (rb_1, 0, [.func (.func 68) #[.agg #[.slice qa2 na2 ca2, .slice qa3 na3 ca3]] #[]]), (aB qa2, aO qa2, RSt.enc a11_c0_f0.strips), (aB qa3, aO qa3, RSp.enc a11_c0_f0.carried)] w)   (hna2 : a11_c0_f0.strips.length = na2) (hqa2 : AOK na2 qa2) (hla2 : na2 ≤ ca2) (hna3 : a11_c0_f0.carried.length = na3) (hqa3 : AOK na3 qa3) (hla3 : na3 ≤ ca3) {res : Bool} (hm : kd x0 a11_c0_f0 = some res) :
    Calls Tryz.prog 125 #[.agg #[.int .i64 x0.tenant, .int .i64 x0.lay.lo, .int .i64 x0.lay.hi, .int .i64 x0.seeded.lo, .int .i64 x0.seeded.hi, .int .i64 x0.left.lo, .int .i64 x0.left.hi], ptr rb 0] w (fun en w' => ∃ l : Unit, en = .returned (.bool res) ∧ (True) ∧ HV w (keys [] []) [] [] [] w') := by
  unfold kd at hm
  refine j5 Tryz.func125 rfl Tryz.ntmps125 rfl (e := [(0, _), (1, _)]) rfl hw (jq ?_)
  refine jC rfl rfl (fun b h1 => ?_)
  refine jk rfl rfl (j0 (jc rfl rfl rfl (fun w hh => jR (Tryz.isAgg139 w) rfl (segCell (hh.seg 0 rfl) 0 rfl)) (kD [_, _, _, _, _, _, _] 0 Tryz.isAgg85 Tryz.sizeOf85 rfl rfl rfl rfl ?_)))
  obtain ⟨t6, h2, hm⟩ := bindO hm
  refine jd [] [] rfl rfl rfl rfl rfl rfl rfl Tryz.call90 (fun w hh => ZL x0 a11_c0_f0 rb_1 qa2 na2 ca2 qa3 na3 ca3 w (HV.callee (S0 := []) (vs0 := []) hh (roR hh 1 rfl (roR hh 2 rfl (roR hh 3 rfl roN)))) hna2 hqa2 hla2 hna3 hqa3 hla3 h2) (fun l h3 => ?_)
  refine jc rfl rfl rfl (fun _ _ => kE rfl) (jk rfl rfl (jp (jw ?_)))
  obtain rfl := sj hm
  refine jm rfl (fun w hh => (.tmp rfl .nil)) (fun w hh => ⟨(), rfl, trivial, hh.se [] [] 4 rfl rfl rfl rfl⟩)
def yA (s0 : (List Strip)) (f1_c0_c0_f0 : Scalps) (s : Int) : Option (Int ⊕ (Unit ⊕ Int)) :=
 if s < (s0.length : Int) then
 ((ix s0 s).bind fun t14 =>
 (kd (⟨t14.tenant, (⟨t14.lay.lo, t14.lay.hi⟩ : Span), (⟨t14.seeded.lo, t14.seeded.hi⟩ : Span), (⟨t14.left.lo, t14.left.hi⟩ : Span)⟩ : Strip) f1_c0_c0_f0).bind fun t16 =>
 if t16 = true then
 (some (.inr (.inr s))) else
 ((addc s 1).bind fun t18 =>
 some (.inl t18))) else
 (some (.inr (.inl ())))
def yo (s0 : (List Strip)) (f1_c0_c0_f0 : Scalps) : Option Int :=
 (iterM FU (yA s0 f1_c0_c0_f0) 0).bind fun o =>
 oc o (fun j => some (-1)) (fun r_1 => some r_1)
theorem QX (s0 : (List Strip)) (f1_c0_c0_f0 : Scalps) (qa0 : Option Addr) (na0 ca0 : Nat) (rb : Nat) (rb_1 : Nat) (qa3 : Option Addr) (na3 ca3 : Nat) (qa4 : Option Addr) (na4 ca4 : Nat) (w : World) (hw : HV w (keys [] []) [] [] [(aB qa0, aO qa0, RSt.enc s0), (rb, 0, [.func (.func 90) #[] #[ptr rb_1 0]]), (rb_1, 0, [.func (.func 68) #[.agg #[.slice qa3 na3 ca3, .slice qa4 na4 ca4]] #[]]), (aB qa3, aO qa3, RSt.enc f1_c0_c0_f0.strips), (aB qa4, aO qa4, RSp.enc f1_c0_c0_f0.carried)] w) (hna0 : s0.length = na0) (hqa0 : AOK na0 qa0) (hla0 : na0 ≤ ca0)   (hna3 : f1_c0_c0_f0.strips.length = na3) (hqa3 : AOK na3 qa3) (hla3 : na3 ≤ ca3) (hna4 : f1_c0_c0_f0.carried.length = na4) (hqa4 : AOK na4 qa4) (hla4 : na4 ≤ ca4) {res : Int} (hm : yo s0 f1_c0_c0_f0 = some res) :
    Calls Tryz.prog 136 #[.slice qa0 na0 ca0, .func (.func 125) #[] #[ptr rb 0]] w (fun en w' => ∃ l : Unit, en = .returned (.int .i64 res) ∧ (True) ∧ HV w (keys [] []) [] [] [] w') := by
  unfold yo at hm
  refine j5 Tryz.func136 rfl Tryz.ntmps136 rfl (e := [(0, _), (1, _)]) rfl hw (jq (jk rfl rfl (jp (jj (jq (je rfl rfl (jc rfl rfl rfl (fun w _ => jI hna0 (Tryz.runUnderlying22 w) rfl) ?_)))))))
  refine je rfl rfl (jp ?_)
  obtain ⟨o, h1, h2⟩ := bindO hm
  refine jF (ι := Unit) (fun j => o = .inl j) (fun j => []) (fun j => []) (fun j => []) ?_ ?_
  ·replace hm := h1
   refine jn ?_
   refine jL (ι := Unit) hm (fun s l => True) (fun s l => [(0, .slice qa0 na0 ca0), (1, .func (.func 125) #[] #[ptr rb 0]), (7, .int .i64 (s0.length : Int)), (8, .int .i64 s)]) (fun s l => []) (fun s l => []) () (trivial) (sE rfl) (fun w hh => hh) (fun s l r hpl hm h3 => ?_)
   unfold yA at hm
   refine jq (yY rfl rfl rfl (jp (jj ?_)))
   refine js rfl (fun h4 => ?_) (fun h4 => ?_)
   ·replace hm := ifD h4 hm
    refine ju (ja (jj (jn (jq (je rfl rfl (jk rfl rfl (j0 ?_)))))))
    refine je rfl rfl (je rfl rfl (je rfl rfl ?_))
    obtain ⟨t14, h5, hm⟩ := bindO hm
    refine jc rfl rfl rfl (fun w _ => ki h5 (Tryz.runUnderlying22 w) (Tryz.sizeOf85 w) rfl rfl hna0 hqa0) ?_
    refine jc rfl rfl rfl (fun w hh => kt RSt 0 [.int .i64 t14.tenant, .int .i64 t14.lay.lo, .int .i64 t14.lay.hi, .int .i64 t14.seeded.lo, .int .i64 t14.seeded.hi, .int .i64 t14.left.lo, .int .i64 t14.left.hi] h5 (Tryz.isAgg85 w) (Tryz.sizeOf85 w) rfl (hh.seg 0 rfl) rfl (Nat.add_zero _).symm) ?_
    obtain ⟨t16, h6, hm⟩ := bindO hm
    refine jd [] [] rfl rfl rfl rfl rfl rfl rfl Tryz.call125 (fun w hh => Ks (⟨t14.tenant, (⟨t14.lay.lo, t14.lay.hi⟩ : Span), (⟨t14.seeded.lo, t14.seeded.hi⟩ : Span), (⟨t14.left.lo, t14.left.hi⟩ : Span)⟩ : Strip) f1_c0_c0_f0 rb rb_1 qa3 na3 ca3 qa4 na4 ca4 w (HV.callee (S0 := []) (vs0 := []) hh (roR hh 1 rfl (roR hh 2 rfl (roR hh 3 rfl (roR hh 4 rfl roN))))) hna3 hqa3 hla3 hna4 hqa4 hla4 h6) (fun l_1 h7 => ?_)
    refine jp ?_
    refine js rfl (fun h8 => ?_) (fun h8 => ?_)
    ·replace hm := ifT (h8) hm
     refine jq (je rfl rfl (jk rfl rfl (jp (jw (jx (jf (jf ?_)))))))
     refine jx ?_
     obtain rfl := sj hm
     have hbo := h3 _ rfl
     subst hbo
     refine jf ?_
     replace hm := ocR h2
     refine jf ?_
     obtain rfl := sj hm
     refine jm rfl (fun w hh => (.tmp rfl .nil)) (fun w hh => ⟨(), rfl, trivial, hh.se [] [] 5 rfl rfl rfl rfl⟩)
    ·replace hm := ifN h8 hm
     refine ju (jt (ja (jh ?_)))
     obtain ⟨t18, h9, hm⟩ := bindO hm
     refine qs h9 rfl rfl rfl (je rfl rfl (jv ?_))
     obtain rfl := sj hm
     refine ja ?_
     exact jA _ () rfl (trivial) (sE rfl) (fun w hh => hh)
   ·replace hm := ifE h4 hm
    refine jS (jl (jl (jG ?_)))
    obtain rfl := sj hm
    have hbo := h3 _ rfl
    subst hbo
    exact jg () (rfl) (.nil) (fun w hh => hh)
  ·intro j hj
   have h10 := hj
   subst h10
   replace hm := ocL h2
   refine ja (jq (jk rfl rfl (jp (jw ?_))))
   obtain rfl := sj hm
   refine jm rfl (fun w hh => (.tmp rfl .nil)) (fun w hh => ⟨(), rfl, trivial, hh.se [] [] 5 rfl rfl rfl rfl⟩)
def k9 (s0 : (List Strip)) (f1_c0_c0_f0 : Scalps) : Option Bool :=
 (yo s0 f1_c0_c0_f0).bind fun t7 =>
 some (decide (0 ≤ t7))
theorem Qq (s0 : (List Strip)) (f1_c0_c0_f0 : Scalps) (qa0 : Option Addr) (na0 ca0 : Nat) (rb : Nat) (rb_1 : Nat) (qa3 : Option Addr) (na3 ca3 : Nat) (qa4 : Option Addr) (na4 ca4 : Nat) (w : World) (hw : HV w (keys [] []) [] [] [(aB qa0, aO qa0, RSt.enc s0), (rb, 0, [.func (.func 90) #[] #[ptr rb_1 0]]), (rb_1, 0, [.func (.func 68) #[.agg #[.slice qa3 na3 ca3, .slice qa4 na4 ca4]] #[]]), (aB qa3, aO qa3, RSt.enc f1_c0_c0_f0.strips), (aB qa4, aO qa4, RSp.enc f1_c0_c0_f0.carried)] w) (hna0 : s0.length = na0) (hqa0 : AOK na0 qa0) (hla0 : na0 ≤ ca0)   (hna3 : f1_c0_c0_f0.strips.length = na3) (hqa3 : AOK na3 qa3) (hla3 : na3 ≤ ca3) (hna4 : f1_c0_c0_f0.carried.length = na4) (hqa4 : AOK na4 qa4) (hla4 : na4 ≤ ca4) {res : Bool} (hm : k9 s0 f1_c0_c0_f0 = some res) :
    Calls Tryz.prog 124 #[.slice qa0 na0 ca0, .func (.func 125) #[] #[ptr rb 0]] w (fun en w' => ∃ l : Unit, en = .returned (.bool res) ∧ (True) ∧ HV w (keys [] []) [] [] [] w') := by
  unfold k9 at hm
  refine j5 Tryz.func124 rfl Tryz.ntmps124 rfl (e := [(0, _), (1, _)]) rfl hw (jq (jk rfl rfl (j0 (je rfl rfl (je rfl rfl ?_)))))
  obtain ⟨t7, h1, hm⟩ := bindO hm
  refine jd [] [] rfl rfl rfl rfl rfl rfl rfl Tryz.call136 (fun w hh => QX s0 f1_c0_c0_f0 qa0 na0 ca0 rb rb_1 qa3 na3 ca3 qa4 na4 ca4 w (HV.callee (S0 := []) (vs0 := []) hh (roR hh 0 rfl (roR hh 1 rfl (roR hh 2 rfl (roR hh 3 rfl (roR hh 4 rfl roN)))))) hna0 hqa0 hla0 hna3 hqa3 hla3 hna4 hqa4 hla4 h1) (fun l h2 => ?_)
  refine jc rfl rfl rfl (fun _ _ => K1 rfl rfl) (jk rfl rfl (jp (jw ?_)))
  obtain rfl := sj hm
  refine jm rfl (fun w hh => (.tmp rfl .nil)) (fun w hh => ⟨(), rfl, trivial, hh.se [] [] 5 rfl rfl rfl rfl⟩)
def ky (l0 : (List Strip)) (holds1_c0_f0 : Scalps) : Option Bool :=
 (k9 l0 holds1_c0_f0).bind fun t7 =>
 some (!t7)
theorem Qo (l0 : (List Strip)) (holds1_c0_f0 : Scalps) (qa0 : Option Addr) (na0 ca0 : Nat) (rb : Nat) (qa2 : Option Addr) (na2 ca2 : Nat) (qa3 : Option Addr) (na3 ca3 : Nat) (w : World) (hw : HV w (keys [] []) [] [] [(aB qa0, aO qa0, RSt.enc l0), (rb, 0, [.func (.func 68) #[.agg #[.slice qa2 na2 ca2, .slice qa3 na3 ca3]] #[]]), (aB qa2, aO qa2, RSt.enc holds1_c0_f0.strips), (aB qa3, aO qa3, RSp.enc holds1_c0_f0.carried)] w) (hna0 : l0.length = na0) (hqa0 : AOK na0 qa0) (hla0 : na0 ≤ ca0)  (hna2 : holds1_c0_f0.strips.length = na2) (hqa2 : AOK na2 qa2) (hla2 : na2 ≤ ca2) (hna3 : holds1_c0_f0.carried.length = na3) (hqa3 : AOK na3 qa3) (hla3 : na3 ≤ ca3) {res : Bool} (hm : ky l0 holds1_c0_f0 = some res) :
    Calls Tryz.prog 89 #[.slice qa0 na0 ca0, .func (.func 90) #[] #[ptr rb 0]] w (fun en w' => ∃ l : Unit, en = .returned (.bool res) ∧ (True) ∧ HV w (keys [] []) [] [] [] w') := by
  unfold ky at hm
  refine j5 Tryz.func89 rfl Tryz.ntmps89 rfl (e := [(0, _), (1, _)]) rfl hw (jq ?_)
  refine jC rfl rfl (fun b h1 => ?_)
  refine jk rfl rfl (j0 (je rfl rfl (jc rfl rfl rfl (fun _ _ => jK (u := #[]) (u' := #[_]) rfl rfl) ?_)))
  obtain ⟨t7, h2, hm⟩ := bindO hm
  refine jd [] [] rfl rfl rfl rfl rfl rfl rfl Tryz.call124 (fun w hh => Qq l0 holds1_c0_f0 qa0 na0 ca0 b rb qa2 na2 ca2 qa3 na3 ca3 w (HV.callee (S0 := []) (vs0 := []) hh (roR hh 0 rfl (roC (bsep (hh.bseg 0 rfl)) (roR hh 1 rfl (roR hh 2 rfl (roR hh 3 rfl roN)))))) hna0 hqa0 hla0 hna2 hqa2 hla2 hna3 hqa3 hla3 h2) (fun l h3 => ?_)
  refine jc rfl rfl rfl (fun _ _ => kE rfl) (jk rfl rfl (jp (jw ?_)))
  obtain rfl := sj hm
  refine jm rfl (fun w hh => (.tmp rfl .nil)) (fun w hh => ⟨(), rfl, trivial, hh.se [] [] 4 rfl rfl rfl rfl⟩)
def Ky (x0 : Span) : Option Bool :=
 some (decide (x0.lo ≤ x0.hi))
theorem ZA (x0 : Span)  (w : World) (hw : HV w (keys [] []) [] [] [] w)  {res : Bool} (hm : Ky x0 = some res) :
    Calls Tryz.prog 91 #[.agg #[.int .i64 x0.lo, .int .i64 x0.hi]] w (fun en w' => ∃ l : Unit, en = .returned (.bool res) ∧ (True) ∧ HV w (keys [] []) [] [] [] w') := by
  unfold Ky at hm
  refine j5 Tryz.func91 rfl Tryz.ntmps91 rfl (e := [(0, _)]) rfl hw (jq ?_)
  refine jC rfl rfl (fun b h1 => ?_)
  refine jk rfl rfl (j0 (jP 0 Tryz.runUnderlying32 rfl Tryz.sizeOf3 rfl rfl (jY 0 Tryz.isAgg3 rfl rfl rfl rfl (jP 1 Tryz.runUnderlying32 rfl Tryz.sizeOf3 rfl rfl (jY 0 Tryz.isAgg3 rfl rfl rfl rfl (jc rfl rfl rfl (fun _ _ => ZF rfl rfl) (jk rfl rfl ?_)))))))
  refine jp (jw ?_)
  obtain rfl := sj hm
  refine jm rfl (fun w hh => (.tmp rfl .nil)) (fun w hh => ⟨(), rfl, trivial, hh.se [] [] 0 rfl rfl rfl rfl⟩)
def kn (x0 : Span) : Option Bool :=
 (Ky x0).bind fun t6 =>
 some (!t6)
theorem KK (x0 : Span) (rb : Nat) (w : World) (hw : HV w (keys [] []) [] [] [(rb, 0, [.func (.func 91) #[] #[]])] w)  {res : Bool} (hm : kn x0 = some res) :
    Calls Tryz.prog 122 #[.agg #[.int .i64 x0.lo, .int .i64 x0.hi], ptr rb 0] w (fun en w' => ∃ l : Unit, en = .returned (.bool res) ∧ (True) ∧ HV w (keys [] []) [] [] [] w') := by
  unfold kn at hm
  refine j5 Tryz.func122 rfl Tryz.ntmps122 rfl (e := [(0, _), (1, _)]) rfl hw (jq ?_)
  refine jC rfl rfl (fun b h1 => ?_)
  refine jk rfl rfl (j0 (jc rfl rfl rfl (fun w hh => jR (Tryz.isAgg100 w) rfl (segCell (hh.seg 0 rfl) 0 rfl)) (kD [_, _] 0 Tryz.isAgg32 Tryz.sizeOf32 rfl rfl rfl rfl ?_)))
  obtain ⟨t6, h2, hm⟩ := bindO hm
  refine jd [] [] rfl rfl rfl rfl rfl rfl rfl Tryz.call91 (fun w hh => ZA x0 w (HV.callee (S0 := []) (vs0 := []) hh roN)  h2) (fun l h3 => ?_)
  refine jc rfl rfl rfl (fun _ _ => kE rfl) (jk rfl rfl (jp (jw ?_)))
  obtain rfl := sj hm
  refine jm rfl (fun w hh => (.tmp rfl .nil)) (fun w hh => ⟨(), rfl, trivial, hh.se [] [] 1 rfl rfl rfl rfl⟩)
def qX (s0 : (List Span)) (s : Int) : Option (Int ⊕ (Unit ⊕ Int)) :=
 if s < (s0.length : Int) then
 ((ix s0 s).bind fun t14 =>
 (kn t14).bind fun t16 =>
 if t16 = true then
 (some (.inr (.inr s))) else
 ((addc s 1).bind fun t18 =>
 some (.inl t18))) else
 (some (.inr (.inl ())))
def qC (s0 : (List Span)) : Option Int :=
 (iterM FU (qX s0) 0).bind fun o =>
 oc o (fun j => some (-1)) (fun r_1 => some r_1)
theorem Qt (s0 : (List Span)) (qa0 : Option Addr) (na0 ca0 : Nat) (rb : Nat) (w : World) (hw : HV w (keys [] []) [] [] [(aB qa0, aO qa0, RSp.enc s0), (rb, 0, [.func (.func 91) #[] #[]])] w) (hna0 : s0.length = na0) (hqa0 : AOK na0 qa0) (hla0 : na0 ≤ ca0)  {res : Int} (hm : qC s0 = some res) :
    Calls Tryz.prog 135 #[.slice qa0 na0 ca0, .func (.func 122) #[] #[ptr rb 0]] w (fun en w' => ∃ l : Unit, en = .returned (.int .i64 res) ∧ (True) ∧ HV w (keys [] []) [] [] [] w') := by
  unfold qC at hm
  refine j5 Tryz.func135 rfl Tryz.ntmps135 rfl (e := [(0, _), (1, _)]) rfl hw (jq (jk rfl rfl (jp (jj (jq (je rfl rfl (jc rfl rfl rfl (fun w _ => jI hna0 (Tryz.runUnderlying23 w) rfl) ?_)))))))
  refine je rfl rfl (jp ?_)
  obtain ⟨o, h1, h2⟩ := bindO hm
  refine jF (ι := Unit) (fun j => o = .inl j) (fun j => []) (fun j => []) (fun j => []) ?_ ?_
  ·replace hm := h1
   refine jn ?_
   refine jL (ι := Unit) hm (fun s l => True) (fun s l => [(0, .slice qa0 na0 ca0), (1, .func (.func 122) #[] #[ptr rb 0]), (7, .int .i64 (s0.length : Int)), (8, .int .i64 s)]) (fun s l => []) (fun s l => []) () (trivial) (sE rfl) (fun w hh => hh) (fun s l r hpl hm h3 => ?_)
   unfold qX at hm
   refine jq (yY rfl rfl rfl (jp (jj ?_)))
   refine js rfl (fun h4 => ?_) (fun h4 => ?_)
   ·replace hm := ifD h4 hm
    refine ju (ja (jj (jn (jq (je rfl rfl (jk rfl rfl (j0 ?_)))))))
    refine je rfl rfl (je rfl rfl (je rfl rfl ?_))
    obtain ⟨t14, h5, hm⟩ := bindO hm
    refine jc rfl rfl rfl (fun w _ => ki h5 (Tryz.runUnderlying23 w) (Tryz.sizeOf32 w) rfl rfl hna0 hqa0) ?_
    refine jc rfl rfl rfl (fun w hh => kt RSp 0 [.int .i64 t14.lo, .int .i64 t14.hi] h5 (Tryz.isAgg32 w) (Tryz.sizeOf32 w) rfl (hh.seg 0 rfl) rfl (Nat.add_zero _).symm) ?_
    obtain ⟨t16, h6, hm⟩ := bindO hm
    refine jd [] [] rfl rfl rfl rfl rfl rfl rfl Tryz.call122 (fun w hh => KK t14 rb w (HV.callee (S0 := []) (vs0 := []) hh (roR hh 1 rfl roN))  h6) (fun l_1 h7 => ?_)
    refine jp ?_
    refine js rfl (fun h8 => ?_) (fun h8 => ?_)
    ·replace hm := ifT (h8) hm
     refine jq (je rfl rfl (jk rfl rfl (jp (jw (jx (jf (jf ?_)))))))
     refine jx ?_
     obtain rfl := sj hm
     have hbo := h3 _ rfl
     subst hbo
     refine jf ?_
     replace hm := ocR h2
     refine jf ?_
     obtain rfl := sj hm
     refine jm rfl (fun w hh => (.tmp rfl .nil)) (fun w hh => ⟨(), rfl, trivial, hh.se [] [] 2 rfl rfl rfl rfl⟩)
    ·replace hm := ifN h8 hm
     refine ju (jt (ja (jh ?_)))
     obtain ⟨t18, h9, hm⟩ := bindO hm
     refine qs h9 rfl rfl rfl (je rfl rfl (jv ?_))
     obtain rfl := sj hm
     refine ja ?_
     exact jA _ () rfl (trivial) (sE rfl) (fun w hh => hh)
   ·replace hm := ifE h4 hm
    refine jS (jl (jl (jG ?_)))
    obtain rfl := sj hm
    have hbo := h3 _ rfl
    subst hbo
    exact jg () (rfl) (.nil) (fun w hh => hh)
  ·intro j hj
   have h10 := hj
   subst h10
   replace hm := ocL h2
   refine ja (jq (jk rfl rfl (jp (jw ?_))))
   obtain rfl := sj hm
   refine jm rfl (fun w hh => (.tmp rfl .nil)) (fun w hh => ⟨(), rfl, trivial, hh.se [] [] 2 rfl rfl rfl rfl⟩)
def kL (s0 : (List Span)) : Option Bool :=
 (qC s0).bind fun t7 =>
 some (decide (0 ≤ t7))
theorem KP (s0 : (List Span)) (qa0 : Option Addr) (na0 ca0 : Nat) (rb : Nat) (w : World) (hw : HV w (keys [] []) [] [] [(aB qa0, aO qa0, RSp.enc s0), (rb, 0, [.func (.func 91) #[] #[]])] w) (hna0 : s0.length = na0) (hqa0 : AOK na0 qa0) (hla0 : na0 ≤ ca0)  {res : Bool} (hm : kL s0 = some res) :
    Calls Tryz.prog 121 #[.slice qa0 na0 ca0, .func (.func 122) #[] #[ptr rb 0]] w (fun en w' => ∃ l : Unit, en = .returned (.bool res) ∧ (True) ∧ HV w (keys [] []) [] [] [] w') := by
  unfold kL at hm
  refine j5 Tryz.func121 rfl Tryz.ntmps121 rfl (e := [(0, _), (1, _)]) rfl hw (jq (jk rfl rfl (j0 (je rfl rfl (je rfl rfl ?_)))))
  obtain ⟨t7, h1, hm⟩ := bindO hm
  refine jd [] [] rfl rfl rfl rfl rfl rfl rfl Tryz.call135 (fun w hh => Qt s0 qa0 na0 ca0 rb w (HV.callee (S0 := []) (vs0 := []) hh (roR hh 0 rfl (roR hh 1 rfl roN))) hna0 hqa0 hla0 h1) (fun l h2 => ?_)
  refine jc rfl rfl rfl (fun _ _ => K1 rfl rfl) (jk rfl rfl (jp (jw ?_)))
  obtain rfl := sj hm
  refine jm rfl (fun w hh => (.tmp rfl .nil)) (fun w hh => ⟨(), rfl, trivial, hh.se [] [] 2 rfl rfl rfl rfl⟩)
def kH (l0 : (List Span)) : Option Bool :=
 (kL l0).bind fun t7 =>
 some (!t7)
theorem Qu (l0 : (List Span)) (qa0 : Option Addr) (na0 ca0 : Nat) (w : World) (hw : HV w (keys [] []) [] [] [(aB qa0, aO qa0, RSp.enc l0)] w) (hna0 : l0.length = na0) (hqa0 : AOK na0 qa0) (hla0 : na0 ≤ ca0) {res : Bool} (hm : kH l0 = some res) :
    Calls Tryz.prog 87 #[.slice qa0 na0 ca0, .func (.func 91) #[] #[]] w (fun en w' => ∃ l : Unit, en = .returned (.bool res) ∧ (True) ∧ HV w (keys [] []) [] [] [] w') := by
  unfold kH at hm
  refine j5 Tryz.func87 rfl Tryz.ntmps87 rfl (e := [(0, _), (1, _)]) rfl hw (jq ?_)
  refine jC rfl rfl (fun b h1 => ?_)
  refine jk rfl rfl (j0 (je rfl rfl (jc rfl rfl rfl (fun _ _ => jK (u := #[]) (u' := #[_]) rfl rfl) ?_)))
  obtain ⟨t7, h2, hm⟩ := bindO hm
  refine jd [] [] rfl rfl rfl rfl rfl rfl rfl Tryz.call121 (fun w hh => KP l0 qa0 na0 ca0 b w (HV.callee (S0 := []) (vs0 := []) hh (roR hh 0 rfl (roC (bsep (hh.bseg 0 rfl)) roN))) hna0 hqa0 hla0 h2) (fun l h3 => ?_)
  refine jc rfl rfl rfl (fun _ _ => kE rfl) (jk rfl rfl (jp (jw ?_)))
  obtain rfl := sj hm
  refine jm rfl (fun w hh => (.tmp rfl .nil)) (fun w hh => ⟨(), rfl, trivial, hh.se [] [] 1 rfl rfl rfl rfl⟩)
def kc (x0 : Strip) : Option Span :=
 (addc x0.lay.lo x0.seeded.lo).bind fun t9 =>
 (subc t9 x0.left.hi).bind fun t13 =>
 (addc x0.lay.hi x0.seeded.hi).bind fun t21 =>
 (subc t21 x0.left.lo).bind fun t25 =>
 some (⟨(max 0 t13), t25⟩ : Span)
theorem qM (x0 : Strip)  (w : World) (hw : HV w (keys [] []) [] [] [] w)  {res : Span} (hm : kc x0 = some res) :
    Calls Tryz.prog 66 #[.agg #[.int .i64 x0.tenant, .int .i64 x0.lay.lo, .int .i64 x0.lay.hi, .int .i64 x0.seeded.lo, .int .i64 x0.seeded.hi, .int .i64 x0.left.lo, .int .i64 x0.left.hi]] w (fun en w' => ∃ l : Unit, en = .returned (.agg #[.int .i64 res.lo, .int .i64 res.hi]) ∧ (True) ∧ HV w (keys [] []) [] [] [] w') := by
  unfold kc at hm
  refine j5 Tryz.func66 rfl Tryz.ntmps66 rfl (e := [(0, _)]) rfl hw (jq ?_)
  refine jC rfl rfl (fun b h1 => ?_)
  refine jo (fun w => Tryz.zeroValue32 w) rfl (fun b_1 h2 => ?_)
  refine j0 (jP 1 Tryz.runUnderlying85 rfl Tryz.sizeOf32 rfl rfl (jP 0 Tryz.runUnderlying32 rfl Tryz.sizeOf3 rfl rfl (jY 1 Tryz.isAgg3 rfl rfl rfl rfl (jP 3 Tryz.runUnderlying85 rfl Tryz.sizeOf32 rfl rfl (jP 0 Tryz.runUnderlying32 rfl Tryz.sizeOf3 rfl rfl (jY 1 Tryz.isAgg3 rfl rfl rfl rfl ?_))))))
  obtain ⟨t9, h3, hm⟩ := bindO hm
  refine qs h3 rfl rfl rfl (jP 5 Tryz.runUnderlying85 rfl Tryz.sizeOf32 rfl rfl (jP 1 Tryz.runUnderlying32 rfl Tryz.sizeOf3 rfl rfl (jY 1 Tryz.isAgg3 rfl rfl rfl rfl ?_)))
  obtain ⟨t13, h4, hm⟩ := bindO hm
  refine jc rfl rfl rfl (fun _ _ => yb h4 rfl rfl) (jc rfl rfl rfl (fun _ _ => Z5 rfl rfl) (jP 1 Tryz.runUnderlying85 rfl Tryz.sizeOf32 rfl rfl (jP 1 Tryz.runUnderlying32 rfl Tryz.sizeOf3 rfl rfl (jY 1 Tryz.isAgg3 rfl rfl rfl rfl (jP 3 Tryz.runUnderlying85 rfl Tryz.sizeOf32 rfl rfl (jP 1 Tryz.runUnderlying32 rfl Tryz.sizeOf3 rfl rfl (jY 1 Tryz.isAgg3 rfl rfl rfl rfl ?_)))))))
  obtain ⟨t21, h5, hm⟩ := bindO hm
  refine qs h5 rfl rfl rfl (jP 5 Tryz.runUnderlying85 rfl Tryz.sizeOf32 rfl rfl (jP 0 Tryz.runUnderlying32 rfl Tryz.sizeOf3 rfl rfl (jY 1 Tryz.isAgg3 rfl rfl rfl rfl ?_)))
  obtain ⟨t25, h6, hm⟩ := bindO hm
  refine jc rfl rfl rfl (fun _ _ => yb h6 rfl rfl) (jc rfl rfl rfl (fun _ _ => jz (vs := [(0, _), (1, _)]) (cells := [_, _]) rfl rfl) (jy (us := #[_, _]) (cs' := [_, _]) (S' := [_, _]) 0 (fun w => Tryz.sizeOf32 w) rfl rfl rfl rfl rfl rfl rfl (jp (jw ?_))))
  obtain rfl := sj hm
  refine jm rfl (fun w hh => (.cell rfl (loadVar_agg (vs := [_, _]) (Tryz.isAgg32 _) (Tryz.sizeOf32 _) (hh.cells 0 rfl rfl)) .nil)) (fun w hh => ⟨(), rfl, trivial, hh.se [] [] 0 rfl rfl rfl rfl⟩)
def KE (x0 : Strip) : Option Bool :=
 (kc x0).bind fun t4 =>
 some (decide (0 ≤ t4.hi))
theorem ZG (x0 : Strip)  (w : World) (hw : HV w (keys [] []) [] [] [] w)  {res : Bool} (hm : KE x0 = some res) :
    Calls Tryz.prog 92 #[.agg #[.int .i64 x0.tenant, .int .i64 x0.lay.lo, .int .i64 x0.lay.hi, .int .i64 x0.seeded.lo, .int .i64 x0.seeded.hi, .int .i64 x0.left.lo, .int .i64 x0.left.hi]] w (fun en w' => ∃ l : Unit, en = .returned (.bool res) ∧ (True) ∧ HV w (keys [] []) [] [] [] w') := by
  unfold KE at hm
  refine j5 Tryz.func92 rfl Tryz.ntmps92 rfl (e := [(0, _)]) rfl hw (jq ?_)
  refine jC rfl rfl (fun b h1 => ?_)
  refine jk rfl rfl (j0 (kD [_, _, _, _, _, _, _] 0 Tryz.isAgg85 Tryz.sizeOf85 rfl rfl rfl rfl ?_))
  obtain ⟨t4, h2, hm⟩ := bindO hm
  refine jd [] [] rfl rfl rfl rfl rfl rfl rfl Tryz.call66 (fun w hh => qM x0 w (HV.callee (S0 := []) (vs0 := []) hh roN)  h2) (fun l h3 => ?_)
  refine jc rfl rfl rfl (fun w _ => Zg 3 1 (Tryz.runUnderlying32 w) rfl (Tryz.isAgg3 w) rfl rfl) (jc rfl rfl rfl (fun _ _ => K1 rfl rfl) (jk rfl rfl (jp (jw ?_))))
  obtain rfl := sj hm
  refine jm rfl (fun w hh => (.tmp rfl .nil)) (fun w hh => ⟨(), rfl, trivial, hh.se [] [] 0 rfl rfl rfl rfl⟩)
def j2 (x0 : Strip) : Option Bool :=
 (KE x0).bind fun t6 =>
 some (!t6)
theorem JW (x0 : Strip) (rb : Nat) (w : World) (hw : HV w (keys [] []) [] [] [(rb, 0, [.func (.func 92) #[] #[]])] w)  {res : Bool} (hm : j2 x0 = some res) :
    Calls Tryz.prog 125 #[.agg #[.int .i64 x0.tenant, .int .i64 x0.lay.lo, .int .i64 x0.lay.hi, .int .i64 x0.seeded.lo, .int .i64 x0.seeded.hi, .int .i64 x0.left.lo, .int .i64 x0.left.hi], ptr rb 0] w (fun en w' => ∃ l : Unit, en = .returned (.bool res) ∧ (True) ∧ HV w (keys [] []) [] [] [] w') := by
  unfold j2 at hm
  refine j5 Tryz.func125 rfl Tryz.ntmps125 rfl (e := [(0, _), (1, _)]) rfl hw (jq ?_)
  refine jC rfl rfl (fun b h1 => ?_)
  refine jk rfl rfl (j0 (jc rfl rfl rfl (fun w hh => jR (Tryz.isAgg139 w) rfl (segCell (hh.seg 0 rfl) 0 rfl)) (kD [_, _, _, _, _, _, _] 0 Tryz.isAgg85 Tryz.sizeOf85 rfl rfl rfl rfl ?_)))
  obtain ⟨t6, h2, hm⟩ := bindO hm
  refine jd [] [] rfl rfl rfl rfl rfl rfl rfl Tryz.call92 (fun w hh => ZG x0 w (HV.callee (S0 := []) (vs0 := []) hh roN)  h2) (fun l h3 => ?_)
  refine jc rfl rfl rfl (fun _ _ => kE rfl) (jk rfl rfl (jp (jw ?_)))
  obtain rfl := sj hm
  refine jm rfl (fun w hh => (.tmp rfl .nil)) (fun w hh => ⟨(), rfl, trivial, hh.se [] [] 1 rfl rfl rfl rfl⟩)
def qV (s0 : (List Strip)) (s : Int) : Option (Int ⊕ (Unit ⊕ Int)) :=
 if s < (s0.length : Int) then
 ((ix s0 s).bind fun t14 =>
 (j2 (⟨t14.tenant, (⟨t14.lay.lo, t14.lay.hi⟩ : Span), (⟨t14.seeded.lo, t14.seeded.hi⟩ : Span), (⟨t14.left.lo, t14.left.hi⟩ : Span)⟩ : Strip)).bind fun t16 =>
 if t16 = true then
 (some (.inr (.inr s))) else
 ((addc s 1).bind fun t18 =>
 some (.inl t18))) else
 (some (.inr (.inl ())))
def qD (s0 : (List Strip)) : Option Int :=
 (iterM FU (qV s0) 0).bind fun o =>
 oc o (fun j => some (-1)) (fun r_1 => some r_1)
theorem Qv (s0 : (List Strip)) (qa0 : Option Addr) (na0 ca0 : Nat) (rb : Nat) (w : World) (hw : HV w (keys [] []) [] [] [(aB qa0, aO qa0, RSt.enc s0), (rb, 0, [.func (.func 92) #[] #[]])] w) (hna0 : s0.length = na0) (hqa0 : AOK na0 qa0) (hla0 : na0 ≤ ca0)  {res : Int} (hm : qD s0 = some res) :
    Calls Tryz.prog 136 #[.slice qa0 na0 ca0, .func (.func 125) #[] #[ptr rb 0]] w (fun en w' => ∃ l : Unit, en = .returned (.int .i64 res) ∧ (True) ∧ HV w (keys [] []) [] [] [] w') := by
  unfold qD at hm
  refine j5 Tryz.func136 rfl Tryz.ntmps136 rfl (e := [(0, _), (1, _)]) rfl hw (jq (jk rfl rfl (jp (jj (jq (je rfl rfl (jc rfl rfl rfl (fun w _ => jI hna0 (Tryz.runUnderlying22 w) rfl) ?_)))))))
  refine je rfl rfl (jp ?_)
  obtain ⟨o, h1, h2⟩ := bindO hm
  refine jF (ι := Unit) (fun j => o = .inl j) (fun j => []) (fun j => []) (fun j => []) ?_ ?_
  ·replace hm := h1
   refine jn ?_
   refine jL (ι := Unit) hm (fun s l => True) (fun s l => [(0, .slice qa0 na0 ca0), (1, .func (.func 125) #[] #[ptr rb 0]), (7, .int .i64 (s0.length : Int)), (8, .int .i64 s)]) (fun s l => []) (fun s l => []) () (trivial) (sE rfl) (fun w hh => hh) (fun s l r hpl hm h3 => ?_)
   unfold qV at hm
   refine jq (yY rfl rfl rfl (jp (jj ?_)))
   refine js rfl (fun h4 => ?_) (fun h4 => ?_)
   ·replace hm := ifD h4 hm
    refine ju (ja (jj (jn (jq (je rfl rfl (jk rfl rfl (j0 ?_)))))))
    refine je rfl rfl (je rfl rfl (je rfl rfl ?_))
    obtain ⟨t14, h5, hm⟩ := bindO hm
    refine jc rfl rfl rfl (fun w _ => ki h5 (Tryz.runUnderlying22 w) (Tryz.sizeOf85 w) rfl rfl hna0 hqa0) ?_
    refine jc rfl rfl rfl (fun w hh => kt RSt 0 [.int .i64 t14.tenant, .int .i64 t14.lay.lo, .int .i64 t14.lay.hi, .int .i64 t14.seeded.lo, .int .i64 t14.seeded.hi, .int .i64 t14.left.lo, .int .i64 t14.left.hi] h5 (Tryz.isAgg85 w) (Tryz.sizeOf85 w) rfl (hh.seg 0 rfl) rfl (Nat.add_zero _).symm) ?_
    obtain ⟨t16, h6, hm⟩ := bindO hm
    refine jd [] [] rfl rfl rfl rfl rfl rfl rfl Tryz.call125 (fun w hh => JW (⟨t14.tenant, (⟨t14.lay.lo, t14.lay.hi⟩ : Span), (⟨t14.seeded.lo, t14.seeded.hi⟩ : Span), (⟨t14.left.lo, t14.left.hi⟩ : Span)⟩ : Strip) rb w (HV.callee (S0 := []) (vs0 := []) hh (roR hh 1 rfl roN))  h6) (fun l_1 h7 => ?_)
    refine jp ?_
    refine js rfl (fun h8 => ?_) (fun h8 => ?_)
    ·replace hm := ifT (h8) hm
     refine jq (je rfl rfl (jk rfl rfl (jp (jw (jx (jf (jf ?_)))))))
     refine jx ?_
     obtain rfl := sj hm
     have hbo := h3 _ rfl
     subst hbo
     refine jf ?_
     replace hm := ocR h2
     refine jf ?_
     obtain rfl := sj hm
     refine jm rfl (fun w hh => (.tmp rfl .nil)) (fun w hh => ⟨(), rfl, trivial, hh.se [] [] 2 rfl rfl rfl rfl⟩)
    ·replace hm := ifN h8 hm
     refine ju (jt (ja (jh ?_)))
     obtain ⟨t18, h9, hm⟩ := bindO hm
     refine qs h9 rfl rfl rfl (je rfl rfl (jv ?_))
     obtain rfl := sj hm
     refine ja ?_
     exact jA _ () rfl (trivial) (sE rfl) (fun w hh => hh)
   ·replace hm := ifE h4 hm
    refine jS (jl (jl (jG ?_)))
    obtain rfl := sj hm
    have hbo := h3 _ rfl
    subst hbo
    exact jg () (rfl) (.nil) (fun w hh => hh)
  ·intro j hj
   have h10 := hj
   subst h10
   replace hm := ocL h2
   refine ja (jq (jk rfl rfl (jp (jw ?_))))
   obtain rfl := sj hm
   refine jm rfl (fun w hh => (.tmp rfl .nil)) (fun w hh => ⟨(), rfl, trivial, hh.se [] [] 2 rfl rfl rfl rfl⟩)
def kK (s0 : (List Strip)) : Option Bool :=
 (qD s0).bind fun t7 =>
 some (decide (0 ≤ t7))
theorem KN (s0 : (List Strip)) (qa0 : Option Addr) (na0 ca0 : Nat) (rb : Nat) (w : World) (hw : HV w (keys [] []) [] [] [(aB qa0, aO qa0, RSt.enc s0), (rb, 0, [.func (.func 92) #[] #[]])] w) (hna0 : s0.length = na0) (hqa0 : AOK na0 qa0) (hla0 : na0 ≤ ca0)  {res : Bool} (hm : kK s0 = some res) :
    Calls Tryz.prog 124 #[.slice qa0 na0 ca0, .func (.func 125) #[] #[ptr rb 0]] w (fun en w' => ∃ l : Unit, en = .returned (.bool res) ∧ (True) ∧ HV w (keys [] []) [] [] [] w') := by
  unfold kK at hm
  refine j5 Tryz.func124 rfl Tryz.ntmps124 rfl (e := [(0, _), (1, _)]) rfl hw (jq (jk rfl rfl (j0 (je rfl rfl (je rfl rfl ?_)))))
  obtain ⟨t7, h1, hm⟩ := bindO hm
  refine jd [] [] rfl rfl rfl rfl rfl rfl rfl Tryz.call136 (fun w hh => Qv s0 qa0 na0 ca0 rb w (HV.callee (S0 := []) (vs0 := []) hh (roR hh 0 rfl (roR hh 1 rfl roN))) hna0 hqa0 hla0 h1) (fun l h2 => ?_)
  refine jc rfl rfl rfl (fun _ _ => K1 rfl rfl) (jk rfl rfl (jp (jw ?_)))
  obtain rfl := sj hm
  refine jm rfl (fun w hh => (.tmp rfl .nil)) (fun w hh => ⟨(), rfl, trivial, hh.se [] [] 2 rfl rfl rfl rfl⟩)
def km (l0 : (List Strip)) : Option Bool :=
 (kK l0).bind fun t7 =>
 some (!t7)
theorem KL (l0 : (List Strip)) (qa0 : Option Addr) (na0 ca0 : Nat) (w : World) (hw : HV w (keys [] []) [] [] [(aB qa0, aO qa0, RSt.enc l0)] w) (hna0 : l0.length = na0) (hqa0 : AOK na0 qa0) (hla0 : na0 ≤ ca0) {res : Bool} (hm : km l0 = some res) :
    Calls Tryz.prog 89 #[.slice qa0 na0 ca0, .func (.func 92) #[] #[]] w (fun en w' => ∃ l : Unit, en = .returned (.bool res) ∧ (True) ∧ HV w (keys [] []) [] [] [] w') := by
  unfold km at hm
  refine j5 Tryz.func89 rfl Tryz.ntmps89 rfl (e := [(0, _), (1, _)]) rfl hw (jq ?_)
  refine jC rfl rfl (fun b h1 => ?_)
  refine jk rfl rfl (j0 (je rfl rfl (jc rfl rfl rfl (fun _ _ => jK (u := #[]) (u' := #[_]) rfl rfl) ?_)))
  obtain ⟨t7, h2, hm⟩ := bindO hm
  refine jd [] [] rfl rfl rfl rfl rfl rfl rfl Tryz.call124 (fun w hh => KN l0 qa0 na0 ca0 b w (HV.callee (S0 := []) (vs0 := []) hh (roR hh 0 rfl (roC (bsep (hh.bseg 0 rfl)) roN))) hna0 hqa0 hla0 h2) (fun l h3 => ?_)
  refine jc rfl rfl rfl (fun _ _ => kE rfl) (jk rfl rfl (jp (jw ?_)))
  obtain rfl := sj hm
  refine jm rfl (fun w hh => (.tmp rfl .nil)) (fun w hh => ⟨(), rfl, trivial, hh.se [] [] 1 rfl rfl rfl rfl⟩)
def J7 (s0 : Scalps) : Option Int :=
 ((KX (s0.strips.length : Int) 1 6).bind fun t10 =>
 if (!t10) = true then
 (some true) else
 ((KX (s0.carried.length : Int) 1 5).bind fun t16 =>
 some (!t16))).bind fun o =>
 if o = true then
 (some 2) else
 ((kU s0).bind fun t21 =>
 (qb t21).bind fun t22 =>
 if (!t22) = true then
 (some 3) else
 ((ky s0.strips s0).bind fun t28 =>
 if (!t28) = true then
 (some 1) else
 ((kU s0).bind fun t32 =>
 (kH t32).bind fun t33 =>
 if (!t33) = true then
 (some 4) else
 ((km s0.strips).bind fun t38 =>
 if (!t38) = true then
 (some 8) else
 (some 0)))))
theorem Zl (s0 : Scalps) (qa0 : Option Addr) (na0 ca0 : Nat) (qa1 : Option Addr) (na1 ca1 : Nat) (w : World) (hw : HV w (keys [] []) [] [] [(aB qa0, aO qa0, RSt.enc s0.strips), (aB qa1, aO qa1, RSp.enc s0.carried)] w) (hna0 : s0.strips.length = na0) (hqa0 : AOK na0 qa0) (hla0 : na0 ≤ ca0) (hna1 : s0.carried.length = na1) (hqa1 : AOK na1 qa1) (hla1 : na1 ≤ ca1) {res : Int} (hm : J7 s0 = some res) :
    Calls Tryz.prog 32 #[.agg #[.slice qa0 na0 ca0, .slice qa1 na1 ca1]] w (fun en w' => ∃ l : Unit, en = .returned (.int .i64 res) ∧ (True) ∧ HV w (keys [] []) [] [] [] w') := by
  unfold J7 at hm
  refine j5 Tryz.func32 rfl Tryz.ntmps32 rfl (e := [(0, _)]) rfl hw (jq ?_)
  refine jC rfl rfl (fun b h1 => ?_)
  refine jk rfl rfl (j0 (kD [_, _] 0 Tryz.isAgg25 Tryz.sizeOf25 rfl rfl rfl rfl (jc rfl rfl rfl (fun _ _ => jK (u := #[_]) (u' := #[]) rfl rfl) ?_)))
  refine jo (fun w => Tryz.zeroValue120 w) rfl (fun b_1 h2 => ?_)
  refine kY (cs' := #[_]) (S' := [_, _]) 0 (fun w => Tryz.sizeOf120 w) rfl rfl rfl rfl rfl rfl rfl (jp (jj (jn (jj ?_))))
  obtain ⟨o, h3, h4⟩ := bindO hm
  refine jF (ι := Unit) (fun l => True) (fun l => [(1, ptr b 0), (3, ptr b_1 0), (6, .bool o)]) (fun l => [(b_1, .cells #[.func (.func 68) #[.agg #[.slice qa0 na0 ca0, .slice qa1 na1 ca1]] #[]] 120 (0, 0)), (b, .cells #[.slice qa0 na0 ca0, .slice qa1 na1 ca1] 25 (0, 0))]) (fun l => []) ?_ ?_
  ·replace hm := h3
   refine jh (jP 0 Tryz.runUnderlying25 rfl Tryz.sizeOf22 rfl rfl (jY 1 Tryz.isAgg22 rfl rfl rfl rfl (jc rfl rfl rfl (fun w _ => jI hna0 (Tryz.runUnderlying22 w) rfl) ?_)))
   obtain ⟨t10, h5, hm⟩ := bindO hm
   refine jd [] [] rfl rfl rfl rfl rfl rfl rfl Tryz.call62 (fun w hh => Yp (s0.strips.length : Int) 1 6 w (HV.callee (S0 := []) (vs0 := []) hh roN)  h5) (fun l_1 h6 => ?_)
   refine jc rfl rfl rfl (fun _ _ => kE rfl) (je rfl rfl ?_)
   refine jJ 12 rfl (fun h7 => ?_) (fun h7 => ?_)
   ·replace hm := ifT (h7) hm
    refine g_k rfl rfl rfl rfl (g_k rfl rfl rfl rfl (g_k rfl rfl rfl rfl (g_k rfl rfl rfl rfl (g_k rfl rfl rfl rfl (kx rfl rfl rfl (jk rfl rfl (jv ?_)))))))
    obtain rfl := sj hm
    exact jg () (trivial) (sE rfl) (fun w hh => hh)
   ·replace hm := ifN h7 hm
    refine jb rfl rfl (jP 1 Tryz.runUnderlying25 rfl Tryz.sizeOf23 rfl rfl (jb rfl rfl (jY 1 Tryz.isAgg23 rfl rfl rfl rfl (jb rfl rfl (jc rfl rfl rfl (fun w _ => jI hna1 (Tryz.runUnderlying23 w) rfl) (jb rfl rfl ?_))))))
    obtain ⟨t16, h8, hm⟩ := bindO hm
    refine jd [] [] rfl rfl rfl rfl rfl rfl rfl Tryz.call62 (fun w hh => Yp (s0.carried.length : Int) 1 5 w (HV.callee (S0 := []) (vs0 := []) hh roN)  h8) (fun l_2 h9 => ?_)
    refine jb rfl rfl (jc rfl rfl rfl (fun _ _ => kE rfl) (j3 rfl rfl rfl (jk rfl rfl (jv ?_))))
    obtain rfl := sj hm
    exact jg () (trivial) (sE rfl) (fun w hh => hh)
  ·intro l hj
   replace hm := h4
   refine ja ?_
   refine js rfl (fun h10 => ?_) (fun h10 => ?_)
   ·replace hm := ifT (h10) hm
    refine jq (jk rfl rfl (jp (jw (jx (jf ?_)))))
    obtain rfl := sj hm
    refine jm rfl (fun w hh => (.tmp rfl .nil)) (fun w hh => ⟨(), rfl, trivial, hh.se [] [] 2 rfl rfl rfl rfl⟩)
   ·replace hm := ifN h10 hm
    refine jq (kD [_, _] 1 Tryz.isAgg25 Tryz.sizeOf25 rfl rfl rfl rfl ?_)
    obtain ⟨t21, h11, hm⟩ := bindO hm
    refine jd [] [] rfl rfl rfl rfl rfl rfl rfl Tryz.call88 (fun w hh => KJ s0 qa0 na0 ca0 qa1 na1 ca1 w (HV.callee (S0 := []) (vs0 := []) hh (roR hh 0 rfl (roR hh 1 rfl roN))) hna0 hqa0 hla0 hna1 hqa1 hla1 h11) (fun l_3 h12 => ?_)
    have h13 := h12
    refine jT (S' := [_, _]) (vs' := [_]) [0, 1] [0] 0 rfl rfl rfl rfl ?_
    obtain ⟨t22, h14, hm⟩ := bindO hm
    refine jd [] [] rfl rfl rfl rfl rfl rfl rfl Tryz.call87 (fun w hh => QQ t21 (qA l_3.q) l_3.n l_3.cap w (HV.callee (S0 := []) (vs0 := []) hh (roC (hh.vsepA 0 rfl h13) roN)) (vlen RSp h13 rfl) (AOK.q (vne h13)) (h13).hle h14) (fun l_4 h15 => ?_)
    refine jc rfl rfl rfl (fun _ _ => kE rfl) (jk rfl rfl (jp ?_))
    refine js rfl (fun h16 => ?_) (fun h16 => ?_)
    ·replace hm := ifT (h16) hm
     refine jq (jk rfl rfl (jp (jw (jx (jf ?_)))))
     obtain rfl := sj hm
     refine jm rfl (fun w hh => (.tmp rfl .nil)) (fun w hh => ⟨(), rfl, trivial, hh.se [] [] 2 rfl rfl rfl rfl⟩)
    ·replace hm := ifN h16 hm
     refine jq (jP 0 Tryz.runUnderlying25 rfl Tryz.sizeOf22 rfl rfl (jY 1 Tryz.isAgg22 rfl rfl rfl rfl (jc rfl rfl rfl (fun _ _ => jK (u := #[]) (u' := #[_]) rfl rfl) ?_)))
     obtain ⟨t28, h17, hm⟩ := bindO hm
     refine jd [] [] rfl rfl rfl rfl rfl rfl rfl Tryz.call89 (fun w hh => Qo s0.strips s0 qa0 na0 ca0 b_1 qa0 na0 ca0 qa1 na1 ca1 w (HV.callee (S0 := []) (vs0 := []) hh (roR hh 0 rfl (roC (bsep (hh.bseg 0 rfl)) (roR hh 0 rfl (roR hh 1 rfl roN))))) hna0 hqa0 hla0 hna0 hqa0 hla0 hna1 hqa1 hla1 h17) (fun l_5 h18 => ?_)
     refine jc rfl rfl rfl (fun _ _ => kE rfl) (jk rfl rfl (jp ?_))
     refine js rfl (fun h19 => ?_) (fun h19 => ?_)
     ·replace hm := ifT (h19) hm
      refine jq (jk rfl rfl (jp (jw (jx (jf ?_)))))
      obtain rfl := sj hm
      refine jm rfl (fun w hh => (.tmp rfl .nil)) (fun w hh => ⟨(), rfl, trivial, hh.se [] [] 2 rfl rfl rfl rfl⟩)
     ·replace hm := ifN h19 hm
      refine jq (kD [_, _] 1 Tryz.isAgg25 Tryz.sizeOf25 rfl rfl rfl rfl ?_)
      obtain ⟨t32, h20, hm⟩ := bindO hm
      refine jd [] [] rfl rfl rfl rfl rfl rfl rfl Tryz.call88 (fun w hh => KJ s0 qa0 na0 ca0 qa1 na1 ca1 w (HV.callee (S0 := []) (vs0 := []) hh (roR hh 0 rfl (roR hh 1 rfl roN))) hna0 hqa0 hla0 hna1 hqa1 hla1 h20) (fun l_6 h21 => ?_)
      have h22 := h21
      refine jT (S' := [_, _]) (vs' := [_, _]) [0, 1] [0, 1] 0 rfl rfl rfl rfl ?_
      obtain ⟨t33, h23, hm⟩ := bindO hm
      refine jd [] [] rfl rfl rfl rfl rfl rfl rfl Tryz.call87 (fun w hh => Qu t32 (qA l_6.q) l_6.n l_6.cap w (HV.callee (S0 := []) (vs0 := []) hh (roC (hh.vsepA 0 rfl h22) roN)) (vlen RSp h22 rfl) (AOK.q (vne h22)) (h22).hle h23) (fun l_7 h24 => ?_)
      refine jc rfl rfl rfl (fun _ _ => kE rfl) (jk rfl rfl (jp ?_))
      refine js rfl (fun h25 => ?_) (fun h25 => ?_)
      ·replace hm := ifT (h25) hm
       refine jq (jk rfl rfl (jp (jw (jx (jf ?_)))))
       obtain rfl := sj hm
       refine jm rfl (fun w hh => (.tmp rfl .nil)) (fun w hh => ⟨(), rfl, trivial, hh.se [] [] 2 rfl rfl rfl rfl⟩)
      ·replace hm := ifN h25 hm
       refine jq (jP 0 Tryz.runUnderlying25 rfl Tryz.sizeOf22 rfl rfl (jY 1 Tryz.isAgg22 rfl rfl rfl rfl ?_))
       obtain ⟨t38, h26, hm⟩ := bindO hm
       refine jd [] [] rfl rfl rfl rfl rfl rfl rfl Tryz.call89 (fun w hh => KL s0.strips qa0 na0 ca0 w (HV.callee (S0 := []) (vs0 := []) hh (roR hh 0 rfl roN)) hna0 hqa0 hla0 h26) (fun l_8 h27 => ?_)
       refine jc rfl rfl rfl (fun _ _ => kE rfl) (jk rfl rfl (jp ?_))
       refine js rfl (fun h28 => ?_) (fun h28 => ?_)
       ·replace hm := ifT (h28) hm
        refine jq (jk rfl rfl (jp (jw (jx (jf ?_)))))
        obtain rfl := sj hm
        refine jm rfl (fun w hh => (.tmp rfl .nil)) (fun w hh => ⟨(), rfl, trivial, hh.se [] [] 2 rfl rfl rfl rfl⟩)
       ·replace hm := ifN h28 hm
        refine ju (jt (ja (jq (jk rfl rfl (jp (jw ?_))))))
        obtain rfl := sj hm
        refine jm rfl (fun w hh => (.tmp rfl .nil)) (fun w hh => ⟨(), rfl, trivial, hh.se [] [] 2 rfl rfl rfl rfl⟩)
def kk (s0 : Scalps) (n1 : Int) : Option Bool :=
 (subc (s0.strips.length : Int) 1).bind fun t9 =>
 (KX n1 0 t9).bind fun t10 =>
 some t10
theorem yO (s0 : Scalps) (n1 : Int) (qa0 : Option Addr) (na0 ca0 : Nat) (qa1 : Option Addr) (na1 ca1 : Nat) (w : World) (hw : HV w (keys [] []) [] [] [(aB qa0, aO qa0, RSt.enc s0.strips), (aB qa1, aO qa1, RSp.enc s0.carried)] w) (hna0 : s0.strips.length = na0) (hqa0 : AOK na0 qa0) (hla0 : na0 ≤ ca0) (hna1 : s0.carried.length = na1) (hqa1 : AOK na1 qa1) (hla1 : na1 ≤ ca1) {res : Bool} (hm : kk s0 n1 = some res) :
    Calls Tryz.prog 67 #[.agg #[.slice qa0 na0 ca0, .slice qa1 na1 ca1], .int .i64 n1] w (fun en w' => ∃ l : Unit, en = .returned (.bool res) ∧ (True) ∧ HV w (keys [] []) [] [] [] w') := by
  unfold kk at hm
  refine j5 Tryz.func67 rfl Tryz.ntmps67 rfl (e := [(0, _), (1, _)]) rfl hw (jq ?_)
  refine jC rfl rfl (fun b h1 => ?_)
  refine jk rfl rfl (j0 (je rfl rfl (jP 0 Tryz.runUnderlying25 rfl Tryz.sizeOf22 rfl rfl (jY 0 Tryz.isAgg22 rfl rfl rfl rfl (jc rfl rfl rfl (fun w _ => jI hna0 (Tryz.runUnderlying22 w) rfl) ?_)))))
  obtain ⟨t9, h2, hm⟩ := bindO hm
  refine jc rfl rfl rfl (fun _ _ => yb h2 rfl rfl) ?_
  obtain ⟨t10, h3, hm⟩ := bindO hm
  refine jd [] [] rfl rfl rfl rfl rfl rfl rfl Tryz.call62 (fun w hh => Yp n1 0 t9 w (HV.callee (S0 := []) (vs0 := []) hh roN)  h3) (fun l h4 => ?_)
  refine jk rfl rfl (jp (jw ?_))
  obtain rfl := sj hm
  refine jm rfl (fun w hh => (.tmp rfl .nil)) (fun w hh => ⟨(), rfl, trivial, hh.se [] [] 2 rfl rfl rfl rfl⟩)
structure y6 where
  t21 : Int
  t15 : (List (Pair × Bool))
structure Jq where
  k8 : Int
  t15 : (List (Pair × Bool))
def y3 (s : y6) (s0 : Scalps) (t24 : Strip) (s_1 : Jq) : Option (Jq ⊕ (List (Pair × Bool))) :=
 (addc s.t21 1).bind fun t30 =>
 if s_1.k8 ≤ t30 then
 (((kk s0 s_1.k8).bind fun t36 =>
 if t36 = true then
 ((some (aset s_1.t15 (⟨t24.tenant, s_1.k8⟩ : Pair) true)).bind fun t15 =>
 some t15) else
 (some s_1.t15)).bind fun o_2 =>
 (addc s_1.k8 1).bind fun t33 =>
 some (.inl (⟨t33, o_2⟩ : Jq))) else
 (some (.inr s_1.t15))
def zk (s0 : Scalps) (s : y6) : Option (y6 ⊕ (List (Pair × Bool))) :=
 if s.t21 < (s0.strips.length : Int) then
 ((ix s0.strips s.t21).bind fun t24 =>
 (subc s.t21 1).bind fun t27 =>
 (iterM FU (y3 s s0 t24) (⟨t27, s.t15⟩ : Jq)).bind fun o_1 =>
 (addc s.t21 1).bind fun t45 =>
 some (.inl (⟨t45, o_1⟩ : y6))) else
 (some (.inr s.t15))
def kv (s0 : Scalps) : Option (Int ⊕ (List (Pair × Bool))) :=
 (J7 s0).bind fun t10 =>
 if t10 = 0 then
 ((iterM FU (zk s0) (⟨0, []⟩ : y6)).bind fun o =>
 some (.inr o)) else
 (if ¬ (t10 = 0) then (some (.inl t10)) else none)
theorem kh (s0 : Scalps) (qa0 : Option Addr) (na0 ca0 : Nat) (qa1 : Option Addr) (na1 ca1 : Nat) (w : World) (hw : HV w (keys [] []) [] [] [(aB qa0, aO qa0, RSt.enc s0.strips), (aB qa1, aO qa1, RSp.enc s0.carried)] w) (hna0 : s0.strips.length = na0) (hqa0 : AOK na0 qa0) (hla0 : na0 ≤ ca0) (hna1 : s0.carried.length = na1) (hqa1 : AOK na1 qa1) (hla1 : na1 ≤ ca1) {res : (Int ⊕ (List (Pair × Bool)))} (hm : kv s0 = some res) :
    Calls Tryz.prog 57 #[.agg #[.slice qa0 na0 ca0, .slice qa1 na1 ca1]] w (fun en w' => match res with | .inl res_ => (∃ l : Unit, en = .returned (.tuple #[.pointer none, .int .i64 res_]) ∧ (¬ (res_ = 0)) ∧ HV w (keys [] []) [] [] [] w') | .inr res_ => (∃ l : Nat × Nat, en = .returned (.tuple #[ptr l.1 0, .int .i64 0]) ∧ (True) ∧ HV w (keys [] []) [(l.1, .cells #[.slice qa0 na0 ca0, .slice qa1 na1 ca1, .map (some l.2)] 144 (0, 0)), (l.2, gobj (kR RPr) kB res_)] [] [] w')) := by
  unfold kv at hm
  refine j5 Tryz.func57 rfl Tryz.ntmps57 rfl (e := [(0, _)]) rfl hw (jq ?_)
  refine jC rfl rfl (fun b h1 => ?_)
  refine jk rfl rfl (jk rfl rfl (jp (jj (jq (kD [_, _] 0 Tryz.isAgg25 Tryz.sizeOf25 rfl rfl rfl rfl ?_)))))
  obtain ⟨t10, h2, hm⟩ := bindO hm
  refine jd [] [] rfl rfl rfl rfl rfl rfl rfl Tryz.call32 (fun w hh => Zl s0 qa0 na0 ca0 qa1 na1 ca1 w (HV.callee (S0 := []) (vs0 := []) hh (roR hh 0 rfl (roR hh 1 rfl roN))) hna0 hqa0 hla0 hna1 hqa1 hla1 h2) (fun l h3 => ?_)
  refine jk rfl rfl (j0 (je rfl rfl (jc rfl rfl rfl (fun _ _ => q8 rfl rfl) (jp ?_))))
  refine js rfl (fun h4 => ?_) (fun h4 => ?_)
  ·replace hm := ifF (of_ndec_true h4) hm
   refine jq (je rfl rfl (jk rfl rfl (jk rfl rfl (jp (jw (jf ?_))))))
   obtain ⟨h5, hm⟩ := ifO hm
   obtain rfl := sj hm
   refine jm rfl (fun w hh => (.tmp rfl (.tmp rfl .nil))) (fun w hh => ⟨(), rfl, h5, hh.se [] [] 2 rfl rfl rfl rfl⟩)
  ·replace hm := ifT (of_ndec_false h4) hm
   refine ju (ja (jq (kD [_, _] 0 Tryz.isAgg25 Tryz.sizeOf25 rfl rfl rfl rfl ?_)))
   refine jaA (kR RPr) kB rfl (fun b_1 h6 => ?_)
   refine jc rfl rfl rfl (fun _ _ => jz (vs := [(0, _), (1, _)]) (cells := [_, _, _]) rfl rfl) ?_
   refine jC rfl rfl (fun b_2 h7 => ?_)
   refine jk rfl rfl (jp (jj (jq (jP 0 Tryz.runUnderlying25 rfl Tryz.sizeOf22 rfl rfl (jY 2 Tryz.isAgg22 rfl rfl rfl rfl (jc rfl rfl rfl (fun w _ => jI hna0 (Tryz.runUnderlying22 w) rfl) (je rfl rfl ?_)))))))
   refine jp ?_
   obtain ⟨o, h8, h9⟩ := bindO hm
   refine jF (ι := Unit) (fun l_1 => True) (fun l_1 => [(5, ptr b_2 0)]) (fun l_1 => [(b_2, .cells #[.slice qa0 na0 ca0, .slice qa1 na1 ca1, .map (some b_1)] 144 (0, 0)), (b_1, gobj (kR RPr) kB o), (b, .cells #[.slice qa0 na0 ca0, .slice qa1 na1 ca1] 25 (0, 0))]) (fun l_1 => []) ?_ ?_
   ·replace hm := h8
    refine jn ?_
    refine jL (ι := Unit) hm (fun s l_2 => True) (fun s l_2 => [(1, ptr b 0), (5, ptr b_2 0), (19, .slice qa0 na0 ca0), (20, .int .i64 (s0.strips.length : Int)), (21, .int .i64 s.t21)]) (fun s l_2 => [(b_2, .cells #[.slice qa0 na0 ca0, .slice qa1 na1 ca1, .map (some b_1)] 144 (0, 0)), (b_1, gobj (kR RPr) kB s.t15), (b, .cells #[.slice qa0 na0 ca0, .slice qa1 na1 ca1] 25 (0, 0))]) (fun s l_2 => []) () (trivial) (sE rfl) (fun w hh => hh) (fun s l_2 r hpl hm h10 => ?_)
    unfold zk at hm
    refine jq (yY rfl rfl rfl (jp (jj ?_)))
    refine js rfl (fun h11 => ?_) (fun h11 => ?_)
    ·replace hm := ifD h11 hm
     refine ju (ja (jj (jn (jq (je rfl rfl ?_)))))
     obtain ⟨t24, h12, hm⟩ := bindO hm
     refine jc rfl rfl rfl (fun w _ => ki h12 (Tryz.runUnderlying22 w) (Tryz.sizeOf85 w) rfl rfl hna0 hqa0) ?_
     refine jc rfl rfl rfl (fun w hh => kt RSt 0 [.int .i64 t24.tenant, .int .i64 t24.lay.lo, .int .i64 t24.lay.hi, .int .i64 t24.seeded.lo, .int .i64 t24.seeded.hi, .int .i64 t24.left.lo, .int .i64 t24.left.hi] h12 (Tryz.isAgg85 w) (Tryz.sizeOf85 w) rfl (hh.seg 0 rfl) rfl (Nat.add_zero _).symm) ?_
     refine jo (fun w => Tryz.zeroValue85 w) rfl (fun b_3 h13 => ?_)
     refine jk rfl rfl (jy (us := #[_, _, _, _, _, _, _]) (cs' := [_, _, _, _, _, _, _]) (S' := [_, _, _, _]) 0 (fun w => Tryz.sizeOf85 w) rfl rfl rfl rfl rfl rfl rfl (j0 (je rfl rfl ?_)))
     obtain ⟨t27, h14, hm⟩ := bindO hm
     refine jc rfl rfl rfl (fun _ _ => yb h14 rfl rfl) (jk rfl rfl (jp ?_))
     obtain ⟨o_1, h15, h16⟩ := bindO hm
     refine jF (ι := Unit) (fun l_3 => True) (fun l_3 => [(1, ptr b 0), (5, ptr b_2 0), (19, .slice qa0 na0 ca0), (20, .int .i64 (s0.strips.length : Int)), (21, .int .i64 s.t21)]) (fun l_3 => [(b_3, .cells #[.int .i64 t24.tenant, .int .i64 t24.lay.lo, .int .i64 t24.lay.hi, .int .i64 t24.seeded.lo, .int .i64 t24.seeded.hi, .int .i64 t24.left.lo, .int .i64 t24.left.hi] 85 (0, 0)), (b_2, .cells #[.slice qa0 na0 ca0, .slice qa1 na1 ca1, .map (some b_1)] 144 (0, 0)), (b_1, gobj (kR RPr) kB o_1), (b, .cells #[.slice qa0 na0 ca0, .slice qa1 na1 ca1] 25 (0, 0))]) (fun l_3 => []) ?_ ?_
     ·replace hm := h15
      refine jn ?_
      refine jL (ι := Unit) hm (fun s_1 l_4 => True) (fun s_1 l_4 => [(1, ptr b 0), (5, ptr b_2 0), (6, .int .i64 s.t21), (7, ptr b_3 0), (8, .int .i64 s_1.k8), (19, .slice qa0 na0 ca0), (20, .int .i64 (s0.strips.length : Int)), (21, .int .i64 s.t21)]) (fun s_1 l_4 => [(b_3, .cells #[.int .i64 t24.tenant, .int .i64 t24.lay.lo, .int .i64 t24.lay.hi, .int .i64 t24.seeded.lo, .int .i64 t24.seeded.hi, .int .i64 t24.left.lo, .int .i64 t24.left.hi] 85 (0, 0)), (b_2, .cells #[.slice qa0 na0 ca0, .slice qa1 na1 ca1, .map (some b_1)] 144 (0, 0)), (b_1, gobj (kR RPr) kB s_1.t15), (b, .cells #[.slice qa0 na0 ca0, .slice qa1 na1 ca1] 25 (0, 0))]) (fun s_1 l_4 => []) () (trivial) (sE rfl) (fun w hh => hh) (fun s_1 l_4 r_1 hpl hm h17 => ?_)
      unfold y3 at hm
      refine jj (jq (je rfl rfl (je rfl rfl ?_)))
      obtain ⟨t30, h18, hm⟩ := bindO hm
      refine qs h18 rfl rfl rfl (jc rfl rfl rfl (fun _ _ => ZF rfl rfl) (jp ?_))
      refine js rfl (fun h19 => ?_) (fun h19 => ?_)
      ·replace hm := ifD h19 hm
       refine ju (ja (jj ?_))
       obtain ⟨o_2, h20, h21⟩ := bindO hm
       refine jF (ι := Unit) (fun l_5 => True) (fun l_5 => [(1, ptr b 0), (5, ptr b_2 0), (6, .int .i64 s.t21), (7, ptr b_3 0), (8, .int .i64 s_1.k8), (19, .slice qa0 na0 ca0), (20, .int .i64 (s0.strips.length : Int)), (21, .int .i64 s.t21)]) (fun l_5 => [(b_3, .cells #[.int .i64 t24.tenant, .int .i64 t24.lay.lo, .int .i64 t24.lay.hi, .int .i64 t24.seeded.lo, .int .i64 t24.seeded.hi, .int .i64 t24.left.lo, .int .i64 t24.left.hi] 85 (0, 0)), (b_2, .cells #[.slice qa0 na0 ca0, .slice qa1 na1 ca1, .map (some b_1)] 144 (0, 0)), (b_1, gobj (kR RPr) kB o_2), (b, .cells #[.slice qa0 na0 ca0, .slice qa1 na1 ca1] 25 (0, 0))]) (fun l_5 => []) ?_ ?_
       ·replace hm := h20
        refine jn (jq (kD [_, _] 3 Tryz.isAgg25 Tryz.sizeOf25 rfl rfl rfl rfl (je rfl rfl ?_)))
        obtain ⟨t36, h22, hm⟩ := bindO hm
        refine jd [] [] rfl rfl rfl rfl rfl rfl rfl Tryz.call67 (fun w hh => yO s0 s_1.k8 qa0 na0 ca0 qa1 na1 ca1 w (HV.callee (S0 := []) (vs0 := []) hh (roR hh 0 rfl (roR hh 1 rfl roN))) hna0 hqa0 hla0 hna1 hqa1 hla1 h22) (fun l_6 h23 => ?_)
        refine jp ?_
        refine js rfl (fun h24 => ?_) (fun h24 => ?_)
        ·replace hm := ifT (h24) hm
         refine jX none (.free 0 (.free 1 (.free 2 (.hoist 3 (.free 4 (.hoist 5 (.free 6 (.free 7 (.one 8 .done))))))))) (HV _ _ [(b_3, .cells #[.int .i64 t24.tenant, .int .i64 t24.lay.lo, .int .i64 t24.lay.hi, .int .i64 t24.seeded.lo, .int .i64 t24.seeded.hi, .int .i64 t24.left.lo, .int .i64 t24.left.hi] 85 (0, 0)), (b_2, .cells #[.slice qa0 na0 ca0, .slice qa1 na1 ca1, .map (some b_1)] 144 (0, 0)), (b, .cells #[.slice qa0 na0 ca0, .slice qa1 na1 ca1] 25 (0, 0))] [] _) rfl (by decide +kernel) (fun w k hh => hh.draw k) (hsE [0, 1, 3] [] 0 rfl rfl rfl rfl) ?_
         refine ku rfl rfl rfl (ji rfl rfl rfl rfl (fun _ _ => jN rfl) (k5 2 Tryz.runUnderlying144 Tryz.sizeOf142 rfl rfl rfl rfl (qY 1 Tryz.isAgg142 rfl rfl rfl rfl rfl (k5 0 Tryz.runUnderlying85 Tryz.sizeOf3 rfl rfl rfl rfl (qY 0 Tryz.isAgg3 rfl rfl rfl rfl rfl (ku rfl rfl rfl (ji rfl rfl rfl rfl (fun _ _ => jz (vs := [(0, _), (1, _)]) (cells := [_, _]) rfl rfl) ?_)))))))
         refine jE rfl ?_
         obtain ⟨t15, ht15, hm⟩ := bindO hm
         refine jau (k := (⟨t24.tenant, s_1.k8⟩ : Pair)) (v := true) 2 (fun w => Tryz.runUnderlying142 w) YV rfl rfl rfl rfl (Option.some.inj ht15) rfl (jr (hsE [0, 1, 3] [] 0 rfl rfl rfl rfl) (jM (jt ?_)))
         obtain rfl := sj hm
         exact jg () (trivial) (sE rfl) (fun w hh => hh)
        ·replace hm := ifN h24 hm
         refine ju (jt ?_)
         obtain rfl := sj hm
         exact jg () (trivial) (sE rfl) (fun w hh => hh)
       ·intro l_5 hj
        replace hm := h21
        refine ja (jh (je rfl rfl ?_))
        obtain ⟨t33, h25, hm⟩ := bindO hm
        refine qs h25 rfl rfl rfl (jk rfl rfl (jv ?_))
        obtain rfl := sj hm
        refine ja ?_
        exact jA _ () rfl (trivial) (sE rfl) (fun w hh => hh)
      ·replace hm := ifE h19 hm
       refine jS (jl (jl (jG ?_)))
       obtain rfl := sj hm
       have hbo := h17 _ rfl
       subst hbo
       exact jg () (trivial) (sE rfl) (fun w hh => hh)
     ·intro l_3 hj
      replace hm := h16
      refine jt (ja (jh ?_))
      obtain ⟨t45, h26, hm⟩ := bindO hm
      refine qs h26 rfl rfl rfl (je rfl rfl (jv ?_))
      obtain rfl := sj hm
      refine ja ?_
      exact jA _ () rfl (trivial) (sE rfl) (hsE [1, 2, 3] [] 0 rfl rfl rfl rfl)
    ·replace hm := ifE h11 hm
     refine jS (jl (jl (jG ?_)))
     obtain rfl := sj hm
     have hbo := h10 _ rfl
     subst hbo
     exact jg () (trivial) (sE rfl) (fun w hh => hh)
   ·intro l_1 hj
    replace hm := h9
    refine ja (jq (je rfl rfl (jk rfl rfl (jk rfl rfl (jp (jw ?_))))))
    obtain rfl := sj hm
    refine jm rfl (fun w hh => (.tmp rfl (.tmp rfl .nil))) (fun w hh => ⟨(b_2, b_1), rfl, trivial, hh.se [0, 1] [] 2 rfl rfl rfl rfl⟩)
def Y1 (holds0_f00 : (List Strip)) (holds0_f01 : (List Span)) : Option Unit :=
 some ()
theorem jaG (holds0_f00 : (List Strip)) (holds0_f01 : (List Span)) (rb : Nat) (qa1 : Option Addr) (na1 ca1 : Nat) (qa2 : Option Addr) (na2 ca2 : Nat) (mv : Value) (w : World) (hw : HV w (keys [] []) [] [] [(rb, 0, [.slice qa1 na1 ca1, .slice qa2 na2 ca2, mv]), (aB qa1, aO qa1, RSt.enc holds0_f00), (aB qa2, aO qa2, RSp.enc holds0_f01)] w)  (hna1 : holds0_f00.length = na1) (hqa1 : AOK na1 qa1) (hla1 : na1 ≤ ca1) (hna2 : holds0_f01.length = na2) (hqa2 : AOK na2 qa2) (hla2 : na2 ≤ ca2) {res : Unit} (hm : Y1 holds0_f00 holds0_f01 = some res) :
    Calls Tryz.prog 80 #[.func (.func 83) #[ptr rb 0] #[]] w (fun en w' => ∃ l : Nat, en = .returned (.agg #[.func (.func 120) #[] #[ptr l 0]]) ∧ (True) ∧ HV w (keys [] []) [(l, .cells #[.func (.func 83) #[ptr rb 0] #[]] 135 (0, 0))] [] [] w') := by
  unfold Y1 at hm
  refine j5 Tryz.func80 rfl Tryz.ntmps80 rfl (e := [(0, _)]) rfl hw (jq ?_)
  refine jC rfl rfl (fun b h1 => ?_)
  refine jo (fun w => Tryz.zeroValue115 w) rfl (fun b_1 h2 => ?_)
  refine j0 (jc rfl rfl rfl (fun _ _ => jK (u := #[]) (u' := #[_]) rfl rfl) (jc rfl rfl rfl (fun _ _ => jz (vs := [(0, _)]) (cells := [_]) rfl rfl) (jy (us := #[_]) (cs' := [_]) (S' := [_, _]) 0 (fun w => Tryz.sizeOf115 w) rfl rfl rfl rfl rfl rfl rfl (jp (jw ?_)))))
  obtain rfl := sj hm
  refine jm rfl (fun w hh => (.cell rfl (loadVar_agg (vs := [_]) (Tryz.isAgg115 _) (Tryz.sizeOf115 _) (hh.cells 0 rfl rfl)) .nil)) (fun w hh => ⟨b, rfl, trivial, hh.se [1] [] 3 rfl rfl rfl rfl⟩)
def K5 (d00 : (List Strip)) (d01 : (List Span)) : Option Unit :=
 (Y1 d00 d01).bind fun t5 =>
 some ()
theorem Yk (d00 : (List Strip)) (d01 : (List Span)) (rb : Nat) (qa1 : Option Addr) (na1 ca1 : Nat) (qa2 : Option Addr) (na2 ca2 : Nat) (mv : Value) (w : World) (hw : HV w (keys [] []) [] [] [(rb, 0, [.slice qa1 na1 ca1, .slice qa2 na2 ca2, mv]), (aB qa1, aO qa1, RSt.enc d00), (aB qa2, aO qa2, RSp.enc d01)] w)  (hna1 : d00.length = na1) (hqa1 : AOK na1 qa1) (hla1 : na1 ≤ ca1) (hna2 : d01.length = na2) (hqa2 : AOK na2 qa2) (hla2 : na2 ≤ ca2) {res : Unit} (hm : K5 d00 d01 = some res) :
    Calls Tryz.prog 59 #[ptr rb 0] w (fun en w' => ∃ l : Nat, en = .returned (.agg #[.func (.func 120) #[] #[ptr l 0]]) ∧ (True) ∧ HV w (keys [] []) [(l, .cells #[.func (.func 83) #[ptr rb 0] #[]] 135 (0, 0))] [] [] w') := by
  unfold K5 at hm
  refine j5 Tryz.func59 rfl Tryz.ntmps59 rfl (e := [(0, _)]) rfl hw (jq ?_)
  refine jo (fun w => Tryz.zeroValue115 w) rfl (fun b h1 => ?_)
  refine j0 (je rfl rfl (jc rfl rfl rfl (fun _ _ => jK (u := #[_]) (u' := #[]) rfl rfl) ?_))
  obtain ⟨t5, h2, hm⟩ := bindO hm
  refine jd [] [] rfl rfl rfl rfl rfl rfl rfl Tryz.call80 (fun w hh => jaG d00 d01 rb qa1 na1 ca1 qa2 na2 ca2 mv w (HV.callee (S0 := []) (vs0 := []) hh (roR hh 0 rfl (roR hh 1 rfl (roR hh 2 rfl roN)))) hna1 hqa1 hla1 hna2 hqa2 hla2 h2) (fun l h3 => ?_)
  refine jT (S' := [_, _]) (vs' := []) [0, 1] [] 0 rfl rfl rfl rfl (jy (us := #[_]) (cs' := [_]) (S' := [_, _]) 1 (fun w => Tryz.sizeOf115 w) rfl rfl rfl rfl rfl rfl rfl (jp (jw ?_)))
  obtain rfl := sj hm
  refine jm rfl (fun w hh => (.cell rfl (loadVar_agg (vs := [_]) (Tryz.isAgg115 _) (Tryz.sizeOf115 _) (hh.cells 1 rfl rfl)) .nil)) (fun w hh => ⟨l, rfl, trivial, hh.se [0] [] 3 rfl rfl rfl rfl⟩)
def yV (d00 : (List Strip)) (d01 : (List Span)) (p1 : Pair) : Option Bool :=
 (ix d00 p1.strip).bind fun t12 =>
 some (!decide (t12.tenant = p1.tenant))
theorem Ql (d00 : (List Strip)) (d01 : (List Span)) (p1 : Pair) (rb : Nat) (qa1 : Option Addr) (na1 ca1 : Nat) (qa2 : Option Addr) (na2 ca2 : Nat) (mv : Value) (w : World) (hw : HV w (keys [] []) [] [] [(rb, 0, [.slice qa1 na1 ca1, .slice qa2 na2 ca2, mv]), (aB qa1, aO qa1, RSt.enc d00), (aB qa2, aO qa2, RSp.enc d01)] w)  (hna1 : d00.length = na1) (hqa1 : AOK na1 qa1) (hla1 : na1 ≤ ca1) (hna2 : d01.length = na2) (hqa2 : AOK na2 qa2) (hla2 : na2 ≤ ca2) {res : Bool} (hm : yV d00 d01 p1 = some res) :
    Calls Tryz.prog 83 #[ptr rb 0, .agg #[.int .i64 p1.tenant, .int .i64 p1.strip]] w (fun en w' => ∃ l : Unit, en = .returned (.bool res) ∧ (True) ∧ HV w (keys [] []) [] [] [] w') := by
  unfold yV at hm
  refine j5 Tryz.func83 rfl Tryz.ntmps83 rfl (e := [(0, _), (1, _)]) rfl hw (jq ?_)
  refine jC rfl rfl (fun b h1 => ?_)
  refine jk rfl rfl (jp (jj ?_))
  refine jX none (.free 0 (.free 1 (.free 2 (.free 3 (.hoist 4 (.free 5 (.hoist 6 (.free 7 (.free 8 (.hoist 9 (.free 10 (.hoist 11 (.free 12 (.free 13 .done)))))))))))))) _ rfl (by decide +kernel) (fun w k hh => hh.draw k) (fun w hh => hh) ?_
  refine ku rfl rfl rfl (ji rfl rfl rfl rfl (fun _ _ => jN rfl) (k5 0 Tryz.runUnderlying144 Tryz.sizeOf25 rfl rfl rfl rfl (k5 0 Tryz.runUnderlying25 Tryz.sizeOf22 rfl rfl rfl rfl (jD rfl rfl rfl rfl (fun w hh => jR (Tryz.isAgg22 w) rfl (segCell (hh.seg 0 rfl) 0 rfl)) (k5 1 Tryz.runUnderlying126 Tryz.sizeOf3 rfl rfl rfl rfl (qY 0 Tryz.isAgg3 rfl rfl rfl rfl rfl ?_))))))
  obtain ⟨t12, h2, hm⟩ := bindO hm
  refine ji rfl rfl rfl rfl (fun w _ => ki h2 (Tryz.runUnderlying22 w) (Tryz.sizeOf85 w) rfl rfl hna1 hqa1) (k5 0 Tryz.runUnderlying85 Tryz.sizeOf3 rfl rfl rfl rfl (jD rfl rfl rfl rfl (fun w hh => kl RSt 0 h2 (Tryz.isAgg3 w) rfl (hh.seg 1 rfl) rfl rfl) (k5 0 Tryz.runUnderlying126 Tryz.sizeOf3 rfl rfl rfl rfl (qY 0 Tryz.isAgg3 rfl rfl rfl rfl rfl (ji rfl rfl rfl rfl (fun _ _ => q8 rfl rfl) (ji rfl rfl rfl rfl (fun _ _ => jH rfl) (jM ?_)))))))
  refine ja (jw ?_)
  obtain rfl := sj hm
  refine jm rfl (fun w hh => (.tmp rfl .nil)) (fun w hh => ⟨(), rfl, trivial, hh.se [] [] 3 rfl rfl rfl rfl⟩)
def j8 (p0 : Pair) (a11_f00 : (List Strip)) (a11_f01 : (List Span)) : Option Int :=
 (yV a11_f00 a11_f01 p0).bind fun t6 =>
 if t6 = true then
 (some 1) else
 (some 0)
theorem JZ (p0 : Pair) (a11_f00 : (List Strip)) (a11_f01 : (List Span)) (rb : Nat) (rb_1 : Nat) (qa2 : Option Addr) (na2 ca2 : Nat) (qa3 : Option Addr) (na3 ca3 : Nat) (mv : Value) (w : World) (hw : HV w (keys [] []) [] [] [(rb, 0, [.func (.func 83) #[ptr rb_1 0] #[]]), (rb_1, 0, [.slice qa2 na2 ca2, .slice qa3 na3 ca3, mv]), (aB qa2, aO qa2, RSt.enc a11_f00), (aB qa3, aO qa3, RSp.enc a11_f01)] w)   (hna2 : a11_f00.length = na2) (hqa2 : AOK na2 qa2) (hla2 : na2 ≤ ca2) (hna3 : a11_f01.length = na3) (hqa3 : AOK na3 qa3) (hla3 : na3 ≤ ca3) {res : Int} (hm : j8 p0 a11_f00 a11_f01 = some res) :
    Calls Tryz.prog 120 #[.agg #[.int .i64 p0.tenant, .int .i64 p0.strip], ptr rb 0] w (fun en w' => ∃ l : Unit, en = .returned (.int .i64 res) ∧ (True) ∧ HV w (keys [] []) [] [] [] w') := by
  unfold j8 at hm
  refine j5 Tryz.func120 rfl Tryz.ntmps120 rfl (e := [(0, _), (1, _)]) rfl hw (jq ?_)
  refine jC rfl rfl (fun b h1 => ?_)
  refine jk rfl rfl (jp (jj (jq (jc rfl rfl rfl (fun w hh => jR (Tryz.isAgg135 w) rfl (segCell (hh.seg 0 rfl) 0 rfl)) (kD [_, _] 0 Tryz.isAgg126 Tryz.sizeOf126 rfl rfl rfl rfl ?_)))))
  obtain ⟨t6, h2, hm⟩ := bindO hm
  refine jd [] [] rfl rfl rfl rfl rfl rfl rfl Tryz.call83 (fun w hh => Ql a11_f00 a11_f01 p0 rb_1 qa2 na2 ca2 qa3 na3 ca3 mv w (HV.callee (S0 := []) (vs0 := []) hh (roR hh 1 rfl (roR hh 2 rfl (roR hh 3 rfl roN)))) hna2 hqa2 hla2 hna3 hqa3 hla3 h2) (fun l h3 => ?_)
  refine jp ?_
  refine js rfl (fun h4 => ?_) (fun h4 => ?_)
  ·replace hm := ifT (h4) hm
   refine jq (jk rfl rfl (jp (jw (jf ?_))))
   obtain rfl := sj hm
   refine jm rfl (fun w hh => (.tmp rfl .nil)) (fun w hh => ⟨(), rfl, trivial, hh.se [] [] 4 rfl rfl rfl rfl⟩)
  ·replace hm := ifN h4 hm
   refine ju (ja (jq (jk rfl rfl (jp (jw ?_)))))
   obtain rfl := sj hm
   refine jm rfl (fun w hh => (.tmp rfl .nil)) (fun w hh => ⟨(), rfl, trivial, hh.se [] [] 4 rfl rfl rfl rfl⟩)
def Kd (d00 : (List Strip)) (d01 : (List Span)) (tenant1 : Int) : Option Int :=
 some tenant1
theorem YM (d00 : (List Strip)) (d01 : (List Span)) (tenant1 : Int) (rb : Nat) (qa1 : Option Addr) (na1 ca1 : Nat) (qa2 : Option Addr) (na2 ca2 : Nat) (mv : Value) (w : World) (hw : HV w (keys [] []) [] [] [(rb, 0, [.slice qa1 na1 ca1, .slice qa2 na2 ca2, mv]), (aB qa1, aO qa1, RSt.enc d00), (aB qa2, aO qa2, RSp.enc d01)] w)  (hna1 : d00.length = na1) (hqa1 : AOK na1 qa1) (hla1 : na1 ≤ ca1) (hna2 : d01.length = na2) (hqa2 : AOK na2 qa2) (hla2 : na2 ≤ ca2) {res : Int} (hm : Kd d00 d01 tenant1 = some res) :
    Calls Tryz.prog 64 #[ptr rb 0, .int .i64 tenant1] w (fun en w' => ∃ l : Nat × Nat, en = .returned (.func (.func 112) #[] #[ptr l.1 0, ptr l.2 0]) ∧ (True) ∧ HV w (keys [] []) [(l.1, .cells #[ptr rb 0] 107 (0, 0)), (l.2, .cells #[.int .i64 res] 3 (0, 0))] [] [] w') := by
  unfold Kd at hm
  refine j5 Tryz.func64 rfl Tryz.ntmps64 rfl (e := [(0, _), (1, _)]) rfl hw (jq ?_)
  refine jC rfl rfl (fun b h1 => ?_)
  refine jC rfl rfl (fun b_1 h2 => ?_)
  refine jk rfl rfl (j0 (jc rfl rfl rfl (fun _ _ => jK (u := #[]) (u' := #[_, _]) rfl rfl) (jk rfl rfl (jp (jw ?_)))))
  obtain rfl := sj hm
  refine jm rfl (fun w hh => (.tmp rfl .nil)) (fun w hh => ⟨(b, b_1), rfl, trivial, hh.se [1, 0] [] 3 rfl rfl rfl rfl⟩)
structure zI where
  t19 : Int
  t12 : (List Wy)
def qR (d00 : (List Strip)) (s : zI) : Option (zI ⊕ (List Wy)) :=
 if s.t19 < (d00.length : Int) then
 ((ix d00 s.t19).bind fun t22 =>
 (addc 1 s.t19).bind fun t30 =>
 (kc (⟨t22.tenant, (⟨t22.lay.lo, t22.lay.hi⟩ : Span), (⟨t22.seeded.lo, t22.seeded.hi⟩ : Span), (⟨t22.left.lo, t22.left.hi⟩ : Span)⟩ : Strip)).bind fun t32 =>
 (kc (⟨t22.tenant, (⟨t22.lay.lo, t22.lay.hi⟩ : Span), (⟨t22.seeded.lo, t22.seeded.hi⟩ : Span), (⟨t22.left.lo, t22.left.hi⟩ : Span)⟩ : Strip)).bind fun t35 =>
 (appc 48 s.t12 [(⟨0, t30, t32.lo, t35.hi, 0, 0⟩ : Wy)]).bind fun t39 =>
 (addc s.t19 1).bind fun t42 =>
 some (.inl (⟨t42, t39⟩ : zI))) else
 (some (.inr s.t12))
structure yE where
  t49 : Int
  t12 : (List Wy)
def yH (s_1 : yE) (c1_0 : (Pair → Option Int)) (x : Int) (s_2 : (List Wy)) : Option (List Wy) :=
 (addc 1 x).bind fun t64 =>
 (addc 7 s_1.t49).bind fun t66 =>
 (c1_0 (⟨s_1.t49, x⟩ : Pair)).bind fun t72 =>
 (appc 48 s_2 [(⟨t64, t66, 0, 1000000, t72, 0⟩ : Wy)]).bind fun t75 =>
 some t75
def qU (d01 : (List Span)) (d00 : (List Strip)) (c1_0 : (Pair → Option Int)) (d02 : (List (Pair × Bool))) (s_1 : yE) : Option (yE ⊕ (List Wy)) :=
 if s_1.t49 < (d01.length : Int) then
 ((ix d01 s_1.t49).bind fun t52 =>
 (Kd d00 d01 s_1.t49).bind fun t56 =>
 if (d00.length : Int) ≤ 1000000 then ((iterL (yH s_1 c1_0) (reachL d00.length d02 t56) s_1.t12).bind fun o_2 =>
 (addc 7 s_1.t49).bind fun t84 =>
 (appc 48 o_2 [(⟨t84, 0, t52.lo, t52.hi, 0, 0⟩ : Wy)]).bind fun t91 =>
 (addc s_1.t49 1).bind fun t94 =>
 some (.inl (⟨t94, t91⟩ : yE))) else none) else
 (some (.inr s_1.t12))
def JB (d00 : (List Strip)) (d01 : (List Span)) (d02 : (List (Pair × Bool))) (c1_0 : (Pair → Option Int)) : Option (List Wy) :=
 (iterM FU (qR d00) (⟨0, []⟩ : zI)).bind fun o =>
 (iterM FU (qU d01 d00 c1_0 d02) (⟨0, o⟩ : yE)).bind fun o_1 =>
 some o_1
theorem Zy (d00 : (List Strip)) (d01 : (List Span)) (d02 : (List (Pair × Bool))) (c1_0 : (Pair → Option Int)) (rb : Nat) (qa1 : Option Addr) (na1 ca1 : Nat) (qa2 : Option Addr) (na2 ca2 : Nat) (pb : Nat) (f_c1_0 : FuncId) (fs_c1_0 cs_c1_0 : Array Value) (T_c1_0 : List Sg) (w : World) (hw : HV w (keys [(pb, gobj (kR RPr) kB d02)] []) [(pb, gobj (kR RPr) kB d02)] [] ([(rb, 0, [.slice qa1 na1 ca1, .slice qa2 na2 ca2, .map (some pb)]), (aB qa1, aO qa1, RSt.enc d00), (aB qa2, aO qa2, RSp.enc d01)] ++ T_c1_0) w)  (hna1 : d00.length = na1) (hqa1 : AOK na1 qa1) (hla1 : na1 ≤ ca1) (hna2 : d01.length = na2) (hqa2 : AOK na2 qa2) (hla2 : na2 ≤ ca2) (hcl_c1_0 : ClOK Tryz.prog f_c1_0 fs_c1_0 cs_c1_0 T_c1_0 (fun x : Pair => [.agg #[.int .i64 x.tenant, .int .i64 x.strip]]) (fun x : Int => .int .i64 x) c1_0) {res : (List Wy)} (hm : JB d00 d01 d02 c1_0 = some res) :
    Calls Tryz.prog 103 #[ptr rb 0, .agg #[.func (.func f_c1_0) fs_c1_0 cs_c1_0]] w (fun en w' => ∃ l : Nat × VL, en = .returned (ptr l.1 0) ∧ (VOK 6 l.2.n l.2.cap (RWay.enc res) l.2.sp l.2.q) ∧ HV w (keys [(pb, gobj (kR RPr) kB d02)] []) [(pb, gobj (kR RPr) kB d02), (l.1, .cells #[slv l.2.q l.2.n l.2.cap] 154 (0, 0))] [⟨156, RWay.enc res, l.2.sp, l.2.q, []⟩] [] w') := by
  unfold JB at hm
  refine ZO (args := [ptr rb 0, .agg #[.func (.func f_c1_0) fs_c1_0 cs_c1_0]]) Tryz.func103 rfl Tryz.ntmps103 rfl (e := [(0, _), (1, _)]) rfl (H := HV w (keys [(pb, gobj (kR RPr) kB d02)] []) [(pb, gobj (kR RPr) kB d02)] [] ([(rb, 0, [.slice qa1 na1 ca1, .slice qa2 na2 ca2, .map (some pb)]), (aB qa1, aO qa1, RSt.enc d00), (aB qa2, aO qa2, RSp.enc d01)] ++ T_c1_0)) hw ?_
  refine Zs (jq ?_)
  refine jC rfl rfl (fun b h2 => ?_)
  refine jk rfl rfl (j0 (jc rfl rfl rfl (fun _ _ => jz (vs := []) (cells := [_]) rfl rfl) ?_))
  refine jC rfl rfl (fun b_1 h3 => ?_)
  refine jo (fun w => Tryz.zeroValue110 w) rfl (fun b_2 h4 => ?_)
  refine kY (cs' := #[_]) (S' := [_, _, _, _]) 0 (fun w => Tryz.sizeOf110 w) rfl rfl rfl rfl rfl rfl rfl (jp (jj (jq (je rfl rfl (jc rfl rfl rfl (fun _ _ => jN rfl) (jP 0 Tryz.runUnderlying144 rfl Tryz.sizeOf25 rfl rfl (jP 0 Tryz.runUnderlying25 rfl Tryz.sizeOf22 rfl rfl ?_)))))))
  refine jc rfl rfl rfl (fun w hh => jR (Tryz.isAgg22 w) rfl (segCell (hh.seg 0 rfl) 0 rfl)) (jc rfl rfl rfl (fun w _ => jI hna1 (Tryz.runUnderlying22 w) rfl) (je rfl rfl (jp (kC 156 ?_))))
  obtain ⟨o, h5, h6⟩ := bindO hm
  refine YN (ι := VL) (fun l => mks []) (fun l => VOK 6 l.n l.cap (RWay.enc o) l.sp l.q) (fun l => [(0, ptr rb 0), (3, ptr b 0), (5, ptr b_2 0)]) (fun l => [(b_2, .cells #[ptr b_1 0] 110 (0, 0)), (b_1, .cells #[slv l.q l.n l.cap] 154 (0, 0)), (b, .cells #[.func (.func f_c1_0) fs_c1_0 cs_c1_0] 115 (0, 0)), (pb, gobj (kR RPr) kB d02)]) (fun l => [⟨156, RWay.enc o, l.sp, l.q, []⟩, mkV []]) ?_ ?_
  ·replace hm := h5
   refine jn ?_
   refine Yd (ι := VL) hm (fun s l_1 => mks []) (fun s l_1 => VOK 6 l_1.n l_1.cap (RWay.enc s.t12) l_1.sp l_1.q) (fun s l_1 => [(0, ptr rb 0), (3, ptr b 0), (5, ptr b_2 0), (17, .slice qa1 na1 ca1), (18, .int .i64 (d00.length : Int)), (19, .int .i64 s.t19)]) (fun s l_1 => [(b_2, .cells #[ptr b_1 0] 110 (0, 0)), (b_1, .cells #[slv l_1.q l_1.n l_1.cap] 154 (0, 0)), (b, .cells #[.func (.func f_c1_0) fs_c1_0 cs_c1_0] 115 (0, 0)), (pb, gobj (kR RPr) kB d02)]) (fun s l_1 => [⟨156, RWay.enc s.t12, l_1.sp, l_1.q, []⟩, mkV []]) ⟨none, 0, 0, []⟩ rfl (VOK.nil) (sE rfl) (fun w hh => hh) (fun s l_1 r hpl hm h9 => ?_)
   have h8 := hpl
   unfold qR at hm
   refine jq (yY rfl rfl rfl (jp (jj ?_)))
   refine js rfl (fun h10 => ?_) (fun h10 => ?_)
   ·replace hm := ifD h10 hm
    refine ju (ja (jj (jn (jq (je rfl rfl ?_)))))
    obtain ⟨t22, h11, hm⟩ := bindO hm
    refine jc rfl rfl rfl (fun w _ => ki h11 (Tryz.runUnderlying22 w) (Tryz.sizeOf85 w) rfl rfl hna1 hqa1) ?_
    refine jc rfl rfl rfl (fun w hh => kt RSt 0 [.int .i64 t22.tenant, .int .i64 t22.lay.lo, .int .i64 t22.lay.hi, .int .i64 t22.seeded.lo, .int .i64 t22.seeded.hi, .int .i64 t22.left.lo, .int .i64 t22.left.hi] h11 (Tryz.isAgg85 w) (Tryz.sizeOf85 w) rfl (hh.seg 1 rfl) rfl (Nat.add_zero _).symm) ?_
    refine jo (fun w => Tryz.zeroValue85 w) rfl (fun b_3 h12 => ?_)
    refine jk rfl rfl (jy (us := #[_, _, _, _, _, _, _]) (cs' := [_, _, _, _, _, _, _]) (S' := [_, _, _, _, _]) 0 (fun w => Tryz.sizeOf85 w) rfl rfl rfl rfl rfl rfl rfl (jp ?_))
    refine jX (some 18) (.hoist 0 (.hoist 1 (.free 2 (.free 3 (.hoist 4 (.free 5 (.free 6 (.hoist 7 (.hoist 10 (.one 8 (.free 9 (.one 11 (.free 12 (.free 13 (.one 14 (.one 15 (.free 16 (.free 17 (.last 18 .done))))))))))))))))))) (HV _ _ [(b_3, .cells #[.int .i64 t22.tenant, .int .i64 t22.lay.lo, .int .i64 t22.lay.hi, .int .i64 t22.seeded.lo, .int .i64 t22.seeded.hi, .int .i64 t22.left.lo, .int .i64 t22.left.hi] 85 (0, 0)), (b_2, .cells #[ptr b_1 0] 110 (0, 0)), (b_1, .cells #[slv l_1.q l_1.n l_1.cap] 154 (0, 0)), (b, .cells #[.func (.func f_c1_0) fs_c1_0 cs_c1_0] 115 (0, 0)), (pb, gobj (kR RPr) kB d02)] [mkV []] _) rfl (by decide +kernel) (fun w k hh => hh.draw k) (hsE [0, 1, 2, 3, 4] [1] 0 rfl rfl rfl rfl) ?_
    refine qY 1 Tryz.isAgg110 rfl rfl rfl rfl rfl (qY 1 Tryz.isAgg110 rfl rfl rfl rfl rfl (ji rfl rfl rfl rfl (fun _ _ => jN rfl) (k5 0 Tryz.runUnderlying154 Tryz.sizeOf152 rfl rfl rfl rfl (qY 2 Tryz.isAgg152 rfl rfl rfl rfl rfl (ku rfl rfl rfl ?_)))))
    obtain ⟨t30, h13, hm⟩ := bindO hm
    refine ji rfl rfl rfl rfl (fun _ _ => KV h13 rfl rfl) (jD rfl rfl rfl rfl (fun w hh => j1 (vs := [_, _, _, _, _, _, _]) (Tryz.isAgg85 w) (Tryz.sizeOf85 w) rfl (hh.cells 0 rfl rfl)) (jD rfl rfl rfl rfl (fun w hh => j1 (vs := [_, _, _, _, _, _, _]) (Tryz.isAgg85 w) (Tryz.sizeOf85 w) rfl (hh.cells 0 rfl rfl)) (jE rfl ?_)))
    obtain ⟨t32, h14, hm⟩ := bindO hm
    refine jd [] [] rfl rfl rfl rfl rfl rfl rfl Tryz.call66 (fun w hh => qM (⟨t22.tenant, (⟨t22.lay.lo, t22.lay.hi⟩ : Span), (⟨t22.seeded.lo, t22.seeded.hi⟩ : Span), (⟨t22.left.lo, t22.left.hi⟩ : Span)⟩ : Strip) w (HV.callee (S0 := []) (vs0 := []) hh roN)  h14) (fun l_2 h15 => ?_)
    refine jr (hsE [0, 1, 2, 3, 4] [1] 0 rfl rfl rfl rfl) (ji rfl rfl rfl rfl (fun w _ => Zg 3 0 (Tryz.runUnderlying32 w) rfl (Tryz.isAgg3 w) rfl rfl) (jE rfl ?_))
    obtain ⟨t35, h16, hm⟩ := bindO hm
    refine jd [] [] rfl rfl rfl rfl rfl rfl rfl Tryz.call66 (fun w hh => qM (⟨t22.tenant, (⟨t22.lay.lo, t22.lay.hi⟩ : Span), (⟨t22.seeded.lo, t22.seeded.hi⟩ : Span), (⟨t22.left.lo, t22.left.hi⟩ : Span)⟩ : Strip) w (HV.callee (S0 := []) (vs0 := []) hh roN)  h16) (fun l_3 h17 => ?_)
    refine jr (hsE [0, 1, 2, 3, 4] [1] 0 rfl rfl rfl rfl) (ji rfl rfl rfl rfl (fun w _ => Zg 3 1 (Tryz.runUnderlying32 w) rfl (Tryz.isAgg3 w) rfl rfl) (ji rfl rfl rfl rfl (fun _ _ => jz (vs := [(0, _), (1, _), (2, _), (3, _)]) (cells := [_, _, _, _, _, _]) rfl rfl) (jE rfl ?_)))
    refine kG RWay [(⟨0, t30, t32.lo, t35.hi, 0, 0⟩ : Wy)] (ps := [(0, _)]) (cells := [_, _, _, _, _, _]) (fun w => Tryz.runUnderlying152 w) (fun w => Tryz.sizeOf156 w) (fun w => Tryz.zeroValue156 w) rfl rfl rfl rfl rfl rfl rfl rfl (fun L h18 => ?_)
    refine jr (hsE [0, 1, 2, 3, 4] [2] 0 rfl rfl rfl rfl) (jE rfl ?_)
    obtain ⟨t39, h19, hm⟩ := bindO hm
    refine yh RWay 1 h19 Tryz.underlying152 Y6 rfl rfl rfl rfl rfl h8 rfl rfl (vlen RWay h18 rfl) (AOK.q (vne h18)) (fun w hh => (hh.vsegA 0 rfl h18)) rfl (fun L_1 h20 h20n => ?_)
    refine jT (S' := [_, _, _, _, _]) (vs' := [_, _, _]) [0, 1, 2, 3, 4] [0, 1, 2] 0 rfl rfl rfl rfl (jr (hsE [0, 1, 2, 3, 4] [2] 0 rfl rfl rfl rfl) (ji rfl rfl rfl rfl (fun _ _ => jN rfl) (k5 0 Tryz.runUnderlying154 Tryz.sizeOf152 rfl rfl rfl rfl (Q2 rfl (kY (cs' := #[_]) (S' := [_, _, _, _, _]) 2 (fun w => Tryz.sizeOf152 w) rfl rfl rfl rfl rfl rfl rfl (K0 (jM ?_)))))))
    refine jt (ja (jh ?_))
    obtain ⟨t42, h21, hm⟩ := bindO hm
    refine qs h21 rfl rfl rfl (je rfl rfl (jv ?_))
    obtain rfl := sj hm
    refine ja ?_
    exact QK _ L_1 rfl rfl (h20) (sE rfl) (hsE [1, 2, 3, 4] [1, 2] 0 rfl rfl rfl rfl)
   ·replace hm := ifE h10 hm
    refine jS (jl (jl (jG ?_)))
    obtain rfl := sj hm
    have hbo := h9 _ rfl
    subst hbo
    exact Qb l_1 rfl (h8) (sE rfl) (fun w hh => hh)
  ·intro l hj
   have h7 := hj
   replace hm := h6
   refine ja (jj (jq (je rfl rfl (jc rfl rfl rfl (fun _ _ => jN rfl) (jP 0 Tryz.runUnderlying144 rfl Tryz.sizeOf25 rfl rfl (jP 1 Tryz.runUnderlying25 rfl Tryz.sizeOf23 rfl rfl (jc rfl rfl rfl (fun w hh => jR (Tryz.isAgg23 w) rfl (segCell (hh.seg 0 rfl) 1 rfl)) ?_)))))))
   refine jc rfl rfl rfl (fun w _ => jI hna2 (Tryz.runUnderlying23 w) rfl) (je rfl rfl (jp ?_))
   obtain ⟨o_1, h22, h23⟩ := bindO hm
   refine YN (ι := VL × List Nat) (fun l_4 => mks l_4.2) (fun l_4 => VOK 6 l_4.1.n l_4.1.cap (RWay.enc o_1) l_4.1.sp l_4.1.q) (fun l_4 => [(5, ptr b_2 0)]) (fun l_4 => [(b_2, .cells #[ptr b_1 0] 110 (0, 0)), (b_1, .cells #[slv l_4.1.q l_4.1.n l_4.1.cap] 154 (0, 0)), (b, .cells #[.func (.func f_c1_0) fs_c1_0 cs_c1_0] 115 (0, 0)), (pb, gobj (kR RPr) kB d02)]) (fun l_4 => [⟨156, RWay.enc o_1, l_4.1.sp, l_4.1.q, []⟩, mkV l_4.2]) ?_ ?_
   ·replace hm := h22
    refine jn ?_
    refine Yd (ι := VL × List Nat) hm (fun s_1 l_5 => mks l_5.2) (fun s_1 l_5 => VOK 6 l_5.1.n l_5.1.cap (RWay.enc s_1.t12) l_5.1.sp l_5.1.q) (fun s_1 l_5 => [(0, ptr rb 0), (3, ptr b 0), (5, ptr b_2 0), (47, .slice qa2 na2 ca2), (48, .int .i64 (d01.length : Int)), (49, .int .i64 s_1.t49)]) (fun s_1 l_5 => [(b_2, .cells #[ptr b_1 0] 110 (0, 0)), (b_1, .cells #[slv l_5.1.q l_5.1.n l_5.1.cap] 154 (0, 0)), (b, .cells #[.func (.func f_c1_0) fs_c1_0 cs_c1_0] 115 (0, 0)), (pb, gobj (kR RPr) kB d02)]) (fun s_1 l_5 => [⟨156, RWay.enc s_1.t12, l_5.1.sp, l_5.1.q, []⟩, mkV l_5.2]) (l, []) rfl (h7) (sE rfl) (fun w hh => hh) (fun s_1 l_5 r_1 hpl hm h26 => ?_)
    have h25 := hpl
    unfold qU at hm
    refine jq (yY rfl rfl rfl (jp (jj ?_)))
    refine js rfl (fun h27 => ?_) (fun h27 => ?_)
    ·replace hm := ifD h27 hm
     refine ju (ja (jj (jn (jq (je rfl rfl ?_)))))
     obtain ⟨t52, h28, hm⟩ := bindO hm
     refine jc rfl rfl rfl (fun w _ => ki h28 (Tryz.runUnderlying23 w) (Tryz.sizeOf32 w) rfl rfl hna2 hqa2) ?_
     refine jc rfl rfl rfl (fun w hh => kt RSp 0 [.int .i64 t52.lo, .int .i64 t52.hi] h28 (Tryz.isAgg32 w) (Tryz.sizeOf32 w) rfl (hh.seg 2 rfl) rfl (Nat.add_zero _).symm) ?_
     refine jo (fun w => Tryz.zeroValue3 w) rfl (fun b_4 h29 => ?_)
     refine jo (fun w => Tryz.zeroValue32 w) rfl (fun b_5 h30 => ?_)
     refine kY (cs' := #[_]) (S' := [_, _, _, _, _, _]) 1 (fun w => Tryz.sizeOf3 w) rfl rfl rfl rfl rfl rfl rfl (jy (us := #[_, _]) (cs' := [_, _]) (S' := [_, _, _, _, _, _]) 0 (fun w => Tryz.sizeOf32 w) rfl rfl rfl rfl rfl rfl rfl (jp (jj (jq (je rfl rfl (jY 1 Tryz.isAgg3 rfl rfl rfl rfl ?_))))))
     obtain ⟨t56, h31, hm⟩ := bindO hm
     refine jd [] [] rfl rfl rfl rfl rfl rfl rfl Tryz.call64 (fun w hh => YM d00 d01 s_1.t49 rb qa1 na1 ca1 qa2 na2 ca2 (.map (some pb)) w (HV.callee (S0 := []) (vs0 := []) hh (roR hh 0 rfl (roR hh 1 rfl (roR hh 2 rfl roN)))) hna1 hqa1 hla1 hna2 hqa2 hla2 h31) (fun l_6 h32 => ?_)
     refine jT (S' := [_, _, _, _, _, _, _, _]) (vs' := [_, _]) [0, 1, 2, 3, 4, 5, 6, 7] [0, 1] 0 rfl rfl rfl rfl (jp (jn ?_))
     obtain ⟨h33, hm⟩ := ifO hm
     refine ZU (e' := [(0, ptr rb 0), (3, ptr b 0), (5, ptr b_2 0), (8, ptr b_4 0), (9, ptr b_5 0), (47, .slice qa2 na2 ca2), (48, .int .i64 (d01.length : Int)), (49, .int .i64 s_1.t49), (56, .func (.func 112) #[] #[ptr l_6.1 0, ptr l_6.2 0])]) (sE rfl) ?_
     obtain ⟨o_2, h34, hm⟩ := bindO hm
     refine jaj (ι := VL) (reachL d00.length d02 t56) (fun x => .int .i64 x) h34 (fun s_2 l_7 => VOK 6 l_7.n l_7.cap (RWay.enc s_2) l_7.sp l_7.q) (fun s_2 l_7 => [(l_6.1, .cells #[ptr rb 0] 107 (0, 0)), (l_6.2, .cells #[.int .i64 t56] 3 (0, 0)), (b_5, .cells #[.int .i64 t52.lo, .int .i64 t52.hi] 32 (0, 0)), (b_4, .cells #[.int .i64 s_1.t49] 3 (0, 0)), (b_2, .cells #[ptr b_1 0] 110 (0, 0)), (b_1, .cells #[slv l_7.q l_7.n l_7.cap] 154 (0, 0)), (b, .cells #[.func (.func f_c1_0) fs_c1_0 cs_c1_0] 115 (0, 0)), (pb, gobj (kR RPr) kB d02)]) (fun s_2 l_7 => [⟨156, RWay.enc s_2, l_7.sp, l_7.q, []⟩, mkV l_5.2]) l_5.1 (h25) (fun w hh => hh) (RdReach l_6.1 l_6.2 rb pb t56 qa1 na1 ca1 d02) (fun s_2 l_7 w h35 hh => ⟨hh.cell 0 rfl rfl, hh.cell 1 rfl rfl, segCell (hh.seg 0 rfl) 0 rfl, segCell (hh.seg 0 rfl) 2 rfl, hh.get 7 rfl⟩) (it_reach _ _ _ l_6.1 l_6.2 rb pb t56 qa1 na1 ca1 d00 d02 hna1 h33) rfl Tryz.call112 rfl (e1 := fun x => (10, .int .i64 x) :: (57, .int .i64 x) :: [(0, ptr rb 0), (3, ptr b 0), (5, ptr b_2 0), (8, ptr b_4 0), (9, ptr b_5 0), (47, .slice qa2 na2 ca2), (48, .int .i64 (d01.length : Int)), (49, .int .i64 s_1.t49), (56, .func (.func 112) #[] #[ptr l_6.1 0, ptr l_6.2 0])]) (fun x lr H X hX => ?_) (fun x s_2 r_2 l_7 lr w1 h35 hm => ?_) (fun l_7 D h35 => ?_)
     ·refine jh ?_
      refine jk rfl rfl (jp ?_)
      exact hX
     ·have h36 := h35
      unfold yH at hm
      refine jn ?_
      refine jX (some 20) (.hoist 0 (.hoist 1 (.free 2 (.free 3 (.hoist 4 (.free 5 (.free 6 (.hoist 7 (.free 8 (.free 9 (.hoist 10 (.hoist 11 (.free 12 (.free 13 (.one 14 (.free 15 (.one 16 (.one 17 (.free 18 (.free 19 (.last 20 .done))))))))))))))))))))) (HV _ _ [(l_6.1, .cells #[ptr rb 0] 107 (0, 0)), (l_6.2, .cells #[.int .i64 t56] 3 (0, 0)), (b_5, .cells #[.int .i64 t52.lo, .int .i64 t52.hi] 32 (0, 0)), (b_4, .cells #[.int .i64 s_1.t49] 3 (0, 0)), (b_2, .cells #[ptr b_1 0] 110 (0, 0)), (b_1, .cells #[slv l_7.q l_7.n l_7.cap] 154 (0, 0)), (b, .cells #[.func (.func f_c1_0) fs_c1_0 cs_c1_0] 115 (0, 0)), (pb, gobj (kR RPr) kB d02)] [mkV l_5.2] _) rfl (by decide +kernel) (fun w k hh => hh.draw k) (hsE [0, 1, 2, 3, 4, 5, 6, 7] [1] 0 rfl rfl rfl rfl) ?_
      refine qY 4 Tryz.isAgg110 rfl rfl rfl rfl rfl (qY 4 Tryz.isAgg110 rfl rfl rfl rfl rfl (ji rfl rfl rfl rfl (fun _ _ => jN rfl) (k5 0 Tryz.runUnderlying154 Tryz.sizeOf152 rfl rfl rfl rfl (qY 5 Tryz.isAgg152 rfl rfl rfl rfl rfl (ku rfl rfl rfl ?_)))))
      obtain ⟨t64, h39, hm⟩ := bindO hm
      refine ji rfl rfl rfl rfl (fun _ _ => KV h39 rfl rfl) (qY 3 Tryz.isAgg3 rfl rfl rfl rfl rfl ?_)
      obtain ⟨t66, h40, hm⟩ := bindO hm
      refine ji rfl rfl rfl rfl (fun _ _ => KV h40 rfl rfl) (k5 0 Tryz.runUnderlying115 Tryz.sizeOf113 rfl rfl rfl rfl (qY 6 Tryz.isAgg113 rfl rfl rfl rfl rfl (qY 3 Tryz.isAgg3 rfl rfl rfl rfl rfl (ku rfl rfl rfl (ji rfl rfl rfl rfl (fun _ _ => jz (vs := [(0, _), (1, _)]) (cells := [_, _]) rfl rfl) (jE rfl ?_))))))
      obtain ⟨t72, h41, hm⟩ := bindO hm
      refine YT hcl_c1_0 (fun t ht => (List.mem_cons_of_mem _ (List.mem_cons_of_mem _ (List.mem_cons_of_mem _ ht)))) h41 rfl rfl rfl rfl rfl rfl (jr (hsE [0, 1, 2, 3, 4, 5, 6, 7] [1] 0 rfl rfl rfl rfl) (ji rfl rfl rfl rfl (fun _ _ => jz (vs := [(0, _), (1, _), (3, _), (4, _)]) (cells := [_, _, _, _, _, _]) rfl rfl) (jE rfl ?_)))
      refine kG RWay [(⟨t64, t66, 0, 1000000, t72, 0⟩ : Wy)] (ps := [(0, _)]) (cells := [_, _, _, _, _, _]) (fun w => Tryz.runUnderlying152 w) (fun w => Tryz.sizeOf156 w) (fun w => Tryz.zeroValue156 w) rfl rfl rfl rfl rfl rfl rfl rfl (fun L_2 h42 => ?_)
      refine jr (hsE [0, 1, 2, 3, 4, 5, 6, 7] [2] 0 rfl rfl rfl rfl) (jE rfl ?_)
      obtain ⟨t75, h43, hm⟩ := bindO hm
      refine yh RWay 1 h43 Tryz.underlying152 Y6 rfl rfl rfl rfl rfl h36 rfl rfl (vlen RWay h42 rfl) (AOK.q (vne h42)) (fun w hh => (hh.vsegA 0 rfl h42)) rfl (fun L_3 h44 h44n => ?_)
      refine jT (S' := [_, _, _, _, _, _, _, _]) (vs' := [_, _, _]) [0, 1, 2, 3, 4, 5, 6, 7] [0, 1, 2] 0 rfl rfl rfl rfl (jr (hsE [0, 1, 2, 3, 4, 5, 6, 7] [2] 0 rfl rfl rfl rfl) (ji rfl rfl rfl rfl (fun _ _ => jN rfl) (k5 0 Tryz.runUnderlying154 Tryz.sizeOf152 rfl rfl rfl rfl (Q2 rfl (kY (cs' := #[_]) (S' := [_, _, _, _, _, _, _, _]) 5 (fun w => Tryz.sizeOf152 w) rfl rfl rfl rfl rfl rfl rfl (K0 (jM ?_)))))))
      refine jt ?_
      obtain rfl := sj hm
      exact jaU t75 L_3 rfl (h44) (fun w hh => hh.selN [0, 1, 2, 3, 4, 5, 6, 7] [1, 2] (by decide) (by decide) rfl rfl)
     ·have h45 := h35
      refine Y4 1 rfl rfl (jt (ja ?_))
      refine jX (some 16) (.hoist 0 (.hoist 1 (.free 2 (.free 3 (.hoist 4 (.hoist 5 (.free 6 (.free 7 (.hoist 8 (.free 9 (.hoist 10 (.free 11 (.one 12 (.one 13 (.free 14 (.free 15 (.last 16 .done))))))))))))))))) (HV _ _ [(l_6.1, .cells #[ptr rb 0] 107 (0, 0)), (l_6.2, .cells #[.int .i64 t56] 3 (0, 0)), (b_5, .cells #[.int .i64 t52.lo, .int .i64 t52.hi] 32 (0, 0)), (b_4, .cells #[.int .i64 s_1.t49] 3 (0, 0)), (b_2, .cells #[ptr b_1 0] 110 (0, 0)), (b_1, .cells #[slv l_7.q l_7.n l_7.cap] 154 (0, 0)), (b, .cells #[.func (.func f_c1_0) fs_c1_0 cs_c1_0] 115 (0, 0)), (pb, gobj (kR RPr) kB d02)] [mkV (D :: l_5.2)] _) rfl (by decide +kernel) (fun w k hh => hh.draw k) (hsE [0, 1, 2, 3, 4, 5, 6, 7] [1] 0 rfl rfl rfl rfl) ?_
      refine qY 4 Tryz.isAgg110 rfl rfl rfl rfl rfl (qY 4 Tryz.isAgg110 rfl rfl rfl rfl rfl (ji rfl rfl rfl rfl (fun _ _ => jN rfl) (k5 0 Tryz.runUnderlying154 Tryz.sizeOf152 rfl rfl rfl rfl (qY 5 Tryz.isAgg152 rfl rfl rfl rfl rfl (qY 3 Tryz.isAgg3 rfl rfl rfl rfl rfl ?_)))))
      obtain ⟨t84, h46, hm⟩ := bindO hm
      refine ji rfl rfl rfl rfl (fun _ _ => KV h46 rfl rfl) (k5 0 Tryz.runUnderlying32 Tryz.sizeOf3 rfl rfl rfl rfl (qY 2 Tryz.isAgg3 rfl rfl rfl rfl rfl (k5 1 Tryz.runUnderlying32 Tryz.sizeOf3 rfl rfl rfl rfl (qY 2 Tryz.isAgg3 rfl rfl rfl rfl rfl (ji rfl rfl rfl rfl (fun _ _ => jz (vs := [(0, _), (1, _), (2, _), (3, _)]) (cells := [_, _, _, _, _, _]) rfl rfl) (jE rfl ?_))))))
      refine kG RWay [(⟨t84, 0, t52.lo, t52.hi, 0, 0⟩ : Wy)] (ps := [(0, _)]) (cells := [_, _, _, _, _, _]) (fun w => Tryz.runUnderlying152 w) (fun w => Tryz.sizeOf156 w) (fun w => Tryz.zeroValue156 w) rfl rfl rfl rfl rfl rfl rfl rfl (fun L_4 h47 => ?_)
      refine jr (hsE [0, 1, 2, 3, 4, 5, 6, 7] [2] 0 rfl rfl rfl rfl) (jE rfl ?_)
      obtain ⟨t91, h48, hm⟩ := bindO hm
      refine yh RWay 1 h48 Tryz.underlying152 Y6 rfl rfl rfl rfl rfl h45 rfl rfl (vlen RWay h47 rfl) (AOK.q (vne h47)) (fun w hh => (hh.vsegA 0 rfl h47)) rfl (fun L_5 h49 h49n => ?_)
      refine jT (S' := [_, _, _, _, _, _, _, _]) (vs' := [_, _, _]) [0, 1, 2, 3, 4, 5, 6, 7] [0, 1, 2] 0 rfl rfl rfl rfl (jr (hsE [0, 1, 2, 3, 4, 5, 6, 7] [2] 0 rfl rfl rfl rfl) (ji rfl rfl rfl rfl (fun _ _ => jN rfl) (k5 0 Tryz.runUnderlying154 Tryz.sizeOf152 rfl rfl rfl rfl (Q2 rfl (kY (cs' := #[_]) (S' := [_, _, _, _, _, _, _, _]) 5 (fun w => Tryz.sizeOf152 w) rfl rfl rfl rfl rfl rfl rfl (K0 (jM ?_)))))))
      refine jt (ja (jh ?_))
      obtain ⟨t94, h50, hm⟩ := bindO hm
      refine qs h50 rfl rfl rfl (je rfl rfl (jv ?_))
      obtain rfl := sj hm
      refine ja ?_
      exact QK _ (L_5, (D :: l_5.2)) rfl rfl (h49) (sE rfl) (hsE [4, 5, 6, 7] [1, 2] 0 rfl rfl rfl rfl)
    ·replace hm := ifE h27 hm
     refine jS (jl (jl (jG ?_)))
     obtain rfl := sj hm
     have hbo := h26 _ rfl
     subst hbo
     exact Qb (l_5.1, l_5.2) rfl (h25) (sE rfl) (fun w hh => hh)
   ·intro l_4 hj
    have h24 := hj
    replace hm := h23
    refine ja (jq (jY 0 Tryz.isAgg110 rfl rfl rfl rfl (jk rfl rfl (jp (jw ?_)))))
    obtain rfl := sj hm
    refine Qj rfl rfl rfl (fun w hh => (.tmp rfl .nil)) (fun w hh => ⟨(b_1, l_4.1), rfl, h24, hh.selN [3, 1] [0] (by decide) (by decide) rfl rfl⟩)
structure JP where
  n0 : Int
  t9 : Int
def yU (l1 : (List Int)) (s : JP) : Option (JP ⊕ Int) :=
 if s.t9 < (l1.length : Int) then
 ((ix l1 s.t9).bind fun t11 =>
 (addc s.t9 1).bind fun t16 =>
 some (.inl (⟨(min s.n0 t11), t16⟩ : JP))) else
 (some (.inr s.n0))
def Js (n0 : Int) (l1 : (List Int)) : Option Int :=
 (iterM FU (yU l1) (⟨n0, 0⟩ : JP)).bind fun o =>
 some o
theorem KT (n0 : Int) (l1 : (List Int)) (qa0 : Option Addr) (na0 ca0 : Nat) (w : World) (hw : HV w (keys [] []) [] [] [(aB qa0, aO qa0, RI.enc l1)] w) (hna0 : l1.length = na0) (hqa0 : AOK na0 qa0) (hla0 : na0 ≤ ca0) {res : Int} (hm : Js n0 l1 = some res) :
    Calls Tryz.prog 74 #[.int .i64 n0, .slice qa0 na0 ca0] w (fun en w' => ∃ l : Unit, en = .returned (.int .i64 res) ∧ (True) ∧ HV w (keys [] []) [] [] [] w') := by
  unfold Js at hm
  refine j5 Tryz.func74 rfl Tryz.ntmps74 rfl (e := [(0, _), (1, _)]) rfl hw (jq (jk rfl rfl (jp (jj (jq (je rfl rfl (jc rfl rfl rfl (fun w _ => jI hna0 (Tryz.runUnderlying26 w) rfl) ?_)))))))
  refine je rfl rfl (jp ?_)
  obtain ⟨o, h1, h2⟩ := bindO hm
  refine jF (ι := Unit) (fun l => True) (fun l => [(0, .int .i64 o)]) (fun l => []) (fun l => []) ?_ ?_
  ·replace hm := h1
   refine jn ?_
   refine jL (ι := Unit) hm (fun s l_1 => True) (fun s l_1 => [(0, .int .i64 s.n0), (7, .slice qa0 na0 ca0), (8, .int .i64 (l1.length : Int)), (9, .int .i64 s.t9)]) (fun s l_1 => []) (fun s l_1 => []) () (trivial) (sE rfl) (fun w hh => hh) (fun s l_1 r hpl hm h3 => ?_)
   unfold yU at hm
   refine jq (yY rfl rfl rfl (jp (jj ?_)))
   refine js rfl (fun h4 => ?_) (fun h4 => ?_)
   ·replace hm := ifD h4 hm
    refine ju (ja (jj (jn (jq ?_))))
    obtain ⟨t11, h5, hm⟩ := bindO hm
    refine jc rfl rfl rfl (fun w _ => ki h5 (Tryz.runUnderlying26 w) (Tryz.sizeOf3 w) rfl rfl hna0 hqa0) (jc rfl rfl rfl (fun w hh => kl RI 0 h5 (Tryz.isAgg3 w) rfl (hh.seg 0 rfl) rfl (Nat.add_zero _).symm) (jk rfl rfl (jp (jh (je rfl rfl (je rfl rfl (jc rfl rfl rfl (fun _ _ => jas rfl rfl) ?_)))))))
    refine jk rfl rfl (jv (jt (ja (jh ?_))))
    obtain ⟨t16, h6, hm⟩ := bindO hm
    refine qs h6 rfl rfl rfl (je rfl rfl (jv ?_))
    obtain rfl := sj hm
    refine ja ?_
    exact jA _ () rfl (trivial) (sE rfl) (fun w hh => hh)
   ·replace hm := ifE h4 hm
    refine jS (jl (jl (jG ?_)))
    obtain rfl := sj hm
    have hbo := h3 _ rfl
    subst hbo
    exact jg () (trivial) (sE rfl) (fun w hh => hh)
  ·intro l hj
   replace hm := h2
   refine ja (jq (je rfl rfl (jk rfl rfl (jp (jw ?_)))))
   obtain rfl := sj hm
   refine jm rfl (fun w hh => (.tmp rfl .nil)) (fun w hh => ⟨(), rfl, trivial, hh.se [] [] 1 rfl rfl rfl rfl⟩)
end Go.Proofs.Ws

