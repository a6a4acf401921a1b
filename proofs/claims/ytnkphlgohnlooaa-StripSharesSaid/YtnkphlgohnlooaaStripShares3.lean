/- What the functions that the law StripShares reaches come to, and why it holds: part 3. -/
import Derived.Test.YtnkphlgohnlooaaStripShares2
import Derived.Shelf.Slices.CompactI
namespace Go.Proofs
open Go.Shelf
def laysCompact_ren : Go.Shelf.Ren := ⟨fun | 20 => 93 | n => n, fun | 0 => 0 | 3 => 3 | 4 => 4 | 22 => 32 | n => n, fun | n => n⟩
theorem laysCompact : Go.Proofs.Lays2.n20 Try.prog laysCompact_ren := {
  mixed := by kernel_rfl,
  f20 := Try.func93.trans (congrArg some (by kernel_rfl)),
  t0 := Try.underlying0,
  a0 := Try.isAgg0,
  z0 := Try.sizeOf0,
  v0 := Try.zeroValue0,
  t3 := Try.underlying3,
  a3 := Try.isAgg3,
  z3 := Try.sizeOf3,
  v3 := Try.zeroValue3,
  t4 := Try.underlying4,
  a4 := Try.isAgg4,
  z4 := Try.sizeOf4,
  v4 := Try.zeroValue4,
  t22 := Try.underlying32,
  a22 := Try.isAgg32,
  z22 := Try.sizeOf32,
  v22 := Try.zeroValue32,
  i3 := by kernel_rfl }
end Go.Proofs
namespace Go.Proofs.Ws
open Go Go.Fw Go.Gx Go.Sp
theorem RI_len (l : List Int) : (RI.enc l).length = l.length := by rw [RI.enc_len]; exact Nat.mul_one _
theorem RI_get {l : List Int} {j : Nat} (h : j < l.length) : (RI.enc l)[j]? = some (.int .i64 l[j]!) := by
  have := RI.enc_get l j 0 l[j]! (by simp [h]) (by decide)
  simpa [RI] using this
def yA (l : List Int) : Option (List Int) := if l.length ≤ 4611686018427387903 then some (Go.Lib.compact l) else none
theorem compact_le (l : List Int) : (Go.Lib.compact l).length ≤ l.length := by
  unfold Go.Lib.compact Go.Lib.compactUpTo
  rw [List.length_map]
  exact Nat.le_trans (List.length_filter_le _ _) (by simp)
theorem put_cells {l s : List Int} {sp : List Value} (hs : s.length = l.length) : Go.Sort.putCells (Value.int .i64) 0 s.toArray (RI.enc l ++ sp).toArray = (RI.enc s ++ sp).toArray := by
  apply Array.toList_inj.1
  apply List.ext_getElem?
  intro k
  unfold Go.Sort.putCells
  rw [Array.getElem?_toList, Array.getElem?_mapIdx]
  simp only [List.getElem?_toArray, Nat.zero_le, true_and, Nat.zero_add, List.size_toArray, Nat.sub_zero]
  by_cases hk : k < s.length
  · rw [List.getElem?_append_left (by rw [RI_len]; omega), List.getElem?_append_left (by rw [RI_len]; omega), RI_get (by omega), RI_get hk]
    simp [hk]
  · rw [List.getElem?_append_right (by rw [RI_len]; omega), List.getElem?_append_right (by rw [RI_len]; omega), RI_len, RI_len, hs]
    have h2 : ¬ k < l.length := by omega
    simp [hk, h2]
theorem Kk (l : List Int) (V : VL) (w : World) (hw : HV w (keys [] [⟨3, RI.enc l, V.sp, V.q, []⟩]) [] [⟨3, RI.enc l, V.sp, V.q, []⟩] [] w) (hv : VOK 1 V.n V.cap (RI.enc l) V.sp V.q) {res : List Int} (hm : yA l = some res) :
    Calls Try.prog 93 #[slv V.q V.n V.cap] w (fun en w' => ∃ l' : VL, en = .returned (slv l'.q l'.n l'.cap) ∧ (VOK 1 l'.n l'.cap (RI.enc res) l'.sp l'.q) ∧ HV w (keys [] [⟨3, RI.enc l, V.sp, V.q, []⟩]) [] [⟨3, RI.enc res, l'.sp, l'.q, []⟩] [] w') := by
  unfold yA at hm
  obtain ⟨hl, hm⟩ := ifO hm
  obtain rfl := Option.some.inj hm
  have hn := vlen RI hv rfl
  obtain ⟨q, n, cap, sp⟩ := V
  simp only at hw hv hn ⊢
  subst hn
  have hle := compact_le l
  generalize hc : Go.Lib.compact l = r at *
  have hv' : VOK 1 r.length cap (RI.enc r) (RI.enc (List.replicate (l.length - r.length) 0) ++ sp) q := ⟨by rw [RI_len, Nat.mul_one], by
      have := hv.hcap
      rw [List.length_append, RI_len] at this
      rw [List.length_append, List.length_append, RI_len, RI_len, List.length_replicate]
      omega, by have := hv.hle; omega, hv.hmax, fun h => by
        have h1 := hv.hnone h
        have h2 : l.length = 0 := h1.1
        exact ⟨by omega, h1.2⟩, hv.hoff⟩
  cases q with
  | none =>
    have h0 := (hv.hnone rfl).1
    have e : l = [] := List.length_eq_zero_iff.1 h0
    subst e
    have er : r = [] := by rw [← hc]; rfl
    subst er
    refine Calls.mono (Any.slices_Compact_int_empty laysCompact none cap w) ?_
    rintro en w' ⟨rfl, rfl⟩
    exact ⟨⟨none, 0, cap, sp⟩, rfl, hv', by simpa using hw⟩
  | some p =>
    have ho := hv.hoff p rfl
    have hb : w.heap[p.1]? = some (.cells (RI.enc l ++ sp).toArray 3 (0, 0)) := hw.hs.ownOK (p.1, _) (by simp [vbl, VR.bl, vown])
    have hlt : p.1 < w.heap.size := (Array.getElem?_eq_some_iff.1 hb).1
    have hH : Go.Sort.Holds (Value.int .i64) w p.1 0 l.toArray := fun j hj => by
      have hj' : j < l.length := by simpa using hj
      refine ⟨?_, by simp [World.frozen?, hb]⟩
      have : (RI.enc l ++ sp)[j]? = some (.int .i64 l[j]!) := by rw [List.getElem?_append_left (by rw [RI_len]; exact hj')]; exact RI_get hj'
      simp [World.cell?, hb, this]
    have e1 : slv (some p) l.length cap = Value.slice (some ⟨p.1, 0, none⟩) l.length cap := by simp [slv, ho]
    rw [e1]
    refine Calls.mono (Any.slices_Compact_int laysCompact p.1 0 cap l w hH (by omega) hv.hle) ?_
    rw [hc]
    rintro en w' ⟨rfl, k, rfl⟩
    have e2 : Value.slice (some ⟨p.1, 0, none⟩) r.length cap = slv (some p) r.length cap := by simp [slv, ho]
    refine ⟨⟨some p, r.length, cap, RI.enc (List.replicate (l.length - r.length) 0) ++ sp⟩, by rw [e2], hv', ?_⟩
    have hput := put_cells (l := l) (s := r ++ List.replicate (l.length - r.length) 0) (sp := sp) (by simp; omega)
    have henc : RI.enc (r ++ List.replicate (l.length - r.length) 0) ++ sp = RI.enc r ++ (RI.enc (List.replicate (l.length - r.length) 0) ++ sp) := by rw [RI.enc_append, List.append_assoc]
    rw [henc] at hput
    have hmod : ∀ i : Nat, (Go.Sort.putRow (Value.int .i64) (Go.Sort.ahead w k) p.1 0 (r ++ List.replicate (l.length - r.length) 0).toArray).heap[i]? = if i = p.1 then some (.cells (RI.enc r ++ (RI.enc (List.replicate (l.length - r.length) 0) ++ sp)).toArray 3 (0, 0)) else w.heap[i]? := fun i => by
      simp only [Go.Sort.putRow, Go.Sort.mapBlock, Go.Sort.ahead]
      rw [Array.getElem?_modify]
      by_cases h : p.1 = i
      · subst h
        rw [if_pos rfl, if_pos rfl, hb]
        simp only [Option.map_some, Go.Sort.onCells, hput]
      · rw [if_neg h, if_neg (fun e => h e.symm)]
    have hhs := hw.hs
    refine ⟨rfl, rfl, rfl, ?_, fun i hi hM => ?_, fun x hx => ?_, fun x hx => ?_, ?_, fun x hx => by simp at hx, fun x hx => by simp at hx⟩
    · simp [Go.Sort.putRow, Go.Sort.mapBlock, Go.Sort.ahead]
    · have : i ≠ p.1 := fun e => hM (by simp [keys, vbl, VR.bl, vown, e])
      exact (hmod i).trans (if_neg this)
    · simp only [vbl, VR.bl, vown, List.nil_append, List.append_nil, List.mem_singleton] at hx
      subst hx
      exact (hmod p.1).trans (if_pos rfl)
    · simp only [vbl, VR.bl, vown, List.nil_append, List.append_nil, List.mem_singleton] at hx
      subst hx
      exact .inr (by simp [keys, vbl, VR.bl, vown])
    · simp [vbl, VR.bl, vown]
end Go.Proofs.Ws

namespace Go.Gx
open Go Go.Fw
section
variable {P : Program}
inductive EqG (P : Program) (xs ys : Array Value) : List Field → Bool → Prop
  | nil : EqG P xs ys [] true
  | int {f : Field} {fs : List Field} {k : IntKind} {a c : Int} {b : Bool} (hn : (f.name == "_") = false) (hg : ∀ w, (isAgg f.type).run P w = .ok false w) (hu : ∃ k', P.underlying f.type = some (.int k')) (hx : xs[f.offset]? = some (.int k a)) (hy : ys[f.offset]? = some (.int k c)) (h : EqG P xs ys fs b) : EqG P xs ys (f :: fs) (decide (a = c) && b)
  | bool {f : Field} {fs : List Field} {a c : Bool} {b : Bool} (hn : (f.name == "_") = false) (hg : ∀ w, (isAgg f.type).run P w = .ok false w) (hu : P.underlying f.type = some .bool) (hx : xs[f.offset]? = some (.bool a)) (hy : ys[f.offset]? = some (.bool c)) (h : EqG P xs ys fs b) : EqG P xs ys (f :: fs) (decide (a = c) && b)
  | sub {f : Field} {fs : List Field} {us vs : List Value} {k : Nat} {fs' : Array Field} {b b' : Bool} (hn : (f.name == "_") = false) (hg : ∀ w, (isAgg f.type).run P w = .ok true w) (hz : ∀ w, (sizeOf f.type).run P w = .ok k w) (hlx : us.length = k) (hly : vs.length = k) (hx : (xs.toList.drop f.offset).take k = us) (hy : (ys.toList.drop f.offset).take k = vs)
      (hu : P.underlying f.type = some (.struct fs')) (hp : P.stoodInHeld f.type = false) (h' : EqF P us.toArray vs.toArray fs'.toList b') (h : EqG P xs ys fs b) : EqG P xs ys (f :: fs) (b' && b)
theorem part_agg {T : TypeId} {cs : Array Value} {o : Nat} {us : List Value} {w : World} (hg : (isAgg T).run P w = .ok true w) (hz : (sizeOf T).run P w = .ok us.length w) (hv : (cs.toList.drop o).take us.length = us) : (part T cs o).run P w = .ok (.agg us.toArray) w := by
  have hsub : cs.extract o (o + us.length) = us.toArray := by
    apply Array.toList_inj.1
    rw [Array.toList_extract, List.extract_eq_take_drop]
    simpa using hv
  simp [part, hg, hz, hsub]
theorem EqG.run {xs ys : Array Value} {fs : List Field} {b : Bool} (h : EqG P xs ys fs b) (d : Nat) (w : World) : (Op.eqFields (d + 2) xs ys fs).run P w = .ok b w := by
  induction h with
  | nil => rfl
  | @int f fs k a c b hn hg hu hx hy h ih =>
    obtain ⟨k', hu⟩ := hu
    have hn' : f.name ≠ "_" := by simpa using hn
    simp only [Op.eqFields, hn', ne_eq, not_false_eq_true, if_true, Sem.run_bind, part_one (hg w) hx, part_one (hg w) hy, Result.andThen_ok, Go.run_equalIn_int w (d + 1) f.type k k' a c hu, Sem.run_ite]
    by_cases he : a = c
    · subst he; simp [ih]
    · simp [he]
  | @bool f fs a c b hn hg hu hx hy h ih =>
    have hn' : f.name ≠ "_" := by simpa using hn
    simp only [Op.eqFields, hn', ne_eq, not_false_eq_true, if_true, Sem.run_bind, part_one (hg w) hx, part_one (hg w) hy, Result.andThen_ok, run_equalIn_bool' w (d + 1) f.type a c hu, Sem.run_ite]
    by_cases he : a = c
    · subst he; simp [ih]
    · simp [he]
  | @sub f fs us vs k fs' b b' hn hg hz hlx hly hx hy hu hp h' h ih =>
    have hn' : f.name ≠ "_" := by simpa using hn
    have hf : P.fieldsOf f.type = fs' := by simp [Program.fieldsOf, hu]
    have he : (Op.equalIn (d + 2) f.type (.agg us.toArray) (.agg vs.toArray)).run P w = .ok b' w := by
      rw [run_equalIn_agg w (d + 1) f.type us.toArray vs.toArray (by rw [hf]; exact hu) hp, hf]
      exact h'.run d w
    simp only [Op.eqFields, hn', ne_eq, not_false_eq_true, if_true, Sem.run_bind, part_agg (us := us) (hg w) (by rw [hlx]; exact hz w) (by rw [hlx]; exact hx), part_agg (us := vs) (hg w) (by rw [hly]; exact hz w) (by rw [hly]; exact hy), Result.andThen_ok, he, Sem.run_ite]
    cases b' with
    | true => simp [ih]
    | false => simp
theorem equal_structG {t : TypeId} {fs : Array Field} {xs ys : Array Value} {b : Bool} (hu : P.underlying t = some (.struct fs)) (hp : P.stoodInHeld t = false) (h : EqG P xs ys fs.toList b) (w : World) : (Op.equalIn 10000 t (.agg xs) (.agg ys)).run P w = .ok b w := by
  have hf : P.fieldsOf t = fs := by simp [Program.fieldsOf, hu]
  rw [show (10000 : Nat) = 9999 + 1 from rfl, run_equalIn_agg w 9999 t xs ys (by rw [hf]; exact hu) hp, hf]
  exact h.run 9997 w
end
end Go.Gx

namespace Go.Fw
open Go Go.Gx
section
variable {n : Nat} {ds : List Deferred} {e : EnvL} {H : World → Prop} {P : Program} {F : Fence} {Q : Exit → Act → World → Prop} {r : Option Nat} {ops : Array Oper} {rest : List Oper} {d : Nat} {v : Value} {ty : TypeId} {pos : String} {after : Array Edge}
theorem jo {ops : Array Oper} {K : Act → World → Prop} (h : G n ds e H K) : G n ds e H (wpListIn F 0 P ops (thenQ K Q) []) := jv (jb h)
theorem jp {id : Nat} {l : List Oper} {y : Code} (h : G n ds e H (wpListIn F 0 P l.toArray (thenQ (y.wpIn F 0 P Q) Q) l)) : G n ds e H ((Code.seq (Code.region id l.toArray false) y).wpIn F 0 P Q) := jj (jh h)
theorem j1 {ops : Array Oper} {id : Nat} {l : List Oper} {y : Code} {Q' : Exit → Act → World → Prop} (h : G n ds e H (wpListIn F 0 P l.toArray (thenQ (y.wpIn F 0 P Q) Q) l)) : G n ds e H (wpListIn F 0 P ops (thenQ ((Code.seq (Code.region id l.toArray false) y).wpIn F 0 P Q) Q') []) := jv (jb (jj (jh h)))
theorem jf {x : Operand} (hn : Nat.blt d n = true) (hx : ev e x = some v) (h : G n ds ((d, v) :: e) H (wpListIn (fw r) 0 P ops Q rest)) : G n ds e H (wpListIn (fw r) 0 P ops Q (⟨some d, .move x, ty, pos, after, none⟩ :: rest)) := jc rfl rfl hn (fun _ _ => qx hx) h
theorem jm {x : Operand} (hn : Nat.blt d n = true) (hx : ev e x = some v) (h : G n ds ((d, v) :: e) H (wpListIn (fw r) 0 P ops Q rest)) : G n ds e H (wpListIn (fw r) 0 P ops Q (⟨some d, .assign x, ty, pos, after, none⟩ :: rest)) := jc rfl rfl hn (fun _ _ => jN hx) h
theorem kj {x : Operand} {i : Nat} {vs : Array Value} (hn : Nat.blt d n = true) (hx : ev e x = some (.tuple vs)) (hi : vs.toList[i]? = some v) (h : G n ds ((d, v) :: e) H (wpListIn (fw r) 0 P ops Q rest)) : G n ds e H (wpListIn (fw r) 0 P ops Q (⟨some d, .extract x i, ty, pos, after, none⟩ :: rest)) := jc rfl rfl hn (fun _ _ => yy hx hi) h
theorem j3 {c x y : Operand} (hn : Nat.blt d n = true) (hc : ev e c = some (.bool true)) (hx : ev e x = some v) (h : G n ds ((d, v) :: e) H (wpListIn (fw r) 0 P ops Q rest)) : G n ds e H (wpListIn (fw r) 0 P ops Q (⟨some d, .pick c x y, ty, pos, after, none⟩ :: rest)) := jc rfl rfl hn (fun _ _ => yG hc hx) h
theorem ki {c x y : Operand} (hn : Nat.blt d n = true) (hc : ev e c = some (.bool false)) (hy : ev e y = some v) (h : G n ds ((d, v) :: e) H (wpListIn (fw r) 0 P ops Q rest)) : G n ds e H (wpListIn (fw r) 0 P ops Q (⟨some d, .pick c x y, ty, pos, after, none⟩ :: rest)) := jc rfl rfl hn (fun _ _ => yC hc hy) h
theorem kt {t u : TypeId} {x y : Operand} {a b c : Int} (hm : addc a b = some c) (hn : Nat.blt d n = true) (hx : ev e x = some (.int .i64 a)) (hy : ev e y = some (.int .i64 b)) (h : G n ds ((d, .int .i64 c) :: e) H (wpListIn (fw r) 0 P ops Q rest)) : G n ds e H (wpListIn (fw r) 0 P ops Q (⟨some d, .binOp .add t x y u, ty, pos, after, none⟩ :: rest)) := jc rfl rfl hn (fun _ _ => Jg hm hx hy) h
theorem qv {t u : TypeId} {x y : Operand} {k : IntKind} {m m' : Int} (hn : Nat.blt d n = true) (hx : ev e x = some (.int k m)) (hy : ev e y = some (.int k m')) (h : G n ds ((d, .bool (decide (m < m'))) :: e) H (wpListIn (fw r) 0 P ops Q rest)) : G n ds e H (wpListIn (fw r) 0 P ops Q (⟨some d, .binOp .lss t x y u, ty, pos, after, none⟩ :: rest)) := jc rfl rfl hn (fun _ _ => Zz hx hy) h
theorem jL {s T : TypeId} {x : Operand} {f b o sz : Nat} {fs : Array Field} (k : Nat) (hu : ∀ w, (underlying s).run P w = .ok (.struct fs) w) (hf : (fs[f]?).map (fun fd => (fd.type, fd.offset)) = some (T, k)) (hz : ∀ w, (sizeOf T).run P w = .ok (sz + 1) w) (hx : ev e x = some (ptr b o)) (hn : Nat.blt d n = true) (h : G n ds ((d, ptr b (o + k)) :: e) H (wpListIn (fw r) 0 P ops Q rest)) : G n ds e H (wpListIn (fw r) 0 P ops Q (⟨some d, .fieldAddr s x f, ty, pos, after, none⟩ :: rest)) := jc rfl rfl hn (fun w _ => ku k (hu w) hf (hz w) hx) h
end
end Go.Fw
namespace Go.Gx
open Go Go.Fw
theorem jU {n : Nat} {ds : List Deferred} {e : EnvL} {w0 : World} {M : List Nat} {S : List (Nat × Obj)} {vs : List VR} {ro : List (Nat × Nat × List Value)} {P : Program} {Q : Exit → Act → World → Prop} {r : Option Nat} {ops : Array Oper} {rest : List Oper} {d : Nat} {v : Value} {ty : TypeId} {pos : String} {after : Array Edge} {t T : TypeId} {x : Operand} {b o : Nat} {cs : Array Value} {fr : Nat × Nat} (i : Nat) (hg' : ∀ w, (isAgg t).run P w = .ok false w) (hx : ev e x = some (ptr b o)) (hn : Nat.blt d n = true) (hi : S[i]? = some (b, .cells cs T fr)) (hv : cs.toList[o]? = some v) (h : G n ds ((d, v) :: e) (HV w0 M S vs ro) (wpListIn (fw r) 0 P ops Q rest)) : G n ds e (HV w0 M S vs ro) (wpListIn (fw r) 0 P ops Q (⟨some d, .load t x, ty, pos, after, none⟩ :: rest)) := jc rfl rfl hn (fun w hh => jY (hg' w) hx (hh.cell i hi hv)) h
theorem sE {e : EnvL} : ∀ {e' : EnvL}, e'.map (fun p => lk e p.1) = e'.map (fun p => some p.2) → Sub e e'
  | [], _ => .nil
  | (t, v) :: l, h => by
    simp only [List.map_cons, List.cons.injEq] at h
    exact .cons h.1 (sE h.2)
def ndB : List Nat → Bool
  | [] => true
  | x :: l => !(l.any (Nat.beq x)) && ndB l
theorem ndB_ok : ∀ {l : List Nat}, ndB l = true → l.Nodup
  | [], _ => List.nodup_nil
  | x :: l, h => by
    unfold ndB at h
    rw [Bool.and_eq_true, Bool.not_eq_true'] at h
    refine List.nodup_cons.2 ⟨fun hx => ?_, ndB_ok h.2⟩
    rw [List.any_eq_false] at h
    exact h.1 x hx (Nat.beq_refl x)
section
variable {w0 w : World} {M : List Nat} {S S' : List (Nat × Obj)} {vs vs' : List VR} {ro ro' : List Sg}
theorem HV.se (h : HV w0 M S vs ro w) (iS iV : List Nat) (k : Nat) (hn : (ndB iS && ndB iV) = true) (hS : iS.map (fun i => S[i]?) = S'.map some) (hV : iV.map (fun i => vs[i]?) = vs'.map some) (hr : ro.drop k = ro') : HV w0 M S' vs' ro' w :=
  h.sel iS iV k (ndB_ok (Bool.and_eq_true_iff.1 hn).1) (ndB_ok (Bool.and_eq_true_iff.1 hn).2) hS hV hr
theorem jS {n : Nat} {ds : List Deferred} {e : EnvL} {X : Act → World → Prop} (iS iV : List Nat) (k : Nat) (hn : (ndB iS && ndB iV) = true) (hS : iS.map (fun i => S[i]?) = S'.map some) (hV : iV.map (fun i => vs[i]?) = vs'.map some) (hr : ro.drop k = ro') (h : G n ds e (HV w0 M S' vs' ro') X) : G n ds e (HV w0 M S vs ro) X :=
  h.pre fun _ hh => hh.se iS iV k hn hS hV hr
theorem kb {n : Nat} {P : Program} {f : FuncId} {fn : Func} {c : Code} {args : List Value} {R : Ending → World → Prop} {e : EnvL}
    (hf : P.funcs[f]? = some fn) (hb : fn.body = some c) (hn : fn.ntmps = n) (hl : Nat.ble args.length n = true) (he : argEnv 0 args = e) (hw : HV w M S vs ro w)
    (h : G n [] e (HV w M S vs ro) (c.wpIn (fw none) 0 P (bodyPost P fn R))) : Calls P f args.toArray w R := jad hf hb hn hl he hw h
theorem g_k {n : Nat} {ds : List Deferred} {e : EnvL} {H : World → Prop} {P : Program} {Q : Exit → Act → World → Prop} {r : Option Nat} {ops : Array Oper} {rest : List Oper} {d : Nat} {op : Op} {ty : TypeId} {pos : String} {after : Array Edge} {j t : Nat} {want b : Bool} (hj : (ops[j]?).bind (·.dst) = some t) (ht : lk e t = some (.bool b)) (hb : (b == want) = false) (hn : Nat.blt d n = true)
    (h : G n ds ((d, undef) :: e) H (wpListIn (fw r) 0 P ops Q rest)) : G n ds e H (wpListIn (fw r) 0 P ops Q (⟨some d, op, ty, pos, after, some (j, want)⟩ :: rest)) := Z7 rfl rfl hj ht hb hn h
end
section
variable {n : Nat} {ds : List Deferred} {e : EnvL} {w0 : World} {M : List Nat} {S : List (Nat × Obj)} {vs : List VR} {ro : List Sg} {P : Program} {Q : Exit → Act → World → Prop} {r : Option Nat} {ops : Array Oper} {rest : List Oper} {d : Nat} {v : Value} {ty : TypeId} {pos : String} {after : Array Edge} {t T : TypeId} {x : Operand} {b o : Nat} {cs : Array Value} {fr : Nat × Nat} {us : List Value}
theorem kG (us : List Value) (i : Nat) (hg' : ∀ w, (isAgg t).run P w = .ok true w) (hz : ∀ w, (sizeOf t).run P w = .ok us.length w) (hx : ev e x = some (ptr b o)) (hn : Nat.blt d n = true) (hi : S[i]? = some (b, .cells cs T fr)) (hv : (cs.toList.drop o).take us.length = us) (h : G n ds ((d, .agg us.toArray) :: e) (HV w0 M S vs ro) (wpListIn (fw r) 0 P ops Q rest)) : G n ds e (HV w0 M S vs ro) (wpListIn (fw r) 0 P ops Q (⟨some d, .load t x, ty, pos, after, none⟩ :: rest)) := jc rfl rfl hn (fun w hh => kl (vs := us) (hg' w) (hz w) hx (hh.cells i hi hv)) h
theorem roR {w : World} {S0 : List (Nat × Obj)} {vs0 : List VR} {s : Sg} {ro' : List Sg} (h : HV w0 M (S0 ++ S) (vs0 ++ vs) ro w) (i : Nat) (hi : ro[i]? = some s) (hr : ∀ t, t ∈ ro' → segOK w t ∧ (t.2.2 ≠ [] → t.1 ∉ keys S0 vs0)) : ∀ t, t ∈ s :: ro' → segOK w t ∧ (t.2.2 ≠ [] → t.1 ∉ keys S0 vs0) := roC (h.rsep i hi) hr
end
theorem hsE {w0 : World} {M : List Nat} {S S' : List (Nat × Obj)} {vs vs' : List VR} {ro ro' : List Sg} (iS iV : List Nat) (k : Nat) (hn : (ndB iS && ndB iV) = true) (hS : iS.map (fun i => S[i]?) = S'.map some) (hV : iV.map (fun i => vs[i]?) = vs'.map some) (hr : ro.drop k = ro') : ∀ w, HV w0 M S vs ro w → HV w0 M S' vs' ro' w := fun _ h => h.se iS iV k hn hS hV hr
section
variable {n : Nat} {ds : List Deferred} {e : EnvL} {P : Program} {r : Option Nat} {ops : Array Oper} {C : World → Prop} {X : Act → World → Prop} {i d : Nat} {p : Plan} {v : Value} {ty : TypeId} {pos : String} {after : Array Edge} {H : World → Prop}
theorem kg {x : Operand} (ho : ops[i]? = some ⟨some d, .move x, ty, pos, after, none⟩) (hn : Nat.blt d n = true) (hx : ev e x = some v) (h : G n ds ((d, v) :: e) H (walk r P ops C X p)) : G n ds e H (walk r P ops C X (.free i p)) := jk ho rfl rfl hn (fun _ _ => qx hx) h
theorem kO {s T : TypeId} {x : Operand} {f b o sz : Nat} {fs : Array Field} (k : Nat) (hu : ∀ w, (underlying s).run P w = .ok (.struct fs) w) (hz : ∀ w, (sizeOf T).run P w = .ok (sz + 1) w) (ho : ops[i]? = some ⟨some d, .fieldAddr s x f, ty, pos, after, none⟩) (hf : (fs[f]?).map (fun fd => (fd.type, fd.offset)) = some (T, k)) (hn : Nat.blt d n = true) (hx : ev e x = some (ptr b o)) (h : G n ds ((d, ptr b (o + k)) :: e) H (walk r P ops C X p)) : G n ds e H (walk r P ops C X (.free i p)) := jk ho rfl rfl hn (fun w _ => ku k (hu w) hf (hz w) hx) h
theorem qq {w0 : World} {M : List Nat} {S : List (Nat × Obj)} {vs : List VR} {ro : List Sg} {t T : TypeId} {x : Operand} {b o : Nat} {cs : Array Value} {fr : Nat × Nat} (j : Nat) (hg' : ∀ w, (isAgg t).run P w = .ok false w) (ho : ops[i]? = some ⟨some d, .load t x, ty, pos, after, none⟩) (hx : ev e x = some (ptr b o)) (hn : Nat.blt d n = true) (hi : S[j]? = some (b, .cells cs T fr)) (hv : cs.toList[o]? = some v) (h : G n ds ((d, v) :: e) H (walk r P ops (HV w0 M S vs ro) X p)) : G n ds e H (walk r P ops (HV w0 M S vs ro) X (.hoist i p)) := jA ho rfl rfl hn (fun w hh => jY (hg' w) hx (hh.cell j hi hv)) h
end
theorem sj {α : Type} {a b : α} (h : some a = some b) : a = b := Option.some.inj h
theorem ifN {α : Type} {x : Bool} {a b r : α} (hx : x = false) (h : (if x = true then a else b) = r) : b = r := ifF (fun hh => Bool.noConfusion (hx.symm.trans hh)) h
theorem ifE {α : Type} {c : Prop} [Decidable c] {a b r : α} (hc : decide c = false) (h : (if c then a else b) = r) : b = r := ifF (of_decide_eq_false hc) h
theorem ifD {α : Type} {c : Prop} [Decidable c] {a b r : α} (hc : decide c = true) (h : (if c then a else b) = r) : a = r := ifT (of_decide_eq_true hc) h
end Go.Gx

namespace Go.Proofs.Ws
set_option maxHeartbeats 4000000
set_option maxRecDepth 100000
open Go Go.Fw Go.Gx Go.Sp
set_option linter.unusedVariables false
theorem JJ : (Try.prog.info? 3).map (fun i => (i.zero, i.size, i.bytes)) = some (some (.int .i64 0), 1, 8) := by kernel_rfl
theorem jaW : (Try.prog.info? 32).map (fun i => (i.zero, i.size, i.bytes)) = some (some (.slice none 0 0), 1, 24) := by kernel_rfl
theorem Kx : (Try.prog.info? 37).map (fun i => (i.zero, i.size, i.bytes)) = some (some (.agg #[.int .i64 0, .int .i64 0]), 2, 16) := by kernel_rfl
theorem Zs : (Try.prog.info? 77).map (fun i => (i.zero, i.size, i.bytes)) = some (some (.agg #[.int .i64 0, .int .i64 0, .int .i64 0, .int .i64 0, .int .i64 0, .int .i64 0, .int .i64 0]), 7, 56) := by kernel_rfl
theorem Zy : (Try.prog.info? 91).map (fun i => (i.zero, i.size, i.bytes)) = some (some (.int .i64 0), 1, 8) := by kernel_rfl
theorem YZ : (Try.prog.info? 170).map (fun i => (i.zero, i.size, i.bytes)) = some (some (.agg #[.int .i64 0, .int .i64 0, .int .i64 0, .int .i64 0, .int .i64 0, .int .i64 0]), 6, 48) := by kernel_rfl
theorem Y8 : (Try.prog.info? 178).map (fun i => (i.zero, i.size, i.bytes)) = some (some (.agg #[.int .i64 0, .bool false]), 2, 16) := by kernel_rfl
theorem jbb : (Try.prog.info? 37).map (fun i => i.size) = some 2 := by kernel_rfl
theorem jan : Try.prog.eqGuardType Try.prog.depth 172 = false := by decide +kernel
theorem Z3 : Try.prog.eqGuardType Try.prog.depth 37 = false := by decide +kernel
theorem ja3 : Try.prog.stoodInHeld 37 = false := by decide +kernel
theorem jaw (x y : Span) (w : World) : (Op.equalIn 10000 37 (.agg (RSp.cells x).toArray) (.agg (RSp.cells y).toArray)).run Try.prog w = .ok (decide (x = y)) w := by
  have h := equal_struct (xs := (RSp.cells x).toArray) (ys := (RSp.cells y).toArray) Try.underlying37 ja3 (.int rfl (fun w => Try.isAgg3 w) ⟨_, Try.underlying3⟩ rfl rfl (.int rfl (fun w => Try.isAgg3 w) ⟨_, Try.underlying3⟩ rfl rfl .nil)) w
  rw [h]
  congr 1
  cases x; cases y
  rw [Bool.eq_iff_iff]
  simp only [Bool.and_eq_true, decide_eq_true_eq, Span.mk.injEq, and_true]
theorem jas : Try.prog.stoodInHeld 128 = false := by decide +kernel
theorem ja1 (x y : Pair) (w : World) : (Op.equalIn 10000 128 (.agg (RPr.cells x).toArray) (.agg (RPr.cells y).toArray)).run Try.prog w = .ok (decide (x = y)) w := by
  have h := equal_struct (xs := (RPr.cells x).toArray) (ys := (RPr.cells y).toArray) Try.underlying128 jas (.int rfl (fun w => Try.isAgg3 w) ⟨_, Try.underlying3⟩ rfl rfl (.int rfl (fun w => Try.isAgg3 w) ⟨_, Try.underlying3⟩ rfl rfl .nil)) w
  rw [h]
  congr 1
  cases x; cases y
  rw [Bool.eq_iff_iff]
  simp only [Bool.and_eq_true, decide_eq_true_eq, Pair.mk.injEq, and_true]
theorem Y1 : KeyOK Try.prog 128 (kR RPr) := KeyOK.row RPr (fun w => Try.runUnderlying128 w) (fun x => (.int (fun w => Try.isAgg3 w) (fun w => Try.runUnderlying3 w) rfl (.int (fun w => Try.isAgg3 w) (fun w => Try.runUnderlying3 w) rfl .nil))) ja1 (fun x => by cases x; simp [RPr, Instr.sameBits])
def yv (lo0 : Int) (hi1 : Int) : Option Scalps :=
 some (⟨[(⟨0, (⟨10, 10⟩ : Span), (⟨0, 0⟩ : Span), (⟨0, 0⟩ : Span)⟩ : Strip), (⟨1, (⟨10, 10⟩ : Span), (⟨0, 0⟩ : Span), (⟨4, 6⟩ : Span)⟩ : Strip), (⟨0, (⟨10, 10⟩ : Span), (⟨0, 0⟩ : Span), (⟨0, 0⟩ : Span)⟩ : Strip)], [(⟨lo0, hi1⟩ : Span), (⟨0, 3⟩ : Span)]⟩ : Scalps)
theorem zT (lo0 : Int) (hi1 : Int)  (w : World) (hw : HV w (keys [] []) [] [] [] w)  {res : Scalps} (hm : yv lo0 hi1 = some res) :
    Calls Try.prog 75 #[.int .i64 lo0, .int .i64 hi1] w (fun en w' => ∃ l : VL × VL, en = .returned (.agg #[slv l.1.q l.1.n l.1.cap, slv l.2.q l.2.n l.2.cap]) ∧ (VOK 7 l.1.n l.1.cap (RSt.enc res.strips) l.1.sp l.1.q ∧ VOK 2 l.2.n l.2.cap (RSp.enc res.carried) l.2.sp l.2.q) ∧ HV w (keys [] []) [] [⟨77, RSt.enc res.strips, l.1.sp, l.1.q, []⟩, ⟨37, RSp.enc res.carried, l.2.sp, l.2.q, []⟩] [] w') := by
  unfold yv at hm
  refine kb Try.func75 rfl Try.ntmps75 rfl (e := [(0, _), (1, _)]) rfl hw (jp ?_)
  refine jt (fun w => Try.zeroValue28 w) rfl (fun b h3 => ?_)
  refine j1 (jc rfl rfl rfl (fun _ _ => jG (vs := [(0, _), (1, _)]) (cells := [_, _]) rfl rfl) ?_)
  refine jt (fun w => Try.zeroValue37 w) rfl (fun b_1 h4 => ?_)
  refine jE (us := #[_, _]) (cs' := [_, _]) (S' := [_, _]) 0 (fun w => Try.sizeOf37 w) rfl rfl rfl rfl rfl rfl rfl (j1 (kG [_, _] 0 Try.isAgg37 Try.sizeOf37 rfl rfl rfl rfl (jc rfl rfl rfl (fun _ _ => jG (vs := [(1, _)]) (cells := [_, _, _, _, _, _, _]) rfl rfl) (kG [_, _] 0 Try.isAgg37 Try.sizeOf37 rfl rfl rfl rfl (jc rfl rfl rfl (fun _ _ => jG (vs := [(0, _), (1, _)]) (cells := [_, _]) rfl rfl) (jc rfl rfl rfl (fun _ _ => jG (vs := [(0, _), (1, _), (3, _)]) (cells := [_, _, _, _, _, _, _]) rfl rfl) (kG [_, _] 0 Try.isAgg37 Try.sizeOf37 rfl rfl rfl rfl ?_)))))))
  refine jc rfl rfl rfl (fun _ _ => jG (vs := [(1, _)]) (cells := [_, _, _, _, _, _, _]) rfl rfl) ?_
  refine kW RSt [(⟨0, (⟨10, 10⟩ : Span), (⟨0, 0⟩ : Span), (⟨0, 0⟩ : Span)⟩ : Strip), (⟨1, (⟨10, 10⟩ : Span), (⟨0, 0⟩ : Span), (⟨4, 6⟩ : Span)⟩ : Strip), (⟨0, (⟨10, 10⟩ : Span), (⟨0, 0⟩ : Span), (⟨0, 0⟩ : Span)⟩ : Strip)] (ps := [(0, _), (1, _), (2, _)]) (cells := [_, _, _, _, _, _, _, _, _, _, _, _, _, _, _, _, _, _, _, _, _]) (fun w => Try.runUnderlying25 w) (fun w => Try.sizeOf77 w) (fun w => Try.zeroValue77 w) rfl rfl rfl rfl rfl rfl rfl rfl (fun L h5 => ?_)
  refine jf rfl rfl (jf rfl rfl (jc rfl rfl rfl (fun _ _ => jG (vs := [(0, _), (1, _)]) (cells := [_, _]) rfl rfl) (jc rfl rfl rfl (fun _ _ => jG (vs := [(1, _)]) (cells := [_, _]) rfl rfl) ?_)))
  refine kW RSp [(⟨lo0, hi1⟩ : Span), (⟨0, 3⟩ : Span)] (ps := [(0, _), (1, _)]) (cells := [_, _, _, _]) (fun w => Try.runUnderlying26 w) (fun w => Try.sizeOf37 w) (fun w => Try.zeroValue37 w) rfl rfl rfl rfl rfl rfl rfl rfl (fun L_1 h6 => ?_)
  refine jc rfl rfl rfl (fun _ _ => jG (vs := [(0, _), (1, _)]) (cells := [_, _]) rfl rfl) (jE (us := #[_, _]) (cs' := [_, _]) (S' := [_, _]) 1 (fun w => Try.sizeOf28 w) rfl rfl rfl rfl rfl rfl rfl (jo (jw ?_)))
  obtain rfl := sj hm
  refine jn rfl (fun w hh => (.cell rfl (loadVar_agg (vs := [_, _]) (Try.isAgg28 _) (Try.sizeOf28 _) (hh.cells 1 rfl rfl)) .nil)) (fun w hh => ⟨(L, L_1), rfl, ⟨h5, h6⟩, hh.se [] [1, 0] 0 rfl rfl rfl rfl⟩)
def K8 (n0 : Int) (lo1 : Int) (hi2 : Int) : Option Bool :=
 (if lo1 ≤ n0 then
 (some (decide (n0 ≤ hi2))) else
 (some false)).bind fun o =>
 some o
theorem Yo (n0 : Int) (lo1 : Int) (hi2 : Int)  (w : World) (hw : HV w (keys [] []) [] [] [] w)  {res : Bool} (hm : K8 n0 lo1 hi2 = some res) :
    Calls Try.prog 57 #[.int .i64 n0, .int .i64 lo1, .int .i64 hi2] w (fun en w' => ∃ l : Unit, en = .returned (.bool res) ∧ (True) ∧ HV w (keys [] []) [] [] [] w') := by
  unfold K8 at hm
  refine kb Try.func57 rfl Try.ntmps57 rfl (e := [(0, _), (1, _), (2, _)]) rfl hw (jp (jm rfl rfl (jo (jj ?_))))
  obtain ⟨o, h1, h2⟩ := bindO hm
  refine jC (ι := Unit) (fun l => True) (fun l => [(6, .bool o)]) (fun l => []) (fun l => []) ?_ ?_
  ·replace hm := h1
   refine jh (jf rfl rfl (jf rfl rfl (jc rfl rfl rfl (fun _ _ => QH rfl rfl) (jf rfl rfl ?_))))
   refine jD 10 rfl (fun h3 => ?_) (fun h3 => ?_)
   ·replace hm := ifD h3 hm
    refine ja rfl rfl (jf rfl rfl (ja rfl rfl (jf rfl rfl (ja rfl rfl (jc rfl rfl rfl (fun _ _ => YT rfl rfl) (j3 rfl rfl rfl (jm rfl rfl ?_)))))))
    refine jv ?_
    obtain rfl := sj hm
    exact jg () (trivial) (sE rfl) (fun w hh => hh)
   ·replace hm := ifE h3 hm
    refine g_k rfl rfl rfl rfl (g_k rfl rfl rfl rfl (g_k rfl rfl rfl rfl (ki rfl rfl rfl (jm rfl rfl (jv ?_)))))
    obtain rfl := sj hm
    exact jg () (trivial) (sE rfl) (fun w hh => hh)
  ·intro l hj
   replace hm := h2
   refine jb (jw ?_)
   obtain rfl := sj hm
   refine jn rfl (fun w hh => (.tmp rfl .nil)) (fun w hh => ⟨(), rfl, trivial, hh⟩)
def Jq (s0 : (List Span)) : Option (List Span) :=
 if 0 < (s0.length : Int) then ((appc 16 [] s0).bind fun t7 =>
 some t7) else none
theorem YV (s0 : (List Span)) (qa0 : Option Addr) (na0 ca0 : Nat) (w : World) (hw : HV w (keys [] []) [] [] [(aB qa0, aO qa0, RSp.enc s0)] w) (hna0 : s0.length = na0) (hqa0 : AOK na0 qa0) (hla0 : na0 ≤ ca0) {res : (List Span)} (hm : Jq s0 = some res) :
    Calls Try.prog 113 #[.slice qa0 na0 ca0] w (fun en w' => ∃ l : VL, en = .returned (slv l.q l.n l.cap) ∧ (VOK 2 l.n l.cap (RSp.enc res) l.sp l.q) ∧ HV w (keys [] []) [] [⟨37, RSp.enc res, l.sp, l.q, []⟩] [] w') := by
  unfold Jq at hm
  refine kb Try.func113 rfl Try.ntmps113 rfl (e := [(0, _)]) rfl hw (jp (jc rfl rfl rfl (fun _ _ => qj rfl) (jo (jj (jp (jf rfl rfl ?_))))))
  obtain ⟨h2, hm⟩ := ifO hm
  refine jc rfl rfl rfl (fun w _ => Zv hqa0 (len_posN hna0 h2) (Try.runUnderlying26 w) rfl rfl) (jo (qO rfl rfl (jr (jb (jp ?_)))))
  refine ZB RSp (fun w => Try.runUnderlying26 w) (fun w => Try.sizeOf37 w) rfl rfl (fun L h3 => ?_)
  refine jf rfl rfl ?_
  obtain ⟨t7, h4, hm⟩ := bindO hm
  refine y4 RSp 0 h4 Try.underlying26 Kx rfl rfl rfl rfl rfl h3 rfl rfl hna0 hqa0 (fun w hh => (hh.seg 0 rfl)) rfl (fun L_1 h5 h5n => ?_)
  refine jS (S' := []) (vs' := [_]) [] [0] 0 rfl rfl rfl rfl (jm rfl rfl (jo (jw ?_)))
  obtain rfl := sj hm
  refine jn rfl (fun w hh => (.tmp rfl .nil)) (fun w hh => ⟨L_1, rfl, h5, hh.se [] [0] 1 rfl rfl rfl rfl⟩)
structure qr where
  t12 : Int
  out3 : (List Span)
def kx (s0 : Scalps) (s : qr) : Option (qr ⊕ (List Span)) :=
 if s.t12 < (s0.strips.length : Int) then
 ((ix s0.strips s.t12).bind fun t14 =>
 (appc 16 s.out3 [(⟨t14.lay.lo, t14.lay.hi⟩ : Span), (⟨t14.seeded.lo, t14.seeded.hi⟩ : Span), (⟨t14.left.lo, t14.left.hi⟩ : Span)]).bind fun t24 =>
 (addc s.t12 1).bind fun t25 =>
 some (.inl (⟨t25, t24⟩ : qr))) else
 (some (.inr s.out3))
def kF (s0 : Scalps) : Option (List Span) :=
 (Jq s0.carried).bind fun t8 =>
 (iterM FU (kx s0) (⟨0, t8⟩ : qr)).bind fun o =>
 some o
theorem KO (s0 : Scalps) (qa0 : Option Addr) (na0 ca0 : Nat) (qa1 : Option Addr) (na1 ca1 : Nat) (w : World) (hw : HV w (keys [] []) [] [] [(aB qa0, aO qa0, RSt.enc s0.strips), (aB qa1, aO qa1, RSp.enc s0.carried)] w) (hna0 : s0.strips.length = na0) (hqa0 : AOK na0 qa0) (hla0 : na0 ≤ ca0) (hna1 : s0.carried.length = na1) (hqa1 : AOK na1 qa1) (hla1 : na1 ≤ ca1) {res : (List Span)} (hm : kF s0 = some res) :
    Calls Try.prog 59 #[.agg #[.slice qa0 na0 ca0, .slice qa1 na1 ca1]] w (fun en w' => ∃ l : VL, en = .returned (slv l.q l.n l.cap) ∧ (VOK 2 l.n l.cap (RSp.enc res) l.sp l.q) ∧ HV w (keys [] []) [] [⟨37, RSp.enc res, l.sp, l.q, []⟩] [] w') := by
  unfold kF at hm
  refine kb Try.func59 rfl Try.ntmps59 rfl (e := [(0, _)]) rfl hw (jp ?_)
  refine jH rfl rfl (fun b h2 => ?_)
  refine jc rfl rfl rfl (fun _ _ => qj rfl) (j1 (jL 1 Try.runUnderlying28 rfl Try.sizeOf26 rfl rfl (jU 0 Try.isAgg26 rfl rfl rfl rfl ?_)))
  obtain ⟨t8, h3, hm⟩ := bindO hm
  refine jd [] [] rfl rfl rfl rfl rfl rfl rfl Try.call113 (fun w hh => YV s0.carried qa1 na1 ca1 w (HV.callee (S0 := []) (vs0 := []) hh (roR hh 1 rfl roN)) hna1 hqa1 hla1 h3) (fun l h4 => ?_)
  have h5 := h4
  refine jS (S' := [_]) (vs' := [_]) [0] [0] 0 rfl rfl rfl rfl (jm rfl rfl (jo (jj (jp (jL 0 Try.runUnderlying28 rfl Try.sizeOf25 rfl rfl (jU 0 Try.isAgg25 rfl rfl rfl rfl (jc rfl rfl rfl (fun w _ => jB hna0 (Try.runUnderlying25 w) rfl) ?_)))))))
  refine jf rfl rfl (jo ?_)
  obtain ⟨o, h6, h7⟩ := bindO hm
  refine jC (ι := VL) (fun l_1 => VOK 2 l_1.n l_1.cap (RSp.enc o) l_1.sp l_1.q) (fun l_1 => [(3, slv l_1.q l_1.n l_1.cap)]) (fun l_1 => [(b, .cells #[.slice qa0 na0 ca0, .slice qa1 na1 ca1] 28 (0, 0))]) (fun l_1 => [⟨37, RSp.enc o, l_1.sp, l_1.q, []⟩]) ?_ ?_
  ·replace hm := h6
   refine jl ?_
   refine jF (ι := VL) hm (fun s l_2 => VOK 2 l_2.n l_2.cap (RSp.enc s.out3) l_2.sp l_2.q) (fun s l_2 => [(3, slv l_2.q l_2.n l_2.cap), (10, .slice qa0 na0 ca0), (11, .int .i64 (s0.strips.length : Int)), (12, .int .i64 s.t12)]) (fun s l_2 => [(b, .cells #[.slice qa0 na0 ca0, .slice qa1 na1 ca1] 28 (0, 0))]) (fun s l_2 => [⟨37, RSp.enc s.out3, l_2.sp, l_2.q, []⟩]) l (h5) (sE rfl) (fun w hh => hh) (fun s l_2 r hpl hm h10 => ?_)
   have h9 := hpl
   unfold kx at hm
   refine jp (qv rfl rfl rfl (jo (jj ?_)))
   refine jq rfl (fun h11 => ?_) (fun h11 => ?_)
   ·replace hm := ifD h11 hm
    refine jr (jb (jj (jl (jp ?_))))
    obtain ⟨t14, h12, hm⟩ := bindO hm
    refine jc rfl rfl rfl (fun w _ => jW h12 (Try.runUnderlying25 w) (Try.sizeOf77 w) rfl rfl hna0 hqa0) ?_
    refine jc rfl rfl rfl (fun w hh => kk RSt 0 [.int .i64 t14.tenant, .int .i64 t14.lay.lo, .int .i64 t14.lay.hi, .int .i64 t14.seeded.lo, .int .i64 t14.seeded.hi, .int .i64 t14.left.lo, .int .i64 t14.left.hi] h12 (Try.isAgg77 w) (Try.sizeOf77 w) rfl (hh.seg 0 rfl) rfl (Nat.add_zero _).symm) ?_
    refine jt (fun w => Try.zeroValue77 w) rfl (fun b_1 h13 => ?_)
    refine jE (us := #[_, _, _, _, _, _, _]) (cs' := [_, _, _, _, _, _, _]) (S' := [_, _]) 0 (fun w => Try.sizeOf77 w) rfl rfl rfl rfl rfl rfl rfl (jo (jh (jf rfl rfl (jL 1 Try.runUnderlying77 rfl Try.sizeOf37 rfl rfl (kG [_, _] 0 Try.isAgg37 Try.sizeOf37 rfl rfl rfl rfl (jL 3 Try.runUnderlying77 rfl Try.sizeOf37 rfl rfl (kG [_, _] 0 Try.isAgg37 Try.sizeOf37 rfl rfl rfl rfl ?_)))))))
    refine jL 5 Try.runUnderlying77 rfl Try.sizeOf37 rfl rfl (kG [_, _] 0 Try.isAgg37 Try.sizeOf37 rfl rfl rfl rfl ?_)
    refine kW RSp [(⟨t14.lay.lo, t14.lay.hi⟩ : Span), (⟨t14.seeded.lo, t14.seeded.hi⟩ : Span), (⟨t14.left.lo, t14.left.hi⟩ : Span)] (ps := [(0, _), (1, _), (2, _)]) (cells := [_, _, _, _, _, _]) (fun w => Try.runUnderlying26 w) (fun w => Try.sizeOf37 w) (fun w => Try.zeroValue37 w) rfl rfl rfl rfl rfl rfl rfl rfl (fun L h14 => ?_)
    obtain ⟨t24, h15, hm⟩ := bindO hm
    refine y4 RSp 1 h15 Try.underlying26 Kx rfl rfl rfl rfl rfl h9 rfl rfl (vlen RSp h14 rfl) (AOK.q (vne h14)) (fun w hh => (hh.vsegA 0 rfl h14)) rfl (fun L_1 h16 h16n => ?_)
    refine jS (S' := [_, _]) (vs' := [_, _]) [0, 1] [0, 1] 0 rfl rfl rfl rfl (jm rfl rfl (jv (js (jb (jh ?_)))))
    obtain ⟨t25, h17, hm⟩ := bindO hm
    refine kt h17 rfl rfl rfl (jf rfl rfl (jv ?_))
    obtain rfl := sj hm
    refine jb ?_
    exact jy _ L_1 rfl (h16) (sE rfl) (hsE [1] [1] 0 rfl rfl rfl rfl)
   ·replace hm := ifE h11 hm
    refine jM (ji (ji (jz ?_)))
    obtain rfl := sj hm
    have hbo := h10 _ rfl
    subst hbo
    exact jg l_2 (h9) (sE rfl) (fun w hh => hh)
  ·intro l_1 hj
   have h8 := hj
   replace hm := h7
   refine jb (jp (jf rfl rfl (jm rfl rfl (jo (jw ?_)))))
   obtain rfl := sj hm
   refine jn rfl (fun w hh => (.tmp rfl .nil)) (fun w hh => ⟨l_1, rfl, h8, hh.se [] [0] 2 rfl rfl rfl rfl⟩)
def zA (x0 : Span) : Option Bool :=
 ((K8 x0.lo 0 30).bind fun t5 =>
 if t5 = true then
 ((K8 x0.hi 0 30).bind fun t9 =>
 some t9) else
 (some false)).bind fun o =>
 some o
theorem Yx (x0 : Span)  (w : World) (hw : HV w (keys [] []) [] [] [] w)  {res : Bool} (hm : zA x0 = some res) :
    Calls Try.prog 54 #[.agg #[.int .i64 x0.lo, .int .i64 x0.hi]] w (fun en w' => ∃ l : Unit, en = .returned (.bool res) ∧ (True) ∧ HV w (keys [] []) [] [] [] w') := by
  unfold zA at hm
  refine kb Try.func54 rfl Try.ntmps54 rfl (e := [(0, _)]) rfl hw (jp ?_)
  refine jH rfl rfl (fun b h1 => ?_)
  refine jm rfl rfl (jo (jj ?_))
  obtain ⟨o, h2, h3⟩ := bindO hm
  refine jC (ι := Unit) (fun l => True) (fun l => [(2, .bool o)]) (fun l => [(b, .cells #[.int .i64 x0.lo, .int .i64 x0.hi] 37 (0, 0))]) (fun l => []) ?_ ?_
  ·replace hm := h2
   refine jh (jL 0 Try.runUnderlying37 rfl Try.sizeOf3 rfl rfl (jU 0 Try.isAgg3 rfl rfl rfl rfl ?_))
   obtain ⟨t5, h4, hm⟩ := bindO hm
   refine jd [] [] rfl rfl rfl rfl rfl rfl rfl Try.call57 (fun w hh => Yo x0.lo 0 30 w (HV.callee (S0 := []) (vs0 := []) hh roN)  h4) (fun l_1 h5 => ?_)
   refine jf rfl rfl ?_
   refine jD 6 rfl (fun h6 => ?_) (fun h6 => ?_)
   ·replace hm := ifT (h6) hm
    refine ja rfl rfl (jL 1 Try.runUnderlying37 rfl Try.sizeOf3 rfl rfl (ja rfl rfl (jU 0 Try.isAgg3 rfl rfl rfl rfl (ja rfl rfl ?_))))
    obtain ⟨t9, h7, hm⟩ := bindO hm
    refine jd [] [] rfl rfl rfl rfl rfl rfl rfl Try.call57 (fun w hh => Yo x0.hi 0 30 w (HV.callee (S0 := []) (vs0 := []) hh roN)  h7) (fun l_2 h8 => ?_)
    refine j3 rfl rfl rfl (jm rfl rfl (jv ?_))
    obtain rfl := sj hm
    exact jg () (trivial) (sE rfl) (fun w hh => hh)
   ·replace hm := ifN h6 hm
    refine g_k rfl rfl rfl rfl (g_k rfl rfl rfl rfl (g_k rfl rfl rfl rfl (ki rfl rfl rfl (jm rfl rfl (jv ?_)))))
    obtain rfl := sj hm
    exact jg () (trivial) (sE rfl) (fun w hh => hh)
  ·intro l hj
   replace hm := h3
   refine jb (jw ?_)
   obtain rfl := sj hm
   refine jn rfl (fun w hh => (.tmp rfl .nil)) (fun w hh => ⟨(), rfl, trivial, hh.se [] [] 0 rfl rfl rfl rfl⟩)
def kp (x0 : Span) : Option Bool :=
 (zA x0).bind fun t6 =>
 some (!t6)
theorem Qn (x0 : Span) (rb : Nat) (w : World) (hw : HV w (keys [] []) [] [] [(rb, 0, [.func (.func 54) #[] #[]])] w)  {res : Bool} (hm : kp x0 = some res) :
    Calls Try.prog 112 #[.agg #[.int .i64 x0.lo, .int .i64 x0.hi], ptr rb 0] w (fun en w' => ∃ l : Unit, en = .returned (.bool res) ∧ (True) ∧ HV w (keys [] []) [] [] [] w') := by
  unfold kp at hm
  refine kb Try.func112 rfl Try.ntmps112 rfl (e := [(0, _), (1, _)]) rfl hw (jp ?_)
  refine jH rfl rfl (fun b h1 => ?_)
  refine jm rfl rfl (j1 (jc rfl rfl rfl (fun w hh => jY (Try.isAgg106 w) rfl (segCell (hh.seg 0 rfl) 0 rfl)) (kG [_, _] 0 Try.isAgg37 Try.sizeOf37 rfl rfl rfl rfl ?_)))
  obtain ⟨t6, h2, hm⟩ := bindO hm
  refine jd [] [] rfl rfl rfl rfl rfl rfl rfl Try.call54 (fun w hh => Yx x0 w (HV.callee (S0 := []) (vs0 := []) hh roN)  h2) (fun l h3 => ?_)
  refine jc rfl rfl rfl (fun _ _ => kq rfl) (jm rfl rfl (jo (jw ?_)))
  obtain rfl := sj hm
  refine jn rfl (fun w hh => (.tmp rfl .nil)) (fun w hh => ⟨(), rfl, trivial, hh.se [] [] 1 rfl rfl rfl rfl⟩)
def yn (s0 : (List Span)) (s : Int) : Option (Int ⊕ (Unit ⊕ Int)) :=
 if s < (s0.length : Int) then
 ((ix s0 s).bind fun t14 =>
 (kp t14).bind fun t16 =>
 if t16 = true then
 (some (.inr (.inr s))) else
 ((addc s 1).bind fun t18 =>
 some (.inl t18))) else
 (some (.inr (.inl ())))
def q4 (s0 : (List Span)) : Option Int :=
 (iterM FU (yn s0) 0).bind fun o =>
 oc o (fun j => some (-1)) (fun r_1 => some r_1)
theorem QT (s0 : (List Span)) (qa0 : Option Addr) (na0 ca0 : Nat) (rb : Nat) (w : World) (hw : HV w (keys [] []) [] [] [(aB qa0, aO qa0, RSp.enc s0), (rb, 0, [.func (.func 54) #[] #[]])] w) (hna0 : s0.length = na0) (hqa0 : AOK na0 qa0) (hla0 : na0 ≤ ca0)  {res : Int} (hm : q4 s0 = some res) :
    Calls Try.prog 141 #[.slice qa0 na0 ca0, .func (.func 112) #[] #[ptr rb 0]] w (fun en w' => ∃ l : Unit, en = .returned (.int .i64 res) ∧ (True) ∧ HV w (keys [] []) [] [] [] w') := by
  unfold q4 at hm
  refine kb Try.func141 rfl Try.ntmps141 rfl (e := [(0, _), (1, _)]) rfl hw (jp (jm rfl rfl (jo (jj (jp (jf rfl rfl (jc rfl rfl rfl (fun w _ => jB hna0 (Try.runUnderlying26 w) rfl) ?_)))))))
  refine jf rfl rfl (jo ?_)
  obtain ⟨o, h1, h2⟩ := bindO hm
  refine jC (ι := Unit) (fun j => o = .inl j) (fun j => []) (fun j => []) (fun j => []) ?_ ?_
  ·replace hm := h1
   refine jl ?_
   refine jF (ι := Unit) hm (fun s l => True) (fun s l => [(0, .slice qa0 na0 ca0), (1, .func (.func 112) #[] #[ptr rb 0]), (7, .int .i64 (s0.length : Int)), (8, .int .i64 s)]) (fun s l => []) (fun s l => []) () (trivial) (sE rfl) (fun w hh => hh) (fun s l r hpl hm h3 => ?_)
   unfold yn at hm
   refine jp (qv rfl rfl rfl (jo (jj ?_)))
   refine jq rfl (fun h4 => ?_) (fun h4 => ?_)
   ·replace hm := ifD h4 hm
    refine jr (jb (jj (jl (jp (jf rfl rfl (jm rfl rfl (j1 ?_)))))))
    refine jf rfl rfl (jf rfl rfl (jf rfl rfl ?_))
    obtain ⟨t14, h5, hm⟩ := bindO hm
    refine jc rfl rfl rfl (fun w _ => jW h5 (Try.runUnderlying26 w) (Try.sizeOf37 w) rfl rfl hna0 hqa0) ?_
    refine jc rfl rfl rfl (fun w hh => kk RSp 0 [.int .i64 t14.lo, .int .i64 t14.hi] h5 (Try.isAgg37 w) (Try.sizeOf37 w) rfl (hh.seg 0 rfl) rfl (Nat.add_zero _).symm) ?_
    obtain ⟨t16, h6, hm⟩ := bindO hm
    refine jd [] [] rfl rfl rfl rfl rfl rfl rfl Try.call112 (fun w hh => Qn t14 rb w (HV.callee (S0 := []) (vs0 := []) hh (roR hh 1 rfl roN))  h6) (fun l_1 h7 => ?_)
    refine jo ?_
    refine jq rfl (fun h8 => ?_) (fun h8 => ?_)
    ·replace hm := ifT (h8) hm
     refine jp (jf rfl rfl (jm rfl rfl (jo (jw (jx (je (je ?_)))))))
     refine jx ?_
     obtain rfl := sj hm
     have hbo := h3 _ rfl
     subst hbo
     refine je ?_
     replace hm := ocR h2
     refine je ?_
     obtain rfl := sj hm
     refine jn rfl (fun w hh => (.tmp rfl .nil)) (fun w hh => ⟨(), rfl, trivial, hh.se [] [] 2 rfl rfl rfl rfl⟩)
    ·replace hm := ifN h8 hm
     refine jr (js (jb (jh ?_)))
     obtain ⟨t18, h9, hm⟩ := bindO hm
     refine kt h9 rfl rfl rfl (jf rfl rfl (jv ?_))
     obtain rfl := sj hm
     refine jb ?_
     exact jy _ () rfl (trivial) (sE rfl) (fun w hh => hh)
   ·replace hm := ifE h4 hm
    refine jM (ji (ji (jz ?_)))
    obtain rfl := sj hm
    have hbo := h3 _ rfl
    subst hbo
    exact jg () (rfl) (.nil) (fun w hh => hh)
  ·intro j hj
   have h10 := hj
   subst h10
   replace hm := ocL h2
   refine jb (jp (jm rfl rfl (jo (jw ?_))))
   obtain rfl := sj hm
   refine jn rfl (fun w hh => (.tmp rfl .nil)) (fun w hh => ⟨(), rfl, trivial, hh.se [] [] 2 rfl rfl rfl rfl⟩)
def kS (s0 : (List Span)) : Option Bool :=
 (q4 s0).bind fun t7 =>
 some (decide (0 ≤ t7))
theorem Qp (s0 : (List Span)) (qa0 : Option Addr) (na0 ca0 : Nat) (rb : Nat) (w : World) (hw : HV w (keys [] []) [] [] [(aB qa0, aO qa0, RSp.enc s0), (rb, 0, [.func (.func 54) #[] #[]])] w) (hna0 : s0.length = na0) (hqa0 : AOK na0 qa0) (hla0 : na0 ≤ ca0)  {res : Bool} (hm : kS s0 = some res) :
    Calls Try.prog 111 #[.slice qa0 na0 ca0, .func (.func 112) #[] #[ptr rb 0]] w (fun en w' => ∃ l : Unit, en = .returned (.bool res) ∧ (True) ∧ HV w (keys [] []) [] [] [] w') := by
  unfold kS at hm
  refine kb Try.func111 rfl Try.ntmps111 rfl (e := [(0, _), (1, _)]) rfl hw (jp (jm rfl rfl (j1 (jf rfl rfl (jf rfl rfl ?_)))))
  obtain ⟨t7, h1, hm⟩ := bindO hm
  refine jd [] [] rfl rfl rfl rfl rfl rfl rfl Try.call141 (fun w hh => QT s0 qa0 na0 ca0 rb w (HV.callee (S0 := []) (vs0 := []) hh (roR hh 0 rfl (roR hh 1 rfl roN))) hna0 hqa0 hla0 h1) (fun l h2 => ?_)
  refine jc rfl rfl rfl (fun _ _ => QH rfl rfl) (jm rfl rfl (jo (jw ?_)))
  obtain rfl := sj hm
  refine jn rfl (fun w hh => (.tmp rfl .nil)) (fun w hh => ⟨(), rfl, trivial, hh.se [] [] 2 rfl rfl rfl rfl⟩)
def k6 (l0 : (List Span)) : Option Bool :=
 (kS l0).bind fun t7 =>
 some (!t7)
theorem QU (l0 : (List Span)) (qa0 : Option Addr) (na0 ca0 : Nat) (w : World) (hw : HV w (keys [] []) [] [] [(aB qa0, aO qa0, RSp.enc l0)] w) (hna0 : l0.length = na0) (hqa0 : AOK na0 qa0) (hla0 : na0 ≤ ca0) {res : Bool} (hm : k6 l0 = some res) :
    Calls Try.prog 58 #[.slice qa0 na0 ca0, .func (.func 54) #[] #[]] w (fun en w' => ∃ l : Unit, en = .returned (.bool res) ∧ (True) ∧ HV w (keys [] []) [] [] [] w') := by
  unfold k6 at hm
  refine kb Try.func58 rfl Try.ntmps58 rfl (e := [(0, _), (1, _)]) rfl hw (jp ?_)
  refine jH rfl rfl (fun b h1 => ?_)
  refine jm rfl rfl (j1 (jf rfl rfl (jc rfl rfl rfl (fun _ _ => jQ (u := #[]) (u' := #[_]) rfl rfl) ?_)))
  obtain ⟨t7, h2, hm⟩ := bindO hm
  refine jd [] [] rfl rfl rfl rfl rfl rfl rfl Try.call111 (fun w hh => Qp l0 qa0 na0 ca0 b w (HV.callee (S0 := []) (vs0 := []) hh (roR hh 0 rfl (roC (bsep (hh.bseg 0 rfl)) roN))) hna0 hqa0 hla0 h2) (fun l h3 => ?_)
  refine jc rfl rfl rfl (fun _ _ => kq rfl) (jm rfl rfl (jo (jw ?_)))
  obtain rfl := sj hm
  refine jn rfl (fun w hh => (.tmp rfl .nil)) (fun w hh => ⟨(), rfl, trivial, hh.se [] [] 1 rfl rfl rfl rfl⟩)
def kf (s0 : Scalps) (n1 : Int) : Option Bool :=
 (subc (s0.carried.length : Int) 1).bind fun t9 =>
 (K8 n1 0 t9).bind fun t10 =>
 some t10
theorem zB (s0 : Scalps) (n1 : Int) (qa0 : Option Addr) (na0 ca0 : Nat) (qa1 : Option Addr) (na1 ca1 : Nat) (w : World) (hw : HV w (keys [] []) [] [] [(aB qa0, aO qa0, RSt.enc s0.strips), (aB qa1, aO qa1, RSp.enc s0.carried)] w) (hna0 : s0.strips.length = na0) (hqa0 : AOK na0 qa0) (hla0 : na0 ≤ ca0) (hna1 : s0.carried.length = na1) (hqa1 : AOK na1 qa1) (hla1 : na1 ≤ ca1) {res : Bool} (hm : kf s0 n1 = some res) :
    Calls Try.prog 53 #[.agg #[.slice qa0 na0 ca0, .slice qa1 na1 ca1], .int .i64 n1] w (fun en w' => ∃ l : Unit, en = .returned (.bool res) ∧ (True) ∧ HV w (keys [] []) [] [] [] w') := by
  unfold kf at hm
  refine kb Try.func53 rfl Try.ntmps53 rfl (e := [(0, _), (1, _)]) rfl hw (jp ?_)
  refine jH rfl rfl (fun b h1 => ?_)
  refine jm rfl rfl (j1 (jf rfl rfl (jL 1 Try.runUnderlying28 rfl Try.sizeOf26 rfl rfl (jU 0 Try.isAgg26 rfl rfl rfl rfl (jc rfl rfl rfl (fun w _ => jB hna1 (Try.runUnderlying26 w) rfl) ?_)))))
  obtain ⟨t9, h2, hm⟩ := bindO hm
  refine jc rfl rfl rfl (fun _ _ => k9 h2 rfl rfl) ?_
  obtain ⟨t10, h3, hm⟩ := bindO hm
  refine jd [] [] rfl rfl rfl rfl rfl rfl rfl Try.call57 (fun w hh => Yo n1 0 t9 w (HV.callee (S0 := []) (vs0 := []) hh roN)  h3) (fun l h4 => ?_)
  refine jm rfl rfl (jo (jw ?_))
  obtain rfl := sj hm
  refine jn rfl (fun w hh => (.tmp rfl .nil)) (fun w hh => ⟨(), rfl, trivial, hh.se [] [] 2 rfl rfl rfl rfl⟩)
def KK (x0 : Strip) (a11_f0 : Scalps) : Option Bool :=
 (kf a11_f0 x0.tenant).bind fun t7 =>
 some t7
theorem Zw (x0 : Strip) (a11_f0 : Scalps) (rb : Nat) (qa1 : Option Addr) (na1 ca1 : Nat) (qa2 : Option Addr) (na2 ca2 : Nat) (w : World) (hw : HV w (keys [] []) [] [] [(rb, 0, [.func (.func 53) #[.agg #[.slice qa1 na1 ca1, .slice qa2 na2 ca2]] #[]]), (aB qa1, aO qa1, RSt.enc a11_f0.strips), (aB qa2, aO qa2, RSp.enc a11_f0.carried)] w)  (hna1 : a11_f0.strips.length = na1) (hqa1 : AOK na1 qa1) (hla1 : na1 ≤ ca1) (hna2 : a11_f0.carried.length = na2) (hqa2 : AOK na2 qa2) (hla2 : na2 ≤ ca2) {res : Bool} (hm : KK x0 a11_f0 = some res) :
    Calls Try.prog 61 #[.agg #[.int .i64 x0.tenant, .int .i64 x0.lay.lo, .int .i64 x0.lay.hi, .int .i64 x0.seeded.lo, .int .i64 x0.seeded.hi, .int .i64 x0.left.lo, .int .i64 x0.left.hi], ptr rb 0] w (fun en w' => ∃ l : Unit, en = .returned (.bool res) ∧ (True) ∧ HV w (keys [] []) [] [] [] w') := by
  unfold KK at hm
  refine kb Try.func61 rfl Try.ntmps61 rfl (e := [(0, _), (1, _)]) rfl hw (jp ?_)
  refine jH rfl rfl (fun b h1 => ?_)
  refine jm rfl rfl (j1 (jc rfl rfl rfl (fun w hh => jY (Try.isAgg71 w) rfl (segCell (hh.seg 0 rfl) 0 rfl)) (jL 0 Try.runUnderlying77 rfl Try.sizeOf3 rfl rfl (jU 0 Try.isAgg3 rfl rfl rfl rfl ?_))))
  obtain ⟨t7, h2, hm⟩ := bindO hm
  refine jd [] [] rfl rfl rfl rfl rfl rfl rfl Try.call53 (fun w hh => zB a11_f0 x0.tenant qa1 na1 ca1 qa2 na2 ca2 w (HV.callee (S0 := []) (vs0 := []) hh (roR hh 1 rfl (roR hh 2 rfl roN))) hna1 hqa1 hla1 hna2 hqa2 hla2 h2) (fun l h3 => ?_)
  refine jm rfl rfl (jo (jw ?_))
  obtain rfl := sj hm
  refine jn rfl (fun w hh => (.tmp rfl .nil)) (fun w hh => ⟨(), rfl, trivial, hh.se [] [] 3 rfl rfl rfl rfl⟩)
def ka (x0 : Strip) (a11_c0_f0 : Scalps) : Option Bool :=
 (KK x0 a11_c0_f0).bind fun t6 =>
 some (!t6)
theorem KG (x0 : Strip) (a11_c0_f0 : Scalps) (rb : Nat) (rb_1 : Nat) (qa2 : Option Addr) (na2 ca2 : Nat) (qa3 : Option Addr) (na3 ca3 : Nat) (w : World) (hw : HV w (keys [] []) [] [] [(rb, 0, [.func (.func 61) #[] #[ptr rb_1 0]]), (rb_1, 0, [.func (.func 53) #[.agg #[.slice qa2 na2 ca2, .slice qa3 na3 ca3]] #[]]), (aB qa2, aO qa2, RSt.enc a11_c0_f0.strips), (aB qa3, aO qa3, RSp.enc a11_c0_f0.carried)] w)   (hna2 : a11_c0_f0.strips.length = na2) (hqa2 : AOK na2 qa2) (hla2 : na2 ≤ ca2) (hna3 : a11_c0_f0.carried.length = na3) (hqa3 : AOK na3 qa3) (hla3 : na3 ≤ ca3) {res : Bool} (hm : ka x0 a11_c0_f0 = some res) :
    Calls Try.prog 115 #[.agg #[.int .i64 x0.tenant, .int .i64 x0.lay.lo, .int .i64 x0.lay.hi, .int .i64 x0.seeded.lo, .int .i64 x0.seeded.hi, .int .i64 x0.left.lo, .int .i64 x0.left.hi], ptr rb 0] w (fun en w' => ∃ l : Unit, en = .returned (.bool res) ∧ (True) ∧ HV w (keys [] []) [] [] [] w') := by
  unfold ka at hm
  refine kb Try.func115 rfl Try.ntmps115 rfl (e := [(0, _), (1, _)]) rfl hw (jp ?_)
  refine jH rfl rfl (fun b h1 => ?_)
  refine jm rfl rfl (j1 (jc rfl rfl rfl (fun w hh => jY (Try.isAgg113 w) rfl (segCell (hh.seg 0 rfl) 0 rfl)) (kG [_, _, _, _, _, _, _] 0 Try.isAgg77 Try.sizeOf77 rfl rfl rfl rfl ?_)))
  obtain ⟨t6, h2, hm⟩ := bindO hm
  refine jd [] [] rfl rfl rfl rfl rfl rfl rfl Try.call61 (fun w hh => Zw x0 a11_c0_f0 rb_1 qa2 na2 ca2 qa3 na3 ca3 w (HV.callee (S0 := []) (vs0 := []) hh (roR hh 1 rfl (roR hh 2 rfl (roR hh 3 rfl roN)))) hna2 hqa2 hla2 hna3 hqa3 hla3 h2) (fun l h3 => ?_)
  refine jc rfl rfl rfl (fun _ _ => kq rfl) (jm rfl rfl (jo (jw ?_)))
  obtain rfl := sj hm
  refine jn rfl (fun w hh => (.tmp rfl .nil)) (fun w hh => ⟨(), rfl, trivial, hh.se [] [] 4 rfl rfl rfl rfl⟩)
def ym (s0 : (List Strip)) (f1_c0_c0_f0 : Scalps) (s : Int) : Option (Int ⊕ (Unit ⊕ Int)) :=
 if s < (s0.length : Int) then
 ((ix s0 s).bind fun t14 =>
 (ka (⟨t14.tenant, (⟨t14.lay.lo, t14.lay.hi⟩ : Span), (⟨t14.seeded.lo, t14.seeded.hi⟩ : Span), (⟨t14.left.lo, t14.left.hi⟩ : Span)⟩ : Strip) f1_c0_c0_f0).bind fun t16 =>
 if t16 = true then
 (some (.inr (.inr s))) else
 ((addc s 1).bind fun t18 =>
 some (.inl t18))) else
 (some (.inr (.inl ())))
def q9 (s0 : (List Strip)) (f1_c0_c0_f0 : Scalps) : Option Int :=
 (iterM FU (ym s0 f1_c0_c0_f0) 0).bind fun o =>
 oc o (fun j => some (-1)) (fun r_1 => some r_1)
theorem QS (s0 : (List Strip)) (f1_c0_c0_f0 : Scalps) (qa0 : Option Addr) (na0 ca0 : Nat) (rb : Nat) (rb_1 : Nat) (qa3 : Option Addr) (na3 ca3 : Nat) (qa4 : Option Addr) (na4 ca4 : Nat) (w : World) (hw : HV w (keys [] []) [] [] [(aB qa0, aO qa0, RSt.enc s0), (rb, 0, [.func (.func 61) #[] #[ptr rb_1 0]]), (rb_1, 0, [.func (.func 53) #[.agg #[.slice qa3 na3 ca3, .slice qa4 na4 ca4]] #[]]), (aB qa3, aO qa3, RSt.enc f1_c0_c0_f0.strips), (aB qa4, aO qa4, RSp.enc f1_c0_c0_f0.carried)] w) (hna0 : s0.length = na0) (hqa0 : AOK na0 qa0) (hla0 : na0 ≤ ca0)   (hna3 : f1_c0_c0_f0.strips.length = na3) (hqa3 : AOK na3 qa3) (hla3 : na3 ≤ ca3) (hna4 : f1_c0_c0_f0.carried.length = na4) (hqa4 : AOK na4 qa4) (hla4 : na4 ≤ ca4) {res : Int} (hm : q9 s0 f1_c0_c0_f0 = some res) :
    Calls Try.prog 142 #[.slice qa0 na0 ca0, .func (.func 115) #[] #[ptr rb 0]] w (fun en w' => ∃ l : Unit, en = .returned (.int .i64 res) ∧ (True) ∧ HV w (keys [] []) [] [] [] w') := by
  unfold q9 at hm
  refine kb Try.func142 rfl Try.ntmps142 rfl (e := [(0, _), (1, _)]) rfl hw (jp (jm rfl rfl (jo (jj (jp (jf rfl rfl (jc rfl rfl rfl (fun w _ => jB hna0 (Try.runUnderlying25 w) rfl) ?_)))))))
  refine jf rfl rfl (jo ?_)
  obtain ⟨o, h1, h2⟩ := bindO hm
  refine jC (ι := Unit) (fun j => o = .inl j) (fun j => []) (fun j => []) (fun j => []) ?_ ?_
  ·replace hm := h1
   refine jl ?_
   refine jF (ι := Unit) hm (fun s l => True) (fun s l => [(0, .slice qa0 na0 ca0), (1, .func (.func 115) #[] #[ptr rb 0]), (7, .int .i64 (s0.length : Int)), (8, .int .i64 s)]) (fun s l => []) (fun s l => []) () (trivial) (sE rfl) (fun w hh => hh) (fun s l r hpl hm h3 => ?_)
   unfold ym at hm
   refine jp (qv rfl rfl rfl (jo (jj ?_)))
   refine jq rfl (fun h4 => ?_) (fun h4 => ?_)
   ·replace hm := ifD h4 hm
    refine jr (jb (jj (jl (jp (jf rfl rfl (jm rfl rfl (j1 ?_)))))))
    refine jf rfl rfl (jf rfl rfl (jf rfl rfl ?_))
    obtain ⟨t14, h5, hm⟩ := bindO hm
    refine jc rfl rfl rfl (fun w _ => jW h5 (Try.runUnderlying25 w) (Try.sizeOf77 w) rfl rfl hna0 hqa0) ?_
    refine jc rfl rfl rfl (fun w hh => kk RSt 0 [.int .i64 t14.tenant, .int .i64 t14.lay.lo, .int .i64 t14.lay.hi, .int .i64 t14.seeded.lo, .int .i64 t14.seeded.hi, .int .i64 t14.left.lo, .int .i64 t14.left.hi] h5 (Try.isAgg77 w) (Try.sizeOf77 w) rfl (hh.seg 0 rfl) rfl (Nat.add_zero _).symm) ?_
    obtain ⟨t16, h6, hm⟩ := bindO hm
    refine jd [] [] rfl rfl rfl rfl rfl rfl rfl Try.call115 (fun w hh => KG (⟨t14.tenant, (⟨t14.lay.lo, t14.lay.hi⟩ : Span), (⟨t14.seeded.lo, t14.seeded.hi⟩ : Span), (⟨t14.left.lo, t14.left.hi⟩ : Span)⟩ : Strip) f1_c0_c0_f0 rb rb_1 qa3 na3 ca3 qa4 na4 ca4 w (HV.callee (S0 := []) (vs0 := []) hh (roR hh 1 rfl (roR hh 2 rfl (roR hh 3 rfl (roR hh 4 rfl roN))))) hna3 hqa3 hla3 hna4 hqa4 hla4 h6) (fun l_1 h7 => ?_)
    refine jo ?_
    refine jq rfl (fun h8 => ?_) (fun h8 => ?_)
    ·replace hm := ifT (h8) hm
     refine jp (jf rfl rfl (jm rfl rfl (jo (jw (jx (je (je ?_)))))))
     refine jx ?_
     obtain rfl := sj hm
     have hbo := h3 _ rfl
     subst hbo
     refine je ?_
     replace hm := ocR h2
     refine je ?_
     obtain rfl := sj hm
     refine jn rfl (fun w hh => (.tmp rfl .nil)) (fun w hh => ⟨(), rfl, trivial, hh.se [] [] 5 rfl rfl rfl rfl⟩)
    ·replace hm := ifN h8 hm
     refine jr (js (jb (jh ?_)))
     obtain ⟨t18, h9, hm⟩ := bindO hm
     refine kt h9 rfl rfl rfl (jf rfl rfl (jv ?_))
     obtain rfl := sj hm
     refine jb ?_
     exact jy _ () rfl (trivial) (sE rfl) (fun w hh => hh)
   ·replace hm := ifE h4 hm
    refine jM (ji (ji (jz ?_)))
    obtain rfl := sj hm
    have hbo := h3 _ rfl
    subst hbo
    exact jg () (rfl) (.nil) (fun w hh => hh)
  ·intro j hj
   have h10 := hj
   subst h10
   replace hm := ocL h2
   refine jb (jp (jm rfl rfl (jo (jw ?_))))
   obtain rfl := sj hm
   refine jn rfl (fun w hh => (.tmp rfl .nil)) (fun w hh => ⟨(), rfl, trivial, hh.se [] [] 5 rfl rfl rfl rfl⟩)
def kU (s0 : (List Strip)) (f1_c0_c0_f0 : Scalps) : Option Bool :=
 (q9 s0 f1_c0_c0_f0).bind fun t7 =>
 some (decide (0 ≤ t7))
theorem Qo (s0 : (List Strip)) (f1_c0_c0_f0 : Scalps) (qa0 : Option Addr) (na0 ca0 : Nat) (rb : Nat) (rb_1 : Nat) (qa3 : Option Addr) (na3 ca3 : Nat) (qa4 : Option Addr) (na4 ca4 : Nat) (w : World) (hw : HV w (keys [] []) [] [] [(aB qa0, aO qa0, RSt.enc s0), (rb, 0, [.func (.func 61) #[] #[ptr rb_1 0]]), (rb_1, 0, [.func (.func 53) #[.agg #[.slice qa3 na3 ca3, .slice qa4 na4 ca4]] #[]]), (aB qa3, aO qa3, RSt.enc f1_c0_c0_f0.strips), (aB qa4, aO qa4, RSp.enc f1_c0_c0_f0.carried)] w) (hna0 : s0.length = na0) (hqa0 : AOK na0 qa0) (hla0 : na0 ≤ ca0)   (hna3 : f1_c0_c0_f0.strips.length = na3) (hqa3 : AOK na3 qa3) (hla3 : na3 ≤ ca3) (hna4 : f1_c0_c0_f0.carried.length = na4) (hqa4 : AOK na4 qa4) (hla4 : na4 ≤ ca4) {res : Bool} (hm : kU s0 f1_c0_c0_f0 = some res) :
    Calls Try.prog 114 #[.slice qa0 na0 ca0, .func (.func 115) #[] #[ptr rb 0]] w (fun en w' => ∃ l : Unit, en = .returned (.bool res) ∧ (True) ∧ HV w (keys [] []) [] [] [] w') := by
  unfold kU at hm
  refine kb Try.func114 rfl Try.ntmps114 rfl (e := [(0, _), (1, _)]) rfl hw (jp (jm rfl rfl (j1 (jf rfl rfl (jf rfl rfl ?_)))))
  obtain ⟨t7, h1, hm⟩ := bindO hm
  refine jd [] [] rfl rfl rfl rfl rfl rfl rfl Try.call142 (fun w hh => QS s0 f1_c0_c0_f0 qa0 na0 ca0 rb rb_1 qa3 na3 ca3 qa4 na4 ca4 w (HV.callee (S0 := []) (vs0 := []) hh (roR hh 0 rfl (roR hh 1 rfl (roR hh 2 rfl (roR hh 3 rfl (roR hh 4 rfl roN)))))) hna0 hqa0 hla0 hna3 hqa3 hla3 hna4 hqa4 hla4 h1) (fun l h2 => ?_)
  refine jc rfl rfl rfl (fun _ _ => QH rfl rfl) (jm rfl rfl (jo (jw ?_)))
  obtain rfl := sj hm
  refine jn rfl (fun w hh => (.tmp rfl .nil)) (fun w hh => ⟨(), rfl, trivial, hh.se [] [] 5 rfl rfl rfl rfl⟩)
def ko (l0 : (List Strip)) (holds1_c0_f0 : Scalps) : Option Bool :=
 (kU l0 holds1_c0_f0).bind fun t7 =>
 some (!t7)
theorem Qr (l0 : (List Strip)) (holds1_c0_f0 : Scalps) (qa0 : Option Addr) (na0 ca0 : Nat) (rb : Nat) (qa2 : Option Addr) (na2 ca2 : Nat) (qa3 : Option Addr) (na3 ca3 : Nat) (w : World) (hw : HV w (keys [] []) [] [] [(aB qa0, aO qa0, RSt.enc l0), (rb, 0, [.func (.func 53) #[.agg #[.slice qa2 na2 ca2, .slice qa3 na3 ca3]] #[]]), (aB qa2, aO qa2, RSt.enc holds1_c0_f0.strips), (aB qa3, aO qa3, RSp.enc holds1_c0_f0.carried)] w) (hna0 : l0.length = na0) (hqa0 : AOK na0 qa0) (hla0 : na0 ≤ ca0)  (hna2 : holds1_c0_f0.strips.length = na2) (hqa2 : AOK na2 qa2) (hla2 : na2 ≤ ca2) (hna3 : holds1_c0_f0.carried.length = na3) (hqa3 : AOK na3 qa3) (hla3 : na3 ≤ ca3) {res : Bool} (hm : ko l0 holds1_c0_f0 = some res) :
    Calls Try.prog 60 #[.slice qa0 na0 ca0, .func (.func 61) #[] #[ptr rb 0]] w (fun en w' => ∃ l : Unit, en = .returned (.bool res) ∧ (True) ∧ HV w (keys [] []) [] [] [] w') := by
  unfold ko at hm
  refine kb Try.func60 rfl Try.ntmps60 rfl (e := [(0, _), (1, _)]) rfl hw (jp ?_)
  refine jH rfl rfl (fun b h1 => ?_)
  refine jm rfl rfl (j1 (jf rfl rfl (jc rfl rfl rfl (fun _ _ => jQ (u := #[]) (u' := #[_]) rfl rfl) ?_)))
  obtain ⟨t7, h2, hm⟩ := bindO hm
  refine jd [] [] rfl rfl rfl rfl rfl rfl rfl Try.call114 (fun w hh => Qo l0 holds1_c0_f0 qa0 na0 ca0 b rb qa2 na2 ca2 qa3 na3 ca3 w (HV.callee (S0 := []) (vs0 := []) hh (roR hh 0 rfl (roC (bsep (hh.bseg 0 rfl)) (roR hh 1 rfl (roR hh 2 rfl (roR hh 3 rfl roN)))))) hna0 hqa0 hla0 hna2 hqa2 hla2 hna3 hqa3 hla3 h2) (fun l h3 => ?_)
  refine jc rfl rfl rfl (fun _ _ => kq rfl) (jm rfl rfl (jo (jw ?_)))
  obtain rfl := sj hm
  refine jn rfl (fun w hh => (.tmp rfl .nil)) (fun w hh => ⟨(), rfl, trivial, hh.se [] [] 4 rfl rfl rfl rfl⟩)
def Kw (x0 : Span) : Option Bool :=
 some (decide (x0.lo ≤ x0.hi))
theorem Zr (x0 : Span)  (w : World) (hw : HV w (keys [] []) [] [] [] w)  {res : Bool} (hm : Kw x0 = some res) :
    Calls Try.prog 62 #[.agg #[.int .i64 x0.lo, .int .i64 x0.hi]] w (fun en w' => ∃ l : Unit, en = .returned (.bool res) ∧ (True) ∧ HV w (keys [] []) [] [] [] w') := by
  unfold Kw at hm
  refine kb Try.func62 rfl Try.ntmps62 rfl (e := [(0, _)]) rfl hw (jp ?_)
  refine jH rfl rfl (fun b h1 => ?_)
  refine jm rfl rfl (j1 (jL 0 Try.runUnderlying37 rfl Try.sizeOf3 rfl rfl (jU 0 Try.isAgg3 rfl rfl rfl rfl (jL 1 Try.runUnderlying37 rfl Try.sizeOf3 rfl rfl (jU 0 Try.isAgg3 rfl rfl rfl rfl (jc rfl rfl rfl (fun _ _ => YT rfl rfl) (jm rfl rfl ?_)))))))
  refine jo (jw ?_)
  obtain rfl := sj hm
  refine jn rfl (fun w hh => (.tmp rfl .nil)) (fun w hh => ⟨(), rfl, trivial, hh.se [] [] 0 rfl rfl rfl rfl⟩)
def kd (x0 : Span) : Option Bool :=
 (Kw x0).bind fun t6 =>
 some (!t6)
theorem KT (x0 : Span) (rb : Nat) (w : World) (hw : HV w (keys [] []) [] [] [(rb, 0, [.func (.func 62) #[] #[]])] w)  {res : Bool} (hm : kd x0 = some res) :
    Calls Try.prog 112 #[.agg #[.int .i64 x0.lo, .int .i64 x0.hi], ptr rb 0] w (fun en w' => ∃ l : Unit, en = .returned (.bool res) ∧ (True) ∧ HV w (keys [] []) [] [] [] w') := by
  unfold kd at hm
  refine kb Try.func112 rfl Try.ntmps112 rfl (e := [(0, _), (1, _)]) rfl hw (jp ?_)
  refine jH rfl rfl (fun b h1 => ?_)
  refine jm rfl rfl (j1 (jc rfl rfl rfl (fun w hh => jY (Try.isAgg106 w) rfl (segCell (hh.seg 0 rfl) 0 rfl)) (kG [_, _] 0 Try.isAgg37 Try.sizeOf37 rfl rfl rfl rfl ?_)))
  obtain ⟨t6, h2, hm⟩ := bindO hm
  refine jd [] [] rfl rfl rfl rfl rfl rfl rfl Try.call62 (fun w hh => Zr x0 w (HV.callee (S0 := []) (vs0 := []) hh roN)  h2) (fun l h3 => ?_)
  refine jc rfl rfl rfl (fun _ _ => kq rfl) (jm rfl rfl (jo (jw ?_)))
  obtain rfl := sj hm
  refine jn rfl (fun w hh => (.tmp rfl .nil)) (fun w hh => ⟨(), rfl, trivial, hh.se [] [] 1 rfl rfl rfl rfl⟩)
def qP (s0 : (List Span)) (s : Int) : Option (Int ⊕ (Unit ⊕ Int)) :=
 if s < (s0.length : Int) then
 ((ix s0 s).bind fun t14 =>
 (kd t14).bind fun t16 =>
 if t16 = true then
 (some (.inr (.inr s))) else
 ((addc s 1).bind fun t18 =>
 some (.inl t18))) else
 (some (.inr (.inl ())))
def qt (s0 : (List Span)) : Option Int :=
 (iterM FU (qP s0) 0).bind fun o =>
 oc o (fun j => some (-1)) (fun r_1 => some r_1)
theorem Qw (s0 : (List Span)) (qa0 : Option Addr) (na0 ca0 : Nat) (rb : Nat) (w : World) (hw : HV w (keys [] []) [] [] [(aB qa0, aO qa0, RSp.enc s0), (rb, 0, [.func (.func 62) #[] #[]])] w) (hna0 : s0.length = na0) (hqa0 : AOK na0 qa0) (hla0 : na0 ≤ ca0)  {res : Int} (hm : qt s0 = some res) :
    Calls Try.prog 141 #[.slice qa0 na0 ca0, .func (.func 112) #[] #[ptr rb 0]] w (fun en w' => ∃ l : Unit, en = .returned (.int .i64 res) ∧ (True) ∧ HV w (keys [] []) [] [] [] w') := by
  unfold qt at hm
  refine kb Try.func141 rfl Try.ntmps141 rfl (e := [(0, _), (1, _)]) rfl hw (jp (jm rfl rfl (jo (jj (jp (jf rfl rfl (jc rfl rfl rfl (fun w _ => jB hna0 (Try.runUnderlying26 w) rfl) ?_)))))))
  refine jf rfl rfl (jo ?_)
  obtain ⟨o, h1, h2⟩ := bindO hm
  refine jC (ι := Unit) (fun j => o = .inl j) (fun j => []) (fun j => []) (fun j => []) ?_ ?_
  ·replace hm := h1
   refine jl ?_
   refine jF (ι := Unit) hm (fun s l => True) (fun s l => [(0, .slice qa0 na0 ca0), (1, .func (.func 112) #[] #[ptr rb 0]), (7, .int .i64 (s0.length : Int)), (8, .int .i64 s)]) (fun s l => []) (fun s l => []) () (trivial) (sE rfl) (fun w hh => hh) (fun s l r hpl hm h3 => ?_)
   unfold qP at hm
   refine jp (qv rfl rfl rfl (jo (jj ?_)))
   refine jq rfl (fun h4 => ?_) (fun h4 => ?_)
   ·replace hm := ifD h4 hm
    refine jr (jb (jj (jl (jp (jf rfl rfl (jm rfl rfl (j1 ?_)))))))
    refine jf rfl rfl (jf rfl rfl (jf rfl rfl ?_))
    obtain ⟨t14, h5, hm⟩ := bindO hm
    refine jc rfl rfl rfl (fun w _ => jW h5 (Try.runUnderlying26 w) (Try.sizeOf37 w) rfl rfl hna0 hqa0) ?_
    refine jc rfl rfl rfl (fun w hh => kk RSp 0 [.int .i64 t14.lo, .int .i64 t14.hi] h5 (Try.isAgg37 w) (Try.sizeOf37 w) rfl (hh.seg 0 rfl) rfl (Nat.add_zero _).symm) ?_
    obtain ⟨t16, h6, hm⟩ := bindO hm
    refine jd [] [] rfl rfl rfl rfl rfl rfl rfl Try.call112 (fun w hh => KT t14 rb w (HV.callee (S0 := []) (vs0 := []) hh (roR hh 1 rfl roN))  h6) (fun l_1 h7 => ?_)
    refine jo ?_
    refine jq rfl (fun h8 => ?_) (fun h8 => ?_)
    ·replace hm := ifT (h8) hm
     refine jp (jf rfl rfl (jm rfl rfl (jo (jw (jx (je (je ?_)))))))
     refine jx ?_
     obtain rfl := sj hm
     have hbo := h3 _ rfl
     subst hbo
     refine je ?_
     replace hm := ocR h2
     refine je ?_
     obtain rfl := sj hm
     refine jn rfl (fun w hh => (.tmp rfl .nil)) (fun w hh => ⟨(), rfl, trivial, hh.se [] [] 2 rfl rfl rfl rfl⟩)
    ·replace hm := ifN h8 hm
     refine jr (js (jb (jh ?_)))
     obtain ⟨t18, h9, hm⟩ := bindO hm
     refine kt h9 rfl rfl rfl (jf rfl rfl (jv ?_))
     obtain rfl := sj hm
     refine jb ?_
     exact jy _ () rfl (trivial) (sE rfl) (fun w hh => hh)
   ·replace hm := ifE h4 hm
    refine jM (ji (ji (jz ?_)))
    obtain rfl := sj hm
    have hbo := h3 _ rfl
    subst hbo
    exact jg () (rfl) (.nil) (fun w hh => hh)
  ·intro j hj
   have h10 := hj
   subst h10
   replace hm := ocL h2
   refine jb (jp (jm rfl rfl (jo (jw ?_))))
   obtain rfl := sj hm
   refine jn rfl (fun w hh => (.tmp rfl .nil)) (fun w hh => ⟨(), rfl, trivial, hh.se [] [] 2 rfl rfl rfl rfl⟩)
def ky (s0 : (List Span)) : Option Bool :=
 (qt s0).bind fun t7 =>
 some (decide (0 ≤ t7))
theorem KQ (s0 : (List Span)) (qa0 : Option Addr) (na0 ca0 : Nat) (rb : Nat) (w : World) (hw : HV w (keys [] []) [] [] [(aB qa0, aO qa0, RSp.enc s0), (rb, 0, [.func (.func 62) #[] #[]])] w) (hna0 : s0.length = na0) (hqa0 : AOK na0 qa0) (hla0 : na0 ≤ ca0)  {res : Bool} (hm : ky s0 = some res) :
    Calls Try.prog 111 #[.slice qa0 na0 ca0, .func (.func 112) #[] #[ptr rb 0]] w (fun en w' => ∃ l : Unit, en = .returned (.bool res) ∧ (True) ∧ HV w (keys [] []) [] [] [] w') := by
  unfold ky at hm
  refine kb Try.func111 rfl Try.ntmps111 rfl (e := [(0, _), (1, _)]) rfl hw (jp (jm rfl rfl (j1 (jf rfl rfl (jf rfl rfl ?_)))))
  obtain ⟨t7, h1, hm⟩ := bindO hm
  refine jd [] [] rfl rfl rfl rfl rfl rfl rfl Try.call141 (fun w hh => Qw s0 qa0 na0 ca0 rb w (HV.callee (S0 := []) (vs0 := []) hh (roR hh 0 rfl (roR hh 1 rfl roN))) hna0 hqa0 hla0 h1) (fun l h2 => ?_)
  refine jc rfl rfl rfl (fun _ _ => QH rfl rfl) (jm rfl rfl (jo (jw ?_)))
  obtain rfl := sj hm
  refine jn rfl (fun w hh => (.tmp rfl .nil)) (fun w hh => ⟨(), rfl, trivial, hh.se [] [] 2 rfl rfl rfl rfl⟩)
def kw (l0 : (List Span)) : Option Bool :=
 (ky l0).bind fun t7 =>
 some (!t7)
theorem Qx (l0 : (List Span)) (qa0 : Option Addr) (na0 ca0 : Nat) (w : World) (hw : HV w (keys [] []) [] [] [(aB qa0, aO qa0, RSp.enc l0)] w) (hna0 : l0.length = na0) (hqa0 : AOK na0 qa0) (hla0 : na0 ≤ ca0) {res : Bool} (hm : kw l0 = some res) :
    Calls Try.prog 58 #[.slice qa0 na0 ca0, .func (.func 62) #[] #[]] w (fun en w' => ∃ l : Unit, en = .returned (.bool res) ∧ (True) ∧ HV w (keys [] []) [] [] [] w') := by
  unfold kw at hm
  refine kb Try.func58 rfl Try.ntmps58 rfl (e := [(0, _), (1, _)]) rfl hw (jp ?_)
  refine jH rfl rfl (fun b h1 => ?_)
  refine jm rfl rfl (j1 (jf rfl rfl (jc rfl rfl rfl (fun _ _ => jQ (u := #[]) (u' := #[_]) rfl rfl) ?_)))
  obtain ⟨t7, h2, hm⟩ := bindO hm
  refine jd [] [] rfl rfl rfl rfl rfl rfl rfl Try.call111 (fun w hh => KQ l0 qa0 na0 ca0 b w (HV.callee (S0 := []) (vs0 := []) hh (roR hh 0 rfl (roC (bsep (hh.bseg 0 rfl)) roN))) hna0 hqa0 hla0 h2) (fun l h3 => ?_)
  refine jc rfl rfl rfl (fun _ _ => kq rfl) (jm rfl rfl (jo (jw ?_)))
  obtain rfl := sj hm
  refine jn rfl (fun w hh => (.tmp rfl .nil)) (fun w hh => ⟨(), rfl, trivial, hh.se [] [] 1 rfl rfl rfl rfl⟩)
def j9 (x0 : Strip) : Option Span :=
 (addc x0.lay.lo x0.seeded.lo).bind fun t9 =>
 (subc t9 x0.left.hi).bind fun t13 =>
 (addc x0.lay.hi x0.seeded.hi).bind fun t21 =>
 (subc t21 x0.left.lo).bind fun t25 =>
 some (⟨(max 0 t13), t25⟩ : Span)
theorem qK (x0 : Strip)  (w : World) (hw : HV w (keys [] []) [] [] [] w)  {res : Span} (hm : j9 x0 = some res) :
    Calls Try.prog 64 #[.agg #[.int .i64 x0.tenant, .int .i64 x0.lay.lo, .int .i64 x0.lay.hi, .int .i64 x0.seeded.lo, .int .i64 x0.seeded.hi, .int .i64 x0.left.lo, .int .i64 x0.left.hi]] w (fun en w' => ∃ l : Unit, en = .returned (.agg #[.int .i64 res.lo, .int .i64 res.hi]) ∧ (True) ∧ HV w (keys [] []) [] [] [] w') := by
  unfold j9 at hm
  refine kb Try.func64 rfl Try.ntmps64 rfl (e := [(0, _)]) rfl hw (jp ?_)
  refine jH rfl rfl (fun b h1 => ?_)
  refine jt (fun w => Try.zeroValue37 w) rfl (fun b_1 h2 => ?_)
  refine j1 (jL 1 Try.runUnderlying77 rfl Try.sizeOf37 rfl rfl (jL 0 Try.runUnderlying37 rfl Try.sizeOf3 rfl rfl (jU 1 Try.isAgg3 rfl rfl rfl rfl (jL 3 Try.runUnderlying77 rfl Try.sizeOf37 rfl rfl (jL 0 Try.runUnderlying37 rfl Try.sizeOf3 rfl rfl (jU 1 Try.isAgg3 rfl rfl rfl rfl ?_))))))
  obtain ⟨t9, h3, hm⟩ := bindO hm
  refine kt h3 rfl rfl rfl (jL 5 Try.runUnderlying77 rfl Try.sizeOf37 rfl rfl (jL 1 Try.runUnderlying37 rfl Try.sizeOf3 rfl rfl (jU 1 Try.isAgg3 rfl rfl rfl rfl ?_)))
  obtain ⟨t13, h4, hm⟩ := bindO hm
  refine jc rfl rfl rfl (fun _ _ => k9 h4 rfl rfl) (jc rfl rfl rfl (fun _ _ => ZW rfl rfl) (jL 1 Try.runUnderlying77 rfl Try.sizeOf37 rfl rfl (jL 1 Try.runUnderlying37 rfl Try.sizeOf3 rfl rfl (jU 1 Try.isAgg3 rfl rfl rfl rfl (jL 3 Try.runUnderlying77 rfl Try.sizeOf37 rfl rfl (jL 1 Try.runUnderlying37 rfl Try.sizeOf3 rfl rfl (jU 1 Try.isAgg3 rfl rfl rfl rfl ?_)))))))
  obtain ⟨t21, h5, hm⟩ := bindO hm
  refine kt h5 rfl rfl rfl (jL 5 Try.runUnderlying77 rfl Try.sizeOf37 rfl rfl (jL 0 Try.runUnderlying37 rfl Try.sizeOf3 rfl rfl (jU 1 Try.isAgg3 rfl rfl rfl rfl ?_)))
  obtain ⟨t25, h6, hm⟩ := bindO hm
  refine jc rfl rfl rfl (fun _ _ => k9 h6 rfl rfl) (jc rfl rfl rfl (fun _ _ => jG (vs := [(0, _), (1, _)]) (cells := [_, _]) rfl rfl) (jE (us := #[_, _]) (cs' := [_, _]) (S' := [_, _]) 0 (fun w => Try.sizeOf37 w) rfl rfl rfl rfl rfl rfl rfl (jo (jw ?_))))
  obtain rfl := sj hm
  refine jn rfl (fun w hh => (.cell rfl (loadVar_agg (vs := [_, _]) (Try.isAgg37 _) (Try.sizeOf37 _) (hh.cells 0 rfl rfl)) .nil)) (fun w hh => ⟨(), rfl, trivial, hh.se [] [] 0 rfl rfl rfl rfl⟩)
def KM (x0 : Strip) : Option Bool :=
 (j9 x0).bind fun t4 =>
 some (decide (0 ≤ t4.hi))
theorem Zu (x0 : Strip)  (w : World) (hw : HV w (keys [] []) [] [] [] w)  {res : Bool} (hm : KM x0 = some res) :
    Calls Try.prog 63 #[.agg #[.int .i64 x0.tenant, .int .i64 x0.lay.lo, .int .i64 x0.lay.hi, .int .i64 x0.seeded.lo, .int .i64 x0.seeded.hi, .int .i64 x0.left.lo, .int .i64 x0.left.hi]] w (fun en w' => ∃ l : Unit, en = .returned (.bool res) ∧ (True) ∧ HV w (keys [] []) [] [] [] w') := by
  unfold KM at hm
  refine kb Try.func63 rfl Try.ntmps63 rfl (e := [(0, _)]) rfl hw (jp ?_)
  refine jH rfl rfl (fun b h1 => ?_)
  refine jm rfl rfl (j1 (kG [_, _, _, _, _, _, _] 0 Try.isAgg77 Try.sizeOf77 rfl rfl rfl rfl ?_))
  obtain ⟨t4, h2, hm⟩ := bindO hm
  refine jd [] [] rfl rfl rfl rfl rfl rfl rfl Try.call64 (fun w hh => qK x0 w (HV.callee (S0 := []) (vs0 := []) hh roN)  h2) (fun l h3 => ?_)
  refine jc rfl rfl rfl (fun w _ => Yk 3 1 (Try.runUnderlying37 w) rfl (Try.isAgg3 w) rfl rfl) (jc rfl rfl rfl (fun _ _ => QH rfl rfl) (jm rfl rfl (jo (jw ?_))))
  obtain rfl := sj hm
  refine jn rfl (fun w hh => (.tmp rfl .nil)) (fun w hh => ⟨(), rfl, trivial, hh.se [] [] 0 rfl rfl rfl rfl⟩)
def j2 (x0 : Strip) : Option Bool :=
 (KM x0).bind fun t6 =>
 some (!t6)
theorem J1 (x0 : Strip) (rb : Nat) (w : World) (hw : HV w (keys [] []) [] [] [(rb, 0, [.func (.func 63) #[] #[]])] w)  {res : Bool} (hm : j2 x0 = some res) :
    Calls Try.prog 115 #[.agg #[.int .i64 x0.tenant, .int .i64 x0.lay.lo, .int .i64 x0.lay.hi, .int .i64 x0.seeded.lo, .int .i64 x0.seeded.hi, .int .i64 x0.left.lo, .int .i64 x0.left.hi], ptr rb 0] w (fun en w' => ∃ l : Unit, en = .returned (.bool res) ∧ (True) ∧ HV w (keys [] []) [] [] [] w') := by
  unfold j2 at hm
  refine kb Try.func115 rfl Try.ntmps115 rfl (e := [(0, _), (1, _)]) rfl hw (jp ?_)
  refine jH rfl rfl (fun b h1 => ?_)
  refine jm rfl rfl (j1 (jc rfl rfl rfl (fun w hh => jY (Try.isAgg113 w) rfl (segCell (hh.seg 0 rfl) 0 rfl)) (kG [_, _, _, _, _, _, _] 0 Try.isAgg77 Try.sizeOf77 rfl rfl rfl rfl ?_)))
  obtain ⟨t6, h2, hm⟩ := bindO hm
  refine jd [] [] rfl rfl rfl rfl rfl rfl rfl Try.call63 (fun w hh => Zu x0 w (HV.callee (S0 := []) (vs0 := []) hh roN)  h2) (fun l h3 => ?_)
  refine jc rfl rfl rfl (fun _ _ => kq rfl) (jm rfl rfl (jo (jw ?_)))
  obtain rfl := sj hm
  refine jn rfl (fun w hh => (.tmp rfl .nil)) (fun w hh => ⟨(), rfl, trivial, hh.se [] [] 1 rfl rfl rfl rfl⟩)
def qQ (s0 : (List Strip)) (s : Int) : Option (Int ⊕ (Unit ⊕ Int)) :=
 if s < (s0.length : Int) then
 ((ix s0 s).bind fun t14 =>
 (j2 (⟨t14.tenant, (⟨t14.lay.lo, t14.lay.hi⟩ : Span), (⟨t14.seeded.lo, t14.seeded.hi⟩ : Span), (⟨t14.left.lo, t14.left.hi⟩ : Span)⟩ : Strip)).bind fun t16 =>
 if t16 = true then
 (some (.inr (.inr s))) else
 ((addc s 1).bind fun t18 =>
 some (.inl t18))) else
 (some (.inr (.inl ())))
def qm (s0 : (List Strip)) : Option Int :=
 (iterM FU (qQ s0) 0).bind fun o =>
 oc o (fun j => some (-1)) (fun r_1 => some r_1)
theorem Qv (s0 : (List Strip)) (qa0 : Option Addr) (na0 ca0 : Nat) (rb : Nat) (w : World) (hw : HV w (keys [] []) [] [] [(aB qa0, aO qa0, RSt.enc s0), (rb, 0, [.func (.func 63) #[] #[]])] w) (hna0 : s0.length = na0) (hqa0 : AOK na0 qa0) (hla0 : na0 ≤ ca0)  {res : Int} (hm : qm s0 = some res) :
    Calls Try.prog 142 #[.slice qa0 na0 ca0, .func (.func 115) #[] #[ptr rb 0]] w (fun en w' => ∃ l : Unit, en = .returned (.int .i64 res) ∧ (True) ∧ HV w (keys [] []) [] [] [] w') := by
  unfold qm at hm
  refine kb Try.func142 rfl Try.ntmps142 rfl (e := [(0, _), (1, _)]) rfl hw (jp (jm rfl rfl (jo (jj (jp (jf rfl rfl (jc rfl rfl rfl (fun w _ => jB hna0 (Try.runUnderlying25 w) rfl) ?_)))))))
  refine jf rfl rfl (jo ?_)
  obtain ⟨o, h1, h2⟩ := bindO hm
  refine jC (ι := Unit) (fun j => o = .inl j) (fun j => []) (fun j => []) (fun j => []) ?_ ?_
  ·replace hm := h1
   refine jl ?_
   refine jF (ι := Unit) hm (fun s l => True) (fun s l => [(0, .slice qa0 na0 ca0), (1, .func (.func 115) #[] #[ptr rb 0]), (7, .int .i64 (s0.length : Int)), (8, .int .i64 s)]) (fun s l => []) (fun s l => []) () (trivial) (sE rfl) (fun w hh => hh) (fun s l r hpl hm h3 => ?_)
   unfold qQ at hm
   refine jp (qv rfl rfl rfl (jo (jj ?_)))
   refine jq rfl (fun h4 => ?_) (fun h4 => ?_)
   ·replace hm := ifD h4 hm
    refine jr (jb (jj (jl (jp (jf rfl rfl (jm rfl rfl (j1 ?_)))))))
    refine jf rfl rfl (jf rfl rfl (jf rfl rfl ?_))
    obtain ⟨t14, h5, hm⟩ := bindO hm
    refine jc rfl rfl rfl (fun w _ => jW h5 (Try.runUnderlying25 w) (Try.sizeOf77 w) rfl rfl hna0 hqa0) ?_
    refine jc rfl rfl rfl (fun w hh => kk RSt 0 [.int .i64 t14.tenant, .int .i64 t14.lay.lo, .int .i64 t14.lay.hi, .int .i64 t14.seeded.lo, .int .i64 t14.seeded.hi, .int .i64 t14.left.lo, .int .i64 t14.left.hi] h5 (Try.isAgg77 w) (Try.sizeOf77 w) rfl (hh.seg 0 rfl) rfl (Nat.add_zero _).symm) ?_
    obtain ⟨t16, h6, hm⟩ := bindO hm
    refine jd [] [] rfl rfl rfl rfl rfl rfl rfl Try.call115 (fun w hh => J1 (⟨t14.tenant, (⟨t14.lay.lo, t14.lay.hi⟩ : Span), (⟨t14.seeded.lo, t14.seeded.hi⟩ : Span), (⟨t14.left.lo, t14.left.hi⟩ : Span)⟩ : Strip) rb w (HV.callee (S0 := []) (vs0 := []) hh (roR hh 1 rfl roN))  h6) (fun l_1 h7 => ?_)
    refine jo ?_
    refine jq rfl (fun h8 => ?_) (fun h8 => ?_)
    ·replace hm := ifT (h8) hm
     refine jp (jf rfl rfl (jm rfl rfl (jo (jw (jx (je (je ?_)))))))
     refine jx ?_
     obtain rfl := sj hm
     have hbo := h3 _ rfl
     subst hbo
     refine je ?_
     replace hm := ocR h2
     refine je ?_
     obtain rfl := sj hm
     refine jn rfl (fun w hh => (.tmp rfl .nil)) (fun w hh => ⟨(), rfl, trivial, hh.se [] [] 2 rfl rfl rfl rfl⟩)
    ·replace hm := ifN h8 hm
     refine jr (js (jb (jh ?_)))
     obtain ⟨t18, h9, hm⟩ := bindO hm
     refine kt h9 rfl rfl rfl (jf rfl rfl (jv ?_))
     obtain rfl := sj hm
     refine jb ?_
     exact jy _ () rfl (trivial) (sE rfl) (fun w hh => hh)
   ·replace hm := ifE h4 hm
    refine jM (ji (ji (jz ?_)))
    obtain rfl := sj hm
    have hbo := h3 _ rfl
    subst hbo
    exact jg () (rfl) (.nil) (fun w hh => hh)
  ·intro j hj
   have h10 := hj
   subst h10
   replace hm := ocL h2
   refine jb (jp (jm rfl rfl (jo (jw ?_))))
   obtain rfl := sj hm
   refine jn rfl (fun w hh => (.tmp rfl .nil)) (fun w hh => ⟨(), rfl, trivial, hh.se [] [] 2 rfl rfl rfl rfl⟩)
def kz (s0 : (List Strip)) : Option Bool :=
 (qm s0).bind fun t7 =>
 some (decide (0 ≤ t7))
theorem KP (s0 : (List Strip)) (qa0 : Option Addr) (na0 ca0 : Nat) (rb : Nat) (w : World) (hw : HV w (keys [] []) [] [] [(aB qa0, aO qa0, RSt.enc s0), (rb, 0, [.func (.func 63) #[] #[]])] w) (hna0 : s0.length = na0) (hqa0 : AOK na0 qa0) (hla0 : na0 ≤ ca0)  {res : Bool} (hm : kz s0 = some res) :
    Calls Try.prog 114 #[.slice qa0 na0 ca0, .func (.func 115) #[] #[ptr rb 0]] w (fun en w' => ∃ l : Unit, en = .returned (.bool res) ∧ (True) ∧ HV w (keys [] []) [] [] [] w') := by
  unfold kz at hm
  refine kb Try.func114 rfl Try.ntmps114 rfl (e := [(0, _), (1, _)]) rfl hw (jp (jm rfl rfl (j1 (jf rfl rfl (jf rfl rfl ?_)))))
  obtain ⟨t7, h1, hm⟩ := bindO hm
  refine jd [] [] rfl rfl rfl rfl rfl rfl rfl Try.call142 (fun w hh => Qv s0 qa0 na0 ca0 rb w (HV.callee (S0 := []) (vs0 := []) hh (roR hh 0 rfl (roR hh 1 rfl roN))) hna0 hqa0 hla0 h1) (fun l h2 => ?_)
  refine jc rfl rfl rfl (fun _ _ => QH rfl rfl) (jm rfl rfl (jo (jw ?_)))
  obtain rfl := sj hm
  refine jn rfl (fun w hh => (.tmp rfl .nil)) (fun w hh => ⟨(), rfl, trivial, hh.se [] [] 2 rfl rfl rfl rfl⟩)
def kc (l0 : (List Strip)) : Option Bool :=
 (kz l0).bind fun t7 =>
 some (!t7)
theorem KR (l0 : (List Strip)) (qa0 : Option Addr) (na0 ca0 : Nat) (w : World) (hw : HV w (keys [] []) [] [] [(aB qa0, aO qa0, RSt.enc l0)] w) (hna0 : l0.length = na0) (hqa0 : AOK na0 qa0) (hla0 : na0 ≤ ca0) {res : Bool} (hm : kc l0 = some res) :
    Calls Try.prog 60 #[.slice qa0 na0 ca0, .func (.func 63) #[] #[]] w (fun en w' => ∃ l : Unit, en = .returned (.bool res) ∧ (True) ∧ HV w (keys [] []) [] [] [] w') := by
  unfold kc at hm
  refine kb Try.func60 rfl Try.ntmps60 rfl (e := [(0, _), (1, _)]) rfl hw (jp ?_)
  refine jH rfl rfl (fun b h1 => ?_)
  refine jm rfl rfl (j1 (jf rfl rfl (jc rfl rfl rfl (fun _ _ => jQ (u := #[]) (u' := #[_]) rfl rfl) ?_)))
  obtain ⟨t7, h2, hm⟩ := bindO hm
  refine jd [] [] rfl rfl rfl rfl rfl rfl rfl Try.call114 (fun w hh => KP l0 qa0 na0 ca0 b w (HV.callee (S0 := []) (vs0 := []) hh (roR hh 0 rfl (roC (bsep (hh.bseg 0 rfl)) roN))) hna0 hqa0 hla0 h2) (fun l h3 => ?_)
  refine jc rfl rfl rfl (fun _ _ => kq rfl) (jm rfl rfl (jo (jw ?_)))
  obtain rfl := sj hm
  refine jn rfl (fun w hh => (.tmp rfl .nil)) (fun w hh => ⟨(), rfl, trivial, hh.se [] [] 1 rfl rfl rfl rfl⟩)
def J5 (s0 : Scalps) : Option Int :=
 ((K8 (s0.strips.length : Int) 1 6).bind fun t10 =>
 if (!t10) = true then
 (some true) else
 ((K8 (s0.carried.length : Int) 1 5).bind fun t16 =>
 some (!t16))).bind fun o =>
 if o = true then
 (some 2) else
 ((kF s0).bind fun t21 =>
 (k6 t21).bind fun t22 =>
 if (!t22) = true then
 (some 3) else
 ((ko s0.strips s0).bind fun t28 =>
 if (!t28) = true then
 (some 1) else
 ((kF s0).bind fun t32 =>
 (kw t32).bind fun t33 =>
 if (!t33) = true then
 (some 4) else
 ((kc s0.strips).bind fun t38 =>
 if (!t38) = true then
 (some 8) else
 (some 0)))))
theorem Zb (s0 : Scalps) (qa0 : Option Addr) (na0 ca0 : Nat) (qa1 : Option Addr) (na1 ca1 : Nat) (w : World) (hw : HV w (keys [] []) [] [] [(aB qa0, aO qa0, RSt.enc s0.strips), (aB qa1, aO qa1, RSp.enc s0.carried)] w) (hna0 : s0.strips.length = na0) (hqa0 : AOK na0 qa0) (hla0 : na0 ≤ ca0) (hna1 : s0.carried.length = na1) (hqa1 : AOK na1 qa1) (hla1 : na1 ≤ ca1) {res : Int} (hm : J5 s0 = some res) :
    Calls Try.prog 15 #[.agg #[.slice qa0 na0 ca0, .slice qa1 na1 ca1]] w (fun en w' => ∃ l : Unit, en = .returned (.int .i64 res) ∧ (True) ∧ HV w (keys [] []) [] [] [] w') := by
  unfold J5 at hm
  refine kb Try.func15 rfl Try.ntmps15 rfl (e := [(0, _)]) rfl hw (jp ?_)
  refine jH rfl rfl (fun b h1 => ?_)
  refine jm rfl rfl (j1 (kG [_, _] 0 Try.isAgg28 Try.sizeOf28 rfl rfl rfl rfl (jc rfl rfl rfl (fun _ _ => jQ (u := #[_]) (u' := #[]) rfl rfl) ?_)))
  refine jt (fun w => Try.zeroValue71 w) rfl (fun b_1 h2 => ?_)
  refine yV (cs' := #[_]) (S' := [_, _]) 0 (fun w => Try.sizeOf71 w) rfl rfl rfl rfl rfl rfl rfl (jo (jj (jl (jj ?_))))
  obtain ⟨o, h3, h4⟩ := bindO hm
  refine jC (ι := Unit) (fun l => True) (fun l => [(1, ptr b 0), (3, ptr b_1 0), (6, .bool o)]) (fun l => [(b_1, .cells #[.func (.func 53) #[.agg #[.slice qa0 na0 ca0, .slice qa1 na1 ca1]] #[]] 71 (0, 0)), (b, .cells #[.slice qa0 na0 ca0, .slice qa1 na1 ca1] 28 (0, 0))]) (fun l => []) ?_ ?_
  ·replace hm := h3
   refine jh (jL 0 Try.runUnderlying28 rfl Try.sizeOf25 rfl rfl (jU 1 Try.isAgg25 rfl rfl rfl rfl (jc rfl rfl rfl (fun w _ => jB hna0 (Try.runUnderlying25 w) rfl) ?_)))
   obtain ⟨t10, h5, hm⟩ := bindO hm
   refine jd [] [] rfl rfl rfl rfl rfl rfl rfl Try.call57 (fun w hh => Yo (s0.strips.length : Int) 1 6 w (HV.callee (S0 := []) (vs0 := []) hh roN)  h5) (fun l_1 h6 => ?_)
   refine jc rfl rfl rfl (fun _ _ => kq rfl) (jf rfl rfl ?_)
   refine jD 12 rfl (fun h7 => ?_) (fun h7 => ?_)
   ·replace hm := ifT (h7) hm
    refine g_k rfl rfl rfl rfl (g_k rfl rfl rfl rfl (g_k rfl rfl rfl rfl (g_k rfl rfl rfl rfl (g_k rfl rfl rfl rfl (j3 rfl rfl rfl (jm rfl rfl (jv ?_)))))))
    obtain rfl := sj hm
    exact jg () (trivial) (sE rfl) (fun w hh => hh)
   ·replace hm := ifN h7 hm
    refine ja rfl rfl (jL 1 Try.runUnderlying28 rfl Try.sizeOf26 rfl rfl (ja rfl rfl (jU 1 Try.isAgg26 rfl rfl rfl rfl (ja rfl rfl (jc rfl rfl rfl (fun w _ => jB hna1 (Try.runUnderlying26 w) rfl) (ja rfl rfl ?_))))))
    obtain ⟨t16, h8, hm⟩ := bindO hm
    refine jd [] [] rfl rfl rfl rfl rfl rfl rfl Try.call57 (fun w hh => Yo (s0.carried.length : Int) 1 5 w (HV.callee (S0 := []) (vs0 := []) hh roN)  h8) (fun l_2 h9 => ?_)
    refine ja rfl rfl (jc rfl rfl rfl (fun _ _ => kq rfl) (ki rfl rfl rfl (jm rfl rfl (jv ?_))))
    obtain rfl := sj hm
    exact jg () (trivial) (sE rfl) (fun w hh => hh)
  ·intro l hj
   replace hm := h4
   refine jb ?_
   refine jq rfl (fun h10 => ?_) (fun h10 => ?_)
   ·replace hm := ifT (h10) hm
    refine jp (jm rfl rfl (jo (jw (jx (je ?_)))))
    obtain rfl := sj hm
    refine jn rfl (fun w hh => (.tmp rfl .nil)) (fun w hh => ⟨(), rfl, trivial, hh.se [] [] 2 rfl rfl rfl rfl⟩)
   ·replace hm := ifN h10 hm
    refine jp (kG [_, _] 1 Try.isAgg28 Try.sizeOf28 rfl rfl rfl rfl ?_)
    obtain ⟨t21, h11, hm⟩ := bindO hm
    refine jd [] [] rfl rfl rfl rfl rfl rfl rfl Try.call59 (fun w hh => KO s0 qa0 na0 ca0 qa1 na1 ca1 w (HV.callee (S0 := []) (vs0 := []) hh (roR hh 0 rfl (roR hh 1 rfl roN))) hna0 hqa0 hla0 hna1 hqa1 hla1 h11) (fun l_3 h12 => ?_)
    have h13 := h12
    refine jS (S' := [_, _]) (vs' := [_]) [0, 1] [0] 0 rfl rfl rfl rfl ?_
    obtain ⟨t22, h14, hm⟩ := bindO hm
    refine jd [] [] rfl rfl rfl rfl rfl rfl rfl Try.call58 (fun w hh => QU t21 (qA l_3.q) l_3.n l_3.cap w (HV.callee (S0 := []) (vs0 := []) hh (roC (hh.vsepA 0 rfl h13) roN)) (vlen RSp h13 rfl) (AOK.q (vne h13)) (h13).hle h14) (fun l_4 h15 => ?_)
    refine jc rfl rfl rfl (fun _ _ => kq rfl) (jm rfl rfl (jo ?_))
    refine jq rfl (fun h16 => ?_) (fun h16 => ?_)
    ·replace hm := ifT (h16) hm
     refine jp (jm rfl rfl (jo (jw (jx (je ?_)))))
     obtain rfl := sj hm
     refine jn rfl (fun w hh => (.tmp rfl .nil)) (fun w hh => ⟨(), rfl, trivial, hh.se [] [] 2 rfl rfl rfl rfl⟩)
    ·replace hm := ifN h16 hm
     refine jp (jL 0 Try.runUnderlying28 rfl Try.sizeOf25 rfl rfl (jU 1 Try.isAgg25 rfl rfl rfl rfl (jc rfl rfl rfl (fun _ _ => jQ (u := #[]) (u' := #[_]) rfl rfl) ?_)))
     obtain ⟨t28, h17, hm⟩ := bindO hm
     refine jd [] [] rfl rfl rfl rfl rfl rfl rfl Try.call60 (fun w hh => Qr s0.strips s0 qa0 na0 ca0 b_1 qa0 na0 ca0 qa1 na1 ca1 w (HV.callee (S0 := []) (vs0 := []) hh (roR hh 0 rfl (roC (bsep (hh.bseg 0 rfl)) (roR hh 0 rfl (roR hh 1 rfl roN))))) hna0 hqa0 hla0 hna0 hqa0 hla0 hna1 hqa1 hla1 h17) (fun l_5 h18 => ?_)
     refine jc rfl rfl rfl (fun _ _ => kq rfl) (jm rfl rfl (jo ?_))
     refine jq rfl (fun h19 => ?_) (fun h19 => ?_)
     ·replace hm := ifT (h19) hm
      refine jp (jm rfl rfl (jo (jw (jx (je ?_)))))
      obtain rfl := sj hm
      refine jn rfl (fun w hh => (.tmp rfl .nil)) (fun w hh => ⟨(), rfl, trivial, hh.se [] [] 2 rfl rfl rfl rfl⟩)
     ·replace hm := ifN h19 hm
      refine jp (kG [_, _] 1 Try.isAgg28 Try.sizeOf28 rfl rfl rfl rfl ?_)
      obtain ⟨t32, h20, hm⟩ := bindO hm
      refine jd [] [] rfl rfl rfl rfl rfl rfl rfl Try.call59 (fun w hh => KO s0 qa0 na0 ca0 qa1 na1 ca1 w (HV.callee (S0 := []) (vs0 := []) hh (roR hh 0 rfl (roR hh 1 rfl roN))) hna0 hqa0 hla0 hna1 hqa1 hla1 h20) (fun l_6 h21 => ?_)
      have h22 := h21
      refine jS (S' := [_, _]) (vs' := [_, _]) [0, 1] [0, 1] 0 rfl rfl rfl rfl ?_
      obtain ⟨t33, h23, hm⟩ := bindO hm
      refine jd [] [] rfl rfl rfl rfl rfl rfl rfl Try.call58 (fun w hh => Qx t32 (qA l_6.q) l_6.n l_6.cap w (HV.callee (S0 := []) (vs0 := []) hh (roC (hh.vsepA 0 rfl h22) roN)) (vlen RSp h22 rfl) (AOK.q (vne h22)) (h22).hle h23) (fun l_7 h24 => ?_)
      refine jc rfl rfl rfl (fun _ _ => kq rfl) (jm rfl rfl (jo ?_))
      refine jq rfl (fun h25 => ?_) (fun h25 => ?_)
      ·replace hm := ifT (h25) hm
       refine jp (jm rfl rfl (jo (jw (jx (je ?_)))))
       obtain rfl := sj hm
       refine jn rfl (fun w hh => (.tmp rfl .nil)) (fun w hh => ⟨(), rfl, trivial, hh.se [] [] 2 rfl rfl rfl rfl⟩)
      ·replace hm := ifN h25 hm
       refine jp (jL 0 Try.runUnderlying28 rfl Try.sizeOf25 rfl rfl (jU 1 Try.isAgg25 rfl rfl rfl rfl ?_))
       obtain ⟨t38, h26, hm⟩ := bindO hm
       refine jd [] [] rfl rfl rfl rfl rfl rfl rfl Try.call60 (fun w hh => KR s0.strips qa0 na0 ca0 w (HV.callee (S0 := []) (vs0 := []) hh (roR hh 0 rfl roN)) hna0 hqa0 hla0 h26) (fun l_8 h27 => ?_)
       refine jc rfl rfl rfl (fun _ _ => kq rfl) (jm rfl rfl (jo ?_))
       refine jq rfl (fun h28 => ?_) (fun h28 => ?_)
       ·replace hm := ifT (h28) hm
        refine jp (jm rfl rfl (jo (jw (jx (je ?_)))))
        obtain rfl := sj hm
        refine jn rfl (fun w hh => (.tmp rfl .nil)) (fun w hh => ⟨(), rfl, trivial, hh.se [] [] 2 rfl rfl rfl rfl⟩)
       ·replace hm := ifN h28 hm
        refine jr (js (jb (jp (jm rfl rfl (jo (jw ?_))))))
        obtain rfl := sj hm
        refine jn rfl (fun w hh => (.tmp rfl .nil)) (fun w hh => ⟨(), rfl, trivial, hh.se [] [] 2 rfl rfl rfl rfl⟩)
def kK (s0 : Scalps) (n1 : Int) : Option Bool :=
 (subc (s0.strips.length : Int) 1).bind fun t9 =>
 (K8 n1 0 t9).bind fun t10 =>
 some t10
theorem KN (s0 : Scalps) (n1 : Int) (qa0 : Option Addr) (na0 ca0 : Nat) (qa1 : Option Addr) (na1 ca1 : Nat) (w : World) (hw : HV w (keys [] []) [] [] [(aB qa0, aO qa0, RSt.enc s0.strips), (aB qa1, aO qa1, RSp.enc s0.carried)] w) (hna0 : s0.strips.length = na0) (hqa0 : AOK na0 qa0) (hla0 : na0 ≤ ca0) (hna1 : s0.carried.length = na1) (hqa1 : AOK na1 qa1) (hla1 : na1 ≤ ca1) {res : Bool} (hm : kK s0 n1 = some res) :
    Calls Try.prog 71 #[.agg #[.slice qa0 na0 ca0, .slice qa1 na1 ca1], .int .i64 n1] w (fun en w' => ∃ l : Unit, en = .returned (.bool res) ∧ (True) ∧ HV w (keys [] []) [] [] [] w') := by
  unfold kK at hm
  refine kb Try.func71 rfl Try.ntmps71 rfl (e := [(0, _), (1, _)]) rfl hw (jp ?_)
  refine jH rfl rfl (fun b h1 => ?_)
  refine jm rfl rfl (j1 (jf rfl rfl (jL 0 Try.runUnderlying28 rfl Try.sizeOf25 rfl rfl (jU 0 Try.isAgg25 rfl rfl rfl rfl (jc rfl rfl rfl (fun w _ => jB hna0 (Try.runUnderlying25 w) rfl) ?_)))))
  obtain ⟨t9, h2, hm⟩ := bindO hm
  refine jc rfl rfl rfl (fun _ _ => k9 h2 rfl rfl) ?_
  obtain ⟨t10, h3, hm⟩ := bindO hm
  refine jd [] [] rfl rfl rfl rfl rfl rfl rfl Try.call57 (fun w hh => Yo n1 0 t9 w (HV.callee (S0 := []) (vs0 := []) hh roN)  h3) (fun l h4 => ?_)
  refine jm rfl rfl (jo (jw ?_))
  obtain rfl := sj hm
  refine jn rfl (fun w hh => (.tmp rfl .nil)) (fun w hh => ⟨(), rfl, trivial, hh.se [] [] 2 rfl rfl rfl rfl⟩)
structure zi where
  t21 : Int
  t15 : (List (Pair × Bool))
structure Jl where
  k8 : Int
  t15 : (List (Pair × Bool))
def zo (s : zi) (s0 : Scalps) (t24 : Strip) (s_1 : Jl) : Option (Jl ⊕ (List (Pair × Bool))) :=
 (addc s.t21 1).bind fun t30 =>
 if s_1.k8 ≤ t30 then
 (((kK s0 s_1.k8).bind fun t36 =>
 if t36 = true then
 ((some (aset s_1.t15 (⟨t24.tenant, s_1.k8⟩ : Pair) true)).bind fun t15 =>
 some t15) else
 (some s_1.t15)).bind fun o_2 =>
 (addc s_1.k8 1).bind fun t33 =>
 some (.inl (⟨t33, o_2⟩ : Jl))) else
 (some (.inr s_1.t15))
def zg (s0 : Scalps) (s : zi) : Option (zi ⊕ (List (Pair × Bool))) :=
 if s.t21 < (s0.strips.length : Int) then
 ((ix s0.strips s.t21).bind fun t24 =>
 (subc s.t21 1).bind fun t27 =>
 (iterM FU (zo s s0 t24) (⟨t27, s.t15⟩ : Jl)).bind fun o_1 =>
 (addc s.t21 1).bind fun t45 =>
 some (.inl (⟨t45, o_1⟩ : zi))) else
 (some (.inr s.t15))
def ks (s0 : Scalps) : Option (Int ⊕ (List (Pair × Bool))) :=
 (J5 s0).bind fun t10 =>
 if t10 = 0 then
 ((iterM FU (zg s0) (⟨0, []⟩ : zi)).bind fun o =>
 some (.inr o)) else
 (if ¬ (t10 = 0) then (some (.inl t10)) else none)
theorem kL (s0 : Scalps) (qa0 : Option Addr) (na0 ca0 : Nat) (qa1 : Option Addr) (na1 ca1 : Nat) (w : World) (hw : HV w (keys [] []) [] [] [(aB qa0, aO qa0, RSt.enc s0.strips), (aB qa1, aO qa1, RSp.enc s0.carried)] w) (hna0 : s0.strips.length = na0) (hqa0 : AOK na0 qa0) (hla0 : na0 ≤ ca0) (hna1 : s0.carried.length = na1) (hqa1 : AOK na1 qa1) (hla1 : na1 ≤ ca1) {res : (Int ⊕ (List (Pair × Bool)))} (hm : ks s0 = some res) :
    Calls Try.prog 65 #[.agg #[.slice qa0 na0 ca0, .slice qa1 na1 ca1]] w (fun en w' => match res with | .inl res_ => (∃ l : Unit, en = .returned (.tuple #[.pointer none, .int .i64 res_]) ∧ (¬ (res_ = 0)) ∧ HV w (keys [] []) [] [] [] w') | .inr res_ => (∃ l : Nat × Nat, en = .returned (.tuple #[ptr l.1 0, .int .i64 0]) ∧ (True) ∧ HV w (keys [] []) [(l.1, .cells #[.slice qa0 na0 ca0, .slice qa1 na1 ca1, .map (some l.2)] 163 (0, 0)), (l.2, gobj (kR RPr) kB res_)] [] [] w')) := by
  unfold ks at hm
  refine kb Try.func65 rfl Try.ntmps65 rfl (e := [(0, _)]) rfl hw (jp ?_)
  refine jH rfl rfl (fun b h1 => ?_)
  refine jm rfl rfl (jm rfl rfl (jo (jj (jp (kG [_, _] 0 Try.isAgg28 Try.sizeOf28 rfl rfl rfl rfl ?_)))))
  obtain ⟨t10, h2, hm⟩ := bindO hm
  refine jd [] [] rfl rfl rfl rfl rfl rfl rfl Try.call15 (fun w hh => Zb s0 qa0 na0 ca0 qa1 na1 ca1 w (HV.callee (S0 := []) (vs0 := []) hh (roR hh 0 rfl (roR hh 1 rfl roN))) hna0 hqa0 hla0 hna1 hqa1 hla1 h2) (fun l h3 => ?_)
  refine jm rfl rfl (j1 (jf rfl rfl (jc rfl rfl rfl (fun _ _ => kv rfl rfl) (jo ?_))))
  refine jq rfl (fun h4 => ?_) (fun h4 => ?_)
  ·replace hm := ifF (of_ndec_true h4) hm
   refine jp (jf rfl rfl (jm rfl rfl (jm rfl rfl (jo (jw (je ?_))))))
   obtain ⟨h5, hm⟩ := ifO hm
   obtain rfl := sj hm
   refine jn rfl (fun w hh => (.tmp rfl (.tmp rfl .nil))) (fun w hh => ⟨(), rfl, h5, hh.se [] [] 2 rfl rfl rfl rfl⟩)
  ·replace hm := ifT (of_ndec_false h4) hm
   refine jr (jb (jp (kG [_, _] 0 Try.isAgg28 Try.sizeOf28 rfl rfl rfl rfl ?_)))
   refine jao (kR RPr) kB rfl (fun b_1 h6 => ?_)
   refine jc rfl rfl rfl (fun _ _ => jG (vs := [(0, _), (1, _)]) (cells := [_, _, _]) rfl rfl) ?_
   refine jH rfl rfl (fun b_2 h7 => ?_)
   refine jm rfl rfl (jo (jj (jp (jL 0 Try.runUnderlying28 rfl Try.sizeOf25 rfl rfl (jU 2 Try.isAgg25 rfl rfl rfl rfl (jc rfl rfl rfl (fun w _ => jB hna0 (Try.runUnderlying25 w) rfl) (jf rfl rfl ?_)))))))
   refine jo ?_
   obtain ⟨o, h8, h9⟩ := bindO hm
   refine jC (ι := Unit) (fun l_1 => True) (fun l_1 => [(5, ptr b_2 0)]) (fun l_1 => [(b_2, .cells #[.slice qa0 na0 ca0, .slice qa1 na1 ca1, .map (some b_1)] 163 (0, 0)), (b_1, gobj (kR RPr) kB o), (b, .cells #[.slice qa0 na0 ca0, .slice qa1 na1 ca1] 28 (0, 0))]) (fun l_1 => []) ?_ ?_
   ·replace hm := h8
    refine jl ?_
    refine jF (ι := Unit) hm (fun s l_2 => True) (fun s l_2 => [(1, ptr b 0), (5, ptr b_2 0), (19, .slice qa0 na0 ca0), (20, .int .i64 (s0.strips.length : Int)), (21, .int .i64 s.t21)]) (fun s l_2 => [(b_2, .cells #[.slice qa0 na0 ca0, .slice qa1 na1 ca1, .map (some b_1)] 163 (0, 0)), (b_1, gobj (kR RPr) kB s.t15), (b, .cells #[.slice qa0 na0 ca0, .slice qa1 na1 ca1] 28 (0, 0))]) (fun s l_2 => []) () (trivial) (sE rfl) (fun w hh => hh) (fun s l_2 r hpl hm h10 => ?_)
    unfold zg at hm
    refine jp (qv rfl rfl rfl (jo (jj ?_)))
    refine jq rfl (fun h11 => ?_) (fun h11 => ?_)
    ·replace hm := ifD h11 hm
     refine jr (jb (jj (jl (jp (jf rfl rfl ?_)))))
     obtain ⟨t24, h12, hm⟩ := bindO hm
     refine jc rfl rfl rfl (fun w _ => jW h12 (Try.runUnderlying25 w) (Try.sizeOf77 w) rfl rfl hna0 hqa0) ?_
     refine jc rfl rfl rfl (fun w hh => kk RSt 0 [.int .i64 t24.tenant, .int .i64 t24.lay.lo, .int .i64 t24.lay.hi, .int .i64 t24.seeded.lo, .int .i64 t24.seeded.hi, .int .i64 t24.left.lo, .int .i64 t24.left.hi] h12 (Try.isAgg77 w) (Try.sizeOf77 w) rfl (hh.seg 0 rfl) rfl (Nat.add_zero _).symm) ?_
     refine jt (fun w => Try.zeroValue77 w) rfl (fun b_3 h13 => ?_)
     refine jm rfl rfl (jE (us := #[_, _, _, _, _, _, _]) (cs' := [_, _, _, _, _, _, _]) (S' := [_, _, _, _]) 0 (fun w => Try.sizeOf77 w) rfl rfl rfl rfl rfl rfl rfl (j1 (jf rfl rfl ?_)))
     obtain ⟨t27, h14, hm⟩ := bindO hm
     refine jc rfl rfl rfl (fun _ _ => k9 h14 rfl rfl) (jm rfl rfl (jo ?_))
     obtain ⟨o_1, h15, h16⟩ := bindO hm
     refine jC (ι := Unit) (fun l_3 => True) (fun l_3 => [(1, ptr b 0), (5, ptr b_2 0), (19, .slice qa0 na0 ca0), (20, .int .i64 (s0.strips.length : Int)), (21, .int .i64 s.t21)]) (fun l_3 => [(b_3, .cells #[.int .i64 t24.tenant, .int .i64 t24.lay.lo, .int .i64 t24.lay.hi, .int .i64 t24.seeded.lo, .int .i64 t24.seeded.hi, .int .i64 t24.left.lo, .int .i64 t24.left.hi] 77 (0, 0)), (b_2, .cells #[.slice qa0 na0 ca0, .slice qa1 na1 ca1, .map (some b_1)] 163 (0, 0)), (b_1, gobj (kR RPr) kB o_1), (b, .cells #[.slice qa0 na0 ca0, .slice qa1 na1 ca1] 28 (0, 0))]) (fun l_3 => []) ?_ ?_
     ·replace hm := h15
      refine jl ?_
      refine jF (ι := Unit) hm (fun s_1 l_4 => True) (fun s_1 l_4 => [(1, ptr b 0), (5, ptr b_2 0), (6, .int .i64 s.t21), (7, ptr b_3 0), (8, .int .i64 s_1.k8), (19, .slice qa0 na0 ca0), (20, .int .i64 (s0.strips.length : Int)), (21, .int .i64 s.t21)]) (fun s_1 l_4 => [(b_3, .cells #[.int .i64 t24.tenant, .int .i64 t24.lay.lo, .int .i64 t24.lay.hi, .int .i64 t24.seeded.lo, .int .i64 t24.seeded.hi, .int .i64 t24.left.lo, .int .i64 t24.left.hi] 77 (0, 0)), (b_2, .cells #[.slice qa0 na0 ca0, .slice qa1 na1 ca1, .map (some b_1)] 163 (0, 0)), (b_1, gobj (kR RPr) kB s_1.t15), (b, .cells #[.slice qa0 na0 ca0, .slice qa1 na1 ca1] 28 (0, 0))]) (fun s_1 l_4 => []) () (trivial) (sE rfl) (fun w hh => hh) (fun s_1 l_4 r_1 hpl hm h17 => ?_)
      unfold zo at hm
      refine jj (jp (jf rfl rfl (jf rfl rfl ?_)))
      obtain ⟨t30, h18, hm⟩ := bindO hm
      refine kt h18 rfl rfl rfl (jc rfl rfl rfl (fun _ _ => YT rfl rfl) (jo ?_))
      refine jq rfl (fun h19 => ?_) (fun h19 => ?_)
      ·replace hm := ifD h19 hm
       refine jr (jb (jj ?_))
       obtain ⟨o_2, h20, h21⟩ := bindO hm
       refine jC (ι := Unit) (fun l_5 => True) (fun l_5 => [(1, ptr b 0), (5, ptr b_2 0), (6, .int .i64 s.t21), (7, ptr b_3 0), (8, .int .i64 s_1.k8), (19, .slice qa0 na0 ca0), (20, .int .i64 (s0.strips.length : Int)), (21, .int .i64 s.t21)]) (fun l_5 => [(b_3, .cells #[.int .i64 t24.tenant, .int .i64 t24.lay.lo, .int .i64 t24.lay.hi, .int .i64 t24.seeded.lo, .int .i64 t24.seeded.hi, .int .i64 t24.left.lo, .int .i64 t24.left.hi] 77 (0, 0)), (b_2, .cells #[.slice qa0 na0 ca0, .slice qa1 na1 ca1, .map (some b_1)] 163 (0, 0)), (b_1, gobj (kR RPr) kB o_2), (b, .cells #[.slice qa0 na0 ca0, .slice qa1 na1 ca1] 28 (0, 0))]) (fun l_5 => []) ?_ ?_
       ·replace hm := h20
        refine jl (jp (kG [_, _] 3 Try.isAgg28 Try.sizeOf28 rfl rfl rfl rfl (jf rfl rfl ?_)))
        obtain ⟨t36, h22, hm⟩ := bindO hm
        refine jd [] [] rfl rfl rfl rfl rfl rfl rfl Try.call71 (fun w hh => KN s0 s_1.k8 qa0 na0 ca0 qa1 na1 ca1 w (HV.callee (S0 := []) (vs0 := []) hh (roR hh 0 rfl (roR hh 1 rfl roN))) hna0 hqa0 hla0 hna1 hqa1 hla1 h22) (fun l_6 h23 => ?_)
        refine jo ?_
        refine jq rfl (fun h24 => ?_) (fun h24 => ?_)
        ·replace hm := ifT (h24) hm
         refine jX none (.free 0 (.free 1 (.free 2 (.hoist 3 (.free 4 (.hoist 5 (.free 6 (.free 7 (.one 8 .done))))))))) (HV _ _ [(b_3, .cells #[.int .i64 t24.tenant, .int .i64 t24.lay.lo, .int .i64 t24.lay.hi, .int .i64 t24.seeded.lo, .int .i64 t24.seeded.hi, .int .i64 t24.left.lo, .int .i64 t24.left.hi] 77 (0, 0)), (b_2, .cells #[.slice qa0 na0 ca0, .slice qa1 na1 ca1, .map (some b_1)] 163 (0, 0)), (b, .cells #[.slice qa0 na0 ca0, .slice qa1 na1 ca1] 28 (0, 0))] [] _) rfl (by decide +kernel) (fun w k hh => hh.draw k) (hsE [0, 1, 3] [] 0 rfl rfl rfl rfl) ?_
         refine kg rfl rfl rfl (jk rfl rfl rfl rfl (fun _ _ => jJ rfl) (kO 2 Try.runUnderlying163 Try.sizeOf161 rfl rfl rfl rfl (qq 1 Try.isAgg161 rfl rfl rfl rfl rfl (kO 0 Try.runUnderlying77 Try.sizeOf3 rfl rfl rfl rfl (qq 0 Try.isAgg3 rfl rfl rfl rfl rfl (kg rfl rfl rfl (jk rfl rfl rfl rfl (fun _ _ => jG (vs := [(0, _), (1, _)]) (cells := [_, _]) rfl rfl) ?_)))))))
         refine jK rfl ?_
         obtain ⟨t15, ht15, hm⟩ := bindO hm
         refine jav (k := (⟨t24.tenant, s_1.k8⟩ : Pair)) (v := true) 2 (fun w => Try.runUnderlying161 w) Y1 rfl rfl rfl rfl (Option.some.inj ht15) rfl (ju (hsE [0, 1, 3] [] 0 rfl rfl rfl rfl) (jI (js ?_)))
         obtain rfl := sj hm
         exact jg () (trivial) (sE rfl) (fun w hh => hh)
        ·replace hm := ifN h24 hm
         refine jr (js ?_)
         obtain rfl := sj hm
         exact jg () (trivial) (sE rfl) (fun w hh => hh)
       ·intro l_5 hj
        replace hm := h21
        refine jb (jh (jf rfl rfl ?_))
        obtain ⟨t33, h25, hm⟩ := bindO hm
        refine kt h25 rfl rfl rfl (jm rfl rfl (jv ?_))
        obtain rfl := sj hm
        refine jb ?_
        exact jy _ () rfl (trivial) (sE rfl) (fun w hh => hh)
      ·replace hm := ifE h19 hm
       refine jM (ji (ji (jz ?_)))
       obtain rfl := sj hm
       have hbo := h17 _ rfl
       subst hbo
       exact jg () (trivial) (sE rfl) (fun w hh => hh)
     ·intro l_3 hj
      replace hm := h16
      refine js (jb (jh ?_))
      obtain ⟨t45, h26, hm⟩ := bindO hm
      refine kt h26 rfl rfl rfl (jf rfl rfl (jv ?_))
      obtain rfl := sj hm
      refine jb ?_
      exact jy _ () rfl (trivial) (sE rfl) (hsE [1, 2, 3] [] 0 rfl rfl rfl rfl)
    ·replace hm := ifE h11 hm
     refine jM (ji (ji (jz ?_)))
     obtain rfl := sj hm
     have hbo := h10 _ rfl
     subst hbo
     exact jg () (trivial) (sE rfl) (fun w hh => hh)
   ·intro l_1 hj
    replace hm := h9
    refine jb (jp (jf rfl rfl (jm rfl rfl (jm rfl rfl (jo (jw ?_))))))
    obtain rfl := sj hm
    refine jn rfl (fun w hh => (.tmp rfl (.tmp rfl .nil))) (fun w hh => ⟨(b_2, b_1), rfl, trivial, hh.se [0, 1] [] 2 rfl rfl rfl rfl⟩)
def Y6 (holds0_f00 : (List Strip)) (holds0_f01 : (List Span)) : Option Unit :=
 some ()
theorem jau (holds0_f00 : (List Strip)) (holds0_f01 : (List Span)) (rb : Nat) (qa1 : Option Addr) (na1 ca1 : Nat) (qa2 : Option Addr) (na2 ca2 : Nat) (mv : Value) (w : World) (hw : HV w (keys [] []) [] [] [(rb, 0, [.slice qa1 na1 ca1, .slice qa2 na2 ca2, mv]), (aB qa1, aO qa1, RSt.enc holds0_f00), (aB qa2, aO qa2, RSp.enc holds0_f01)] w)  (hna1 : holds0_f00.length = na1) (hqa1 : AOK na1 qa1) (hla1 : na1 ≤ ca1) (hna2 : holds0_f01.length = na2) (hqa2 : AOK na2 qa2) (hla2 : na2 ≤ ca2) {res : Unit} (hm : Y6 holds0_f00 holds0_f01 = some res) :
    Calls Try.prog 73 #[.func (.func 97) #[ptr rb 0] #[]] w (fun en w' => ∃ l : Nat, en = .returned (.agg #[.func (.func 122) #[] #[ptr l 0]]) ∧ (True) ∧ HV w (keys [] []) [(l, .cells #[.func (.func 97) #[ptr rb 0] #[]] 131 (0, 0))] [] [] w') := by
  unfold Y6 at hm
  refine kb Try.func73 rfl Try.ntmps73 rfl (e := [(0, _)]) rfl hw (jp ?_)
  refine jH rfl rfl (fun b h1 => ?_)
  refine jt (fun w => Try.zeroValue123 w) rfl (fun b_1 h2 => ?_)
  refine j1 (jc rfl rfl rfl (fun _ _ => jQ (u := #[]) (u' := #[_]) rfl rfl) (jc rfl rfl rfl (fun _ _ => jG (vs := [(0, _)]) (cells := [_]) rfl rfl) (jE (us := #[_]) (cs' := [_]) (S' := [_, _]) 0 (fun w => Try.sizeOf123 w) rfl rfl rfl rfl rfl rfl rfl (jo (jw ?_)))))
  obtain rfl := sj hm
  refine jn rfl (fun w hh => (.cell rfl (loadVar_agg (vs := [_]) (Try.isAgg123 _) (Try.sizeOf123 _) (hh.cells 0 rfl rfl)) .nil)) (fun w hh => ⟨b, rfl, trivial, hh.se [1] [] 3 rfl rfl rfl rfl⟩)
def JB (d00 : (List Strip)) (d01 : (List Span)) : Option Unit :=
 (Y6 d00 d01).bind fun t5 =>
 some ()
theorem QP (d00 : (List Strip)) (d01 : (List Span)) (rb : Nat) (qa1 : Option Addr) (na1 ca1 : Nat) (qa2 : Option Addr) (na2 ca2 : Nat) (mv : Value) (w : World) (hw : HV w (keys [] []) [] [] [(rb, 0, [.slice qa1 na1 ca1, .slice qa2 na2 ca2, mv]), (aB qa1, aO qa1, RSt.enc d00), (aB qa2, aO qa2, RSp.enc d01)] w)  (hna1 : d00.length = na1) (hqa1 : AOK na1 qa1) (hla1 : na1 ≤ ca1) (hna2 : d01.length = na2) (hqa2 : AOK na2 qa2) (hla2 : na2 ≤ ca2) {res : Unit} (hm : JB d00 d01 = some res) :
    Calls Try.prog 67 #[ptr rb 0] w (fun en w' => ∃ l : Nat, en = .returned (.agg #[.func (.func 122) #[] #[ptr l 0]]) ∧ (True) ∧ HV w (keys [] []) [(l, .cells #[.func (.func 97) #[ptr rb 0] #[]] 131 (0, 0))] [] [] w') := by
  unfold JB at hm
  refine kb Try.func67 rfl Try.ntmps67 rfl (e := [(0, _)]) rfl hw (jp ?_)
  refine jt (fun w => Try.zeroValue123 w) rfl (fun b h1 => ?_)
  refine j1 (jf rfl rfl (jc rfl rfl rfl (fun _ _ => jQ (u := #[_]) (u' := #[]) rfl rfl) ?_))
  obtain ⟨t5, h2, hm⟩ := bindO hm
  refine jd [] [] rfl rfl rfl rfl rfl rfl rfl Try.call73 (fun w hh => jau d00 d01 rb qa1 na1 ca1 qa2 na2 ca2 mv w (HV.callee (S0 := []) (vs0 := []) hh (roR hh 0 rfl (roR hh 1 rfl (roR hh 2 rfl roN)))) hna1 hqa1 hla1 hna2 hqa2 hla2 h2) (fun l h3 => ?_)
  refine jS (S' := [_, _]) (vs' := []) [0, 1] [] 0 rfl rfl rfl rfl (jE (us := #[_]) (cs' := [_]) (S' := [_, _]) 1 (fun w => Try.sizeOf123 w) rfl rfl rfl rfl rfl rfl rfl (jo (jw ?_)))
  obtain rfl := sj hm
  refine jn rfl (fun w hh => (.cell rfl (loadVar_agg (vs := [_]) (Try.isAgg123 _) (Try.sizeOf123 _) (hh.cells 1 rfl rfl)) .nil)) (fun w hh => ⟨l, rfl, trivial, hh.se [0] [] 3 rfl rfl rfl rfl⟩)
def Jw (d00 : (List Strip)) (d01 : (List Span)) (p1 : Pair) : Option Bool :=
 (ix d00 p1.strip).bind fun t12 =>
 some (!decide (t12.tenant = p1.tenant))
theorem YR (d00 : (List Strip)) (d01 : (List Span)) (p1 : Pair) (rb : Nat) (qa1 : Option Addr) (na1 ca1 : Nat) (qa2 : Option Addr) (na2 ca2 : Nat) (mv : Value) (w : World) (hw : HV w (keys [] []) [] [] [(rb, 0, [.slice qa1 na1 ca1, .slice qa2 na2 ca2, mv]), (aB qa1, aO qa1, RSt.enc d00), (aB qa2, aO qa2, RSp.enc d01)] w)  (hna1 : d00.length = na1) (hqa1 : AOK na1 qa1) (hla1 : na1 ≤ ca1) (hna2 : d01.length = na2) (hqa2 : AOK na2 qa2) (hla2 : na2 ≤ ca2) {res : Bool} (hm : Jw d00 d01 p1 = some res) :
    Calls Try.prog 97 #[ptr rb 0, .agg #[.int .i64 p1.tenant, .int .i64 p1.strip]] w (fun en w' => ∃ l : Unit, en = .returned (.bool res) ∧ (True) ∧ HV w (keys [] []) [] [] [] w') := by
  unfold Jw at hm
  refine kb Try.func97 rfl Try.ntmps97 rfl (e := [(0, _), (1, _)]) rfl hw (jp ?_)
  refine jH rfl rfl (fun b h1 => ?_)
  refine jm rfl rfl (jo (jj ?_))
  refine jX none (.free 0 (.free 1 (.free 2 (.free 3 (.hoist 4 (.free 5 (.hoist 6 (.free 7 (.free 8 (.hoist 9 (.free 10 (.hoist 11 (.free 12 (.free 13 .done)))))))))))))) _ rfl (by decide +kernel) (fun w k hh => hh.draw k) (fun w hh => hh) ?_
  refine kg rfl rfl rfl (jk rfl rfl rfl rfl (fun _ _ => jJ rfl) (kO 0 Try.runUnderlying163 Try.sizeOf28 rfl rfl rfl rfl (kO 0 Try.runUnderlying28 Try.sizeOf25 rfl rfl rfl rfl (jA rfl rfl rfl rfl (fun w hh => jY (Try.isAgg25 w) rfl (segCell (hh.seg 0 rfl) 0 rfl)) (kO 1 Try.runUnderlying128 Try.sizeOf3 rfl rfl rfl rfl (qq 0 Try.isAgg3 rfl rfl rfl rfl rfl ?_))))))
  obtain ⟨t12, h2, hm⟩ := bindO hm
  refine jk rfl rfl rfl rfl (fun w _ => jW h2 (Try.runUnderlying25 w) (Try.sizeOf77 w) rfl rfl hna1 hqa1) (kO 0 Try.runUnderlying77 Try.sizeOf3 rfl rfl rfl rfl (jA rfl rfl rfl rfl (fun w hh => jV RSt 0 h2 (Try.isAgg3 w) rfl (hh.seg 1 rfl) rfl rfl) (kO 0 Try.runUnderlying128 Try.sizeOf3 rfl rfl rfl rfl (qq 0 Try.isAgg3 rfl rfl rfl rfl rfl (jk rfl rfl rfl rfl (fun _ _ => kv rfl rfl) (jk rfl rfl rfl rfl (fun _ _ => jN rfl) (jI ?_)))))))
  refine jb (jw ?_)
  obtain rfl := sj hm
  refine jn rfl (fun w hh => (.tmp rfl .nil)) (fun w hh => ⟨(), rfl, trivial, hh.se [] [] 3 rfl rfl rfl rfl⟩)
def jP (p0 : Pair) (a11_f00 : (List Strip)) (a11_f01 : (List Span)) : Option Int :=
 (Jw a11_f00 a11_f01 p0).bind fun t6 =>
 if t6 = true then
 (some 1) else
 (some 0)
theorem zt (p0 : Pair) (a11_f00 : (List Strip)) (a11_f01 : (List Span)) (rb : Nat) (rb_1 : Nat) (qa2 : Option Addr) (na2 ca2 : Nat) (qa3 : Option Addr) (na3 ca3 : Nat) (mv : Value) (w : World) (hw : HV w (keys [] []) [] [] [(rb, 0, [.func (.func 97) #[ptr rb_1 0] #[]]), (rb_1, 0, [.slice qa2 na2 ca2, .slice qa3 na3 ca3, mv]), (aB qa2, aO qa2, RSt.enc a11_f00), (aB qa3, aO qa3, RSp.enc a11_f01)] w)   (hna2 : a11_f00.length = na2) (hqa2 : AOK na2 qa2) (hla2 : na2 ≤ ca2) (hna3 : a11_f01.length = na3) (hqa3 : AOK na3 qa3) (hla3 : na3 ≤ ca3) {res : Int} (hm : jP p0 a11_f00 a11_f01 = some res) :
    Calls Try.prog 122 #[.agg #[.int .i64 p0.tenant, .int .i64 p0.strip], ptr rb 0] w (fun en w' => ∃ l : Unit, en = .returned (.int .i64 res) ∧ (True) ∧ HV w (keys [] []) [] [] [] w') := by
  unfold jP at hm
  refine kb Try.func122 rfl Try.ntmps122 rfl (e := [(0, _), (1, _)]) rfl hw (jp ?_)
  refine jH rfl rfl (fun b h1 => ?_)
  refine jm rfl rfl (jo (jj (jp (jc rfl rfl rfl (fun w hh => jY (Try.isAgg131 w) rfl (segCell (hh.seg 0 rfl) 0 rfl)) (kG [_, _] 0 Try.isAgg128 Try.sizeOf128 rfl rfl rfl rfl ?_)))))
  obtain ⟨t6, h2, hm⟩ := bindO hm
  refine jd [] [] rfl rfl rfl rfl rfl rfl rfl Try.call97 (fun w hh => YR a11_f00 a11_f01 p0 rb_1 qa2 na2 ca2 qa3 na3 ca3 mv w (HV.callee (S0 := []) (vs0 := []) hh (roR hh 1 rfl (roR hh 2 rfl (roR hh 3 rfl roN)))) hna2 hqa2 hla2 hna3 hqa3 hla3 h2) (fun l h3 => ?_)
  refine jo ?_
  refine jq rfl (fun h4 => ?_) (fun h4 => ?_)
  ·replace hm := ifT (h4) hm
   refine jp (jm rfl rfl (jo (jw (je ?_))))
   obtain rfl := sj hm
   refine jn rfl (fun w hh => (.tmp rfl .nil)) (fun w hh => ⟨(), rfl, trivial, hh.se [] [] 4 rfl rfl rfl rfl⟩)
  ·replace hm := ifN h4 hm
   refine jr (jb (jp (jm rfl rfl (jo (jw ?_)))))
   obtain rfl := sj hm
   refine jn rfl (fun w hh => (.tmp rfl .nil)) (fun w hh => ⟨(), rfl, trivial, hh.se [] [] 4 rfl rfl rfl rfl⟩)
def Kj (d00 : (List Strip)) (d01 : (List Span)) (tenant1 : Int) : Option Int :=
 some tenant1
theorem YK (d00 : (List Strip)) (d01 : (List Span)) (tenant1 : Int) (rb : Nat) (qa1 : Option Addr) (na1 ca1 : Nat) (qa2 : Option Addr) (na2 ca2 : Nat) (mv : Value) (w : World) (hw : HV w (keys [] []) [] [] [(rb, 0, [.slice qa1 na1 ca1, .slice qa2 na2 ca2, mv]), (aB qa1, aO qa1, RSt.enc d00), (aB qa2, aO qa2, RSp.enc d01)] w)  (hna1 : d00.length = na1) (hqa1 : AOK na1 qa1) (hla1 : na1 ≤ ca1) (hna2 : d01.length = na2) (hqa2 : AOK na2 qa2) (hla2 : na2 ≤ ca2) {res : Int} (hm : Kj d00 d01 tenant1 = some res) :
    Calls Try.prog 100 #[ptr rb 0, .int .i64 tenant1] w (fun en w' => ∃ l : Nat × Nat, en = .returned (.func (.func 134) #[] #[ptr l.1 0, ptr l.2 0]) ∧ (True) ∧ HV w (keys [] []) [(l.1, .cells #[ptr rb 0] 115 (0, 0)), (l.2, .cells #[.int .i64 res] 3 (0, 0))] [] [] w') := by
  unfold Kj at hm
  refine kb Try.func100 rfl Try.ntmps100 rfl (e := [(0, _), (1, _)]) rfl hw (jp ?_)
  refine jH rfl rfl (fun b h1 => ?_)
  refine jH rfl rfl (fun b_1 h2 => ?_)
  refine jm rfl rfl (j1 (jc rfl rfl rfl (fun _ _ => jQ (u := #[]) (u' := #[_, _]) rfl rfl) (jm rfl rfl (jo (jw ?_)))))
  obtain rfl := sj hm
  refine jn rfl (fun w hh => (.tmp rfl .nil)) (fun w hh => ⟨(b, b_1), rfl, trivial, hh.se [1, 0] [] 3 rfl rfl rfl rfl⟩)
structure zJ where
  t19 : Int
  t12 : (List Wy)
def qH (d00 : (List Strip)) (s : zJ) : Option (zJ ⊕ (List Wy)) :=
 if s.t19 < (d00.length : Int) then
 ((ix d00 s.t19).bind fun t22 =>
 (addc 1 s.t19).bind fun t30 =>
 (j9 (⟨t22.tenant, (⟨t22.lay.lo, t22.lay.hi⟩ : Span), (⟨t22.seeded.lo, t22.seeded.hi⟩ : Span), (⟨t22.left.lo, t22.left.hi⟩ : Span)⟩ : Strip)).bind fun t32 =>
 (j9 (⟨t22.tenant, (⟨t22.lay.lo, t22.lay.hi⟩ : Span), (⟨t22.seeded.lo, t22.seeded.hi⟩ : Span), (⟨t22.left.lo, t22.left.hi⟩ : Span)⟩ : Strip)).bind fun t35 =>
 (appc 48 s.t12 [(⟨0, t30, t32.lo, t35.hi, 0, 0⟩ : Wy)]).bind fun t39 =>
 (addc s.t19 1).bind fun t42 =>
 some (.inl (⟨t42, t39⟩ : zJ))) else
 (some (.inr s.t12))
structure yo where
  t49 : Int
  t12 : (List Wy)
def yz (s_1 : yo) (c1_0 : (Pair → Option Int)) (x : Int) (s_2 : (List Wy)) : Option (List Wy) :=
 (addc 1 x).bind fun t64 =>
 (addc 7 s_1.t49).bind fun t66 =>
 (c1_0 (⟨s_1.t49, x⟩ : Pair)).bind fun t72 =>
 (appc 48 s_2 [(⟨t64, t66, 0, 1000000, t72, 0⟩ : Wy)]).bind fun t75 =>
 some t75
def qG (d01 : (List Span)) (d00 : (List Strip)) (c1_0 : (Pair → Option Int)) (d02 : (List (Pair × Bool))) (s_1 : yo) : Option (yo ⊕ (List Wy)) :=
 if s_1.t49 < (d01.length : Int) then
 ((ix d01 s_1.t49).bind fun t52 =>
 (Kj d00 d01 s_1.t49).bind fun t56 =>
 if (d00.length : Int) ≤ 1000000 then ((iterL (yz s_1 c1_0) (reachL d00.length d02 t56) s_1.t12).bind fun o_2 =>
 (addc 7 s_1.t49).bind fun t84 =>
 (appc 48 o_2 [(⟨t84, 0, t52.lo, t52.hi, 0, 0⟩ : Wy)]).bind fun t91 =>
 (addc s_1.t49 1).bind fun t94 =>
 some (.inl (⟨t94, t91⟩ : yo))) else none) else
 (some (.inr s_1.t12))
def JD (d00 : (List Strip)) (d01 : (List Span)) (d02 : (List (Pair × Bool))) (c1_0 : (Pair → Option Int)) : Option (List Wy) :=
 (iterM FU (qH d00) (⟨0, []⟩ : zJ)).bind fun o =>
 (iterM FU (qG d01 d00 c1_0 d02) (⟨0, o⟩ : yo)).bind fun o_1 =>
 some o_1
theorem Zx (d00 : (List Strip)) (d01 : (List Span)) (d02 : (List (Pair × Bool))) (c1_0 : (Pair → Option Int)) (rb : Nat) (qa1 : Option Addr) (na1 ca1 : Nat) (qa2 : Option Addr) (na2 ca2 : Nat) (pb : Nat) (f_c1_0 : FuncId) (fs_c1_0 cs_c1_0 : Array Value) (T_c1_0 : List Sg) (w : World) (hw : HV w (keys [(pb, gobj (kR RPr) kB d02)] []) [(pb, gobj (kR RPr) kB d02)] [] ([(rb, 0, [.slice qa1 na1 ca1, .slice qa2 na2 ca2, .map (some pb)]), (aB qa1, aO qa1, RSt.enc d00), (aB qa2, aO qa2, RSp.enc d01)] ++ T_c1_0) w)  (hna1 : d00.length = na1) (hqa1 : AOK na1 qa1) (hla1 : na1 ≤ ca1) (hna2 : d01.length = na2) (hqa2 : AOK na2 qa2) (hla2 : na2 ≤ ca2) (hcl_c1_0 : ClOK Try.prog f_c1_0 fs_c1_0 cs_c1_0 T_c1_0 (fun x : Pair => [.agg #[.int .i64 x.tenant, .int .i64 x.strip]]) (fun x : Int => .int .i64 x) c1_0) {res : (List Wy)} (hm : JD d00 d01 d02 c1_0 = some res) :
    Calls Try.prog 116 #[ptr rb 0, .agg #[.func (.func f_c1_0) fs_c1_0 cs_c1_0]] w (fun en w' => ∃ l : Nat × VL, en = .returned (ptr l.1 0) ∧ (VOK 6 l.2.n l.2.cap (RWay.enc res) l.2.sp l.2.q) ∧ HV w (keys [(pb, gobj (kR RPr) kB d02)] []) [(pb, gobj (kR RPr) kB d02), (l.1, .cells #[slv l.2.q l.2.n l.2.cap] 168 (0, 0))] [⟨170, RWay.enc res, l.2.sp, l.2.q, []⟩] [] w') := by
  unfold JD at hm
  refine ZP (args := [ptr rb 0, .agg #[.func (.func f_c1_0) fs_c1_0 cs_c1_0]]) Try.func116 rfl Try.ntmps116 rfl (e := [(0, _), (1, _)]) rfl (H := HV w (keys [(pb, gobj (kR RPr) kB d02)] []) [(pb, gobj (kR RPr) kB d02)] [] ([(rb, 0, [.slice qa1 na1 ca1, .slice qa2 na2 ca2, .map (some pb)]), (aB qa1, aO qa1, RSt.enc d00), (aB qa2, aO qa2, RSp.enc d01)] ++ T_c1_0)) hw ?_
  refine Zd (jp ?_)
  refine jH rfl rfl (fun b h2 => ?_)
  refine jm rfl rfl (j1 (jc rfl rfl rfl (fun _ _ => jG (vs := []) (cells := [_]) rfl rfl) ?_))
  refine jH rfl rfl (fun b_1 h3 => ?_)
  refine jt (fun w => Try.zeroValue118 w) rfl (fun b_2 h4 => ?_)
  refine yV (cs' := #[_]) (S' := [_, _, _, _]) 0 (fun w => Try.sizeOf118 w) rfl rfl rfl rfl rfl rfl rfl (jo (jj (jp (jf rfl rfl (jc rfl rfl rfl (fun _ _ => jJ rfl) (jL 0 Try.runUnderlying163 rfl Try.sizeOf28 rfl rfl (jL 0 Try.runUnderlying28 rfl Try.sizeOf25 rfl rfl ?_)))))))
  refine jc rfl rfl rfl (fun w hh => jY (Try.isAgg25 w) rfl (segCell (hh.seg 0 rfl) 0 rfl)) (jc rfl rfl rfl (fun w _ => jB hna1 (Try.runUnderlying25 w) rfl) (jf rfl rfl (jo (kr 170 ?_))))
  obtain ⟨o, h5, h6⟩ := bindO hm
  refine YN (ι := VL) (fun l => mks []) (fun l => VOK 6 l.n l.cap (RWay.enc o) l.sp l.q) (fun l => [(0, ptr rb 0), (3, ptr b 0), (5, ptr b_2 0)]) (fun l => [(b_2, .cells #[ptr b_1 0] 118 (0, 0)), (b_1, .cells #[slv l.q l.n l.cap] 168 (0, 0)), (b, .cells #[.func (.func f_c1_0) fs_c1_0 cs_c1_0] 123 (0, 0)), (pb, gobj (kR RPr) kB d02)]) (fun l => [⟨170, RWay.enc o, l.sp, l.q, []⟩, mkV []]) ?_ ?_
  ·replace hm := h5
   refine jl ?_
   refine Yd (ι := VL) hm (fun s l_1 => mks []) (fun s l_1 => VOK 6 l_1.n l_1.cap (RWay.enc s.t12) l_1.sp l_1.q) (fun s l_1 => [(0, ptr rb 0), (3, ptr b 0), (5, ptr b_2 0), (17, .slice qa1 na1 ca1), (18, .int .i64 (d00.length : Int)), (19, .int .i64 s.t19)]) (fun s l_1 => [(b_2, .cells #[ptr b_1 0] 118 (0, 0)), (b_1, .cells #[slv l_1.q l_1.n l_1.cap] 168 (0, 0)), (b, .cells #[.func (.func f_c1_0) fs_c1_0 cs_c1_0] 123 (0, 0)), (pb, gobj (kR RPr) kB d02)]) (fun s l_1 => [⟨170, RWay.enc s.t12, l_1.sp, l_1.q, []⟩, mkV []]) ⟨none, 0, 0, []⟩ rfl (VOK.nil) (sE rfl) (fun w hh => hh) (fun s l_1 r hpl hm h9 => ?_)
   have h8 := hpl
   unfold qH at hm
   refine jp (qv rfl rfl rfl (jo (jj ?_)))
   refine jq rfl (fun h10 => ?_) (fun h10 => ?_)
   ·replace hm := ifD h10 hm
    refine jr (jb (jj (jl (jp (jf rfl rfl ?_)))))
    obtain ⟨t22, h11, hm⟩ := bindO hm
    refine jc rfl rfl rfl (fun w _ => jW h11 (Try.runUnderlying25 w) (Try.sizeOf77 w) rfl rfl hna1 hqa1) ?_
    refine jc rfl rfl rfl (fun w hh => kk RSt 0 [.int .i64 t22.tenant, .int .i64 t22.lay.lo, .int .i64 t22.lay.hi, .int .i64 t22.seeded.lo, .int .i64 t22.seeded.hi, .int .i64 t22.left.lo, .int .i64 t22.left.hi] h11 (Try.isAgg77 w) (Try.sizeOf77 w) rfl (hh.seg 1 rfl) rfl (Nat.add_zero _).symm) ?_
    refine jt (fun w => Try.zeroValue77 w) rfl (fun b_3 h12 => ?_)
    refine jm rfl rfl (jE (us := #[_, _, _, _, _, _, _]) (cs' := [_, _, _, _, _, _, _]) (S' := [_, _, _, _, _]) 0 (fun w => Try.sizeOf77 w) rfl rfl rfl rfl rfl rfl rfl (jo ?_))
    refine jX (some 18) (.hoist 0 (.hoist 1 (.free 2 (.free 3 (.hoist 4 (.free 5 (.free 6 (.hoist 7 (.hoist 10 (.one 8 (.free 9 (.one 11 (.free 12 (.free 13 (.one 14 (.one 15 (.free 16 (.free 17 (.last 18 .done))))))))))))))))))) (HV _ _ [(b_3, .cells #[.int .i64 t22.tenant, .int .i64 t22.lay.lo, .int .i64 t22.lay.hi, .int .i64 t22.seeded.lo, .int .i64 t22.seeded.hi, .int .i64 t22.left.lo, .int .i64 t22.left.hi] 77 (0, 0)), (b_2, .cells #[ptr b_1 0] 118 (0, 0)), (b_1, .cells #[slv l_1.q l_1.n l_1.cap] 168 (0, 0)), (b, .cells #[.func (.func f_c1_0) fs_c1_0 cs_c1_0] 123 (0, 0)), (pb, gobj (kR RPr) kB d02)] [mkV []] _) rfl (by decide +kernel) (fun w k hh => hh.draw k) (hsE [0, 1, 2, 3, 4] [1] 0 rfl rfl rfl rfl) ?_
    refine qq 1 Try.isAgg118 rfl rfl rfl rfl rfl (qq 1 Try.isAgg118 rfl rfl rfl rfl rfl (jk rfl rfl rfl rfl (fun _ _ => jJ rfl) (kO 0 Try.runUnderlying168 Try.sizeOf166 rfl rfl rfl rfl (qq 2 Try.isAgg166 rfl rfl rfl rfl rfl (kg rfl rfl rfl ?_)))))
    obtain ⟨t30, h13, hm⟩ := bindO hm
    refine jk rfl rfl rfl rfl (fun _ _ => Jg h13 rfl rfl) (jA rfl rfl rfl rfl (fun w hh => kl (vs := [_, _, _, _, _, _, _]) (Try.isAgg77 w) (Try.sizeOf77 w) rfl (hh.cells 0 rfl rfl)) (jA rfl rfl rfl rfl (fun w hh => kl (vs := [_, _, _, _, _, _, _]) (Try.isAgg77 w) (Try.sizeOf77 w) rfl (hh.cells 0 rfl rfl)) (jK rfl ?_)))
    obtain ⟨t32, h14, hm⟩ := bindO hm
    refine jd [] [] rfl rfl rfl rfl rfl rfl rfl Try.call64 (fun w hh => qK (⟨t22.tenant, (⟨t22.lay.lo, t22.lay.hi⟩ : Span), (⟨t22.seeded.lo, t22.seeded.hi⟩ : Span), (⟨t22.left.lo, t22.left.hi⟩ : Span)⟩ : Strip) w (HV.callee (S0 := []) (vs0 := []) hh roN)  h14) (fun l_2 h15 => ?_)
    refine ju (hsE [0, 1, 2, 3, 4] [1] 0 rfl rfl rfl rfl) (jk rfl rfl rfl rfl (fun w _ => Yk 3 0 (Try.runUnderlying37 w) rfl (Try.isAgg3 w) rfl rfl) (jK rfl ?_))
    obtain ⟨t35, h16, hm⟩ := bindO hm
    refine jd [] [] rfl rfl rfl rfl rfl rfl rfl Try.call64 (fun w hh => qK (⟨t22.tenant, (⟨t22.lay.lo, t22.lay.hi⟩ : Span), (⟨t22.seeded.lo, t22.seeded.hi⟩ : Span), (⟨t22.left.lo, t22.left.hi⟩ : Span)⟩ : Strip) w (HV.callee (S0 := []) (vs0 := []) hh roN)  h16) (fun l_3 h17 => ?_)
    refine ju (hsE [0, 1, 2, 3, 4] [1] 0 rfl rfl rfl rfl) (jk rfl rfl rfl rfl (fun w _ => Yk 3 1 (Try.runUnderlying37 w) rfl (Try.isAgg3 w) rfl rfl) (jk rfl rfl rfl rfl (fun _ _ => jG (vs := [(0, _), (1, _), (2, _), (3, _)]) (cells := [_, _, _, _, _, _]) rfl rfl) (jK rfl ?_)))
    refine kW RWay [(⟨0, t30, t32.lo, t35.hi, 0, 0⟩ : Wy)] (ps := [(0, _)]) (cells := [_, _, _, _, _, _]) (fun w => Try.runUnderlying166 w) (fun w => Try.sizeOf170 w) (fun w => Try.zeroValue170 w) rfl rfl rfl rfl rfl rfl rfl rfl (fun L h18 => ?_)
    refine ju (hsE [0, 1, 2, 3, 4] [2] 0 rfl rfl rfl rfl) (jK rfl ?_)
    obtain ⟨t39, h19, hm⟩ := bindO hm
    refine y4 RWay 1 h19 Try.underlying166 YZ rfl rfl rfl rfl rfl h8 rfl rfl (vlen RWay h18 rfl) (AOK.q (vne h18)) (fun w hh => (hh.vsegA 0 rfl h18)) rfl (fun L_1 h20 h20n => ?_)
    refine jS (S' := [_, _, _, _, _]) (vs' := [_, _, _]) [0, 1, 2, 3, 4] [0, 1, 2] 0 rfl rfl rfl rfl (ju (hsE [0, 1, 2, 3, 4] [2] 0 rfl rfl rfl rfl) (jk rfl rfl rfl rfl (fun _ _ => jJ rfl) (kO 0 Try.runUnderlying168 Try.sizeOf166 rfl rfl rfl rfl (Q8 rfl (yV (cs' := #[_]) (S' := [_, _, _, _, _]) 2 (fun w => Try.sizeOf166 w) rfl rfl rfl rfl rfl rfl rfl (K4 (jI ?_)))))))
    refine js (jb (jh ?_))
    obtain ⟨t42, h21, hm⟩ := bindO hm
    refine kt h21 rfl rfl rfl (jf rfl rfl (jv ?_))
    obtain rfl := sj hm
    refine jb ?_
    exact QL _ L_1 rfl rfl (h20) (sE rfl) (hsE [1, 2, 3, 4] [1, 2] 0 rfl rfl rfl rfl)
   ·replace hm := ifE h10 hm
    refine jM (ji (ji (jz ?_)))
    obtain rfl := sj hm
    have hbo := h9 _ rfl
    subst hbo
    exact K3 l_1 rfl (h8) (sE rfl) (fun w hh => hh)
  ·intro l hj
   have h7 := hj
   replace hm := h6
   refine jb (jj (jp (jf rfl rfl (jc rfl rfl rfl (fun _ _ => jJ rfl) (jL 0 Try.runUnderlying163 rfl Try.sizeOf28 rfl rfl (jL 1 Try.runUnderlying28 rfl Try.sizeOf26 rfl rfl (jc rfl rfl rfl (fun w hh => jY (Try.isAgg26 w) rfl (segCell (hh.seg 0 rfl) 1 rfl)) ?_)))))))
   refine jc rfl rfl rfl (fun w _ => jB hna2 (Try.runUnderlying26 w) rfl) (jf rfl rfl (jo ?_))
   obtain ⟨o_1, h22, h23⟩ := bindO hm
   refine YN (ι := VL × List Nat) (fun l_4 => mks l_4.2) (fun l_4 => VOK 6 l_4.1.n l_4.1.cap (RWay.enc o_1) l_4.1.sp l_4.1.q) (fun l_4 => [(5, ptr b_2 0)]) (fun l_4 => [(b_2, .cells #[ptr b_1 0] 118 (0, 0)), (b_1, .cells #[slv l_4.1.q l_4.1.n l_4.1.cap] 168 (0, 0)), (b, .cells #[.func (.func f_c1_0) fs_c1_0 cs_c1_0] 123 (0, 0)), (pb, gobj (kR RPr) kB d02)]) (fun l_4 => [⟨170, RWay.enc o_1, l_4.1.sp, l_4.1.q, []⟩, mkV l_4.2]) ?_ ?_
   ·replace hm := h22
    refine jl ?_
    refine Yd (ι := VL × List Nat) hm (fun s_1 l_5 => mks l_5.2) (fun s_1 l_5 => VOK 6 l_5.1.n l_5.1.cap (RWay.enc s_1.t12) l_5.1.sp l_5.1.q) (fun s_1 l_5 => [(0, ptr rb 0), (3, ptr b 0), (5, ptr b_2 0), (47, .slice qa2 na2 ca2), (48, .int .i64 (d01.length : Int)), (49, .int .i64 s_1.t49)]) (fun s_1 l_5 => [(b_2, .cells #[ptr b_1 0] 118 (0, 0)), (b_1, .cells #[slv l_5.1.q l_5.1.n l_5.1.cap] 168 (0, 0)), (b, .cells #[.func (.func f_c1_0) fs_c1_0 cs_c1_0] 123 (0, 0)), (pb, gobj (kR RPr) kB d02)]) (fun s_1 l_5 => [⟨170, RWay.enc s_1.t12, l_5.1.sp, l_5.1.q, []⟩, mkV l_5.2]) (l, []) rfl (h7) (sE rfl) (fun w hh => hh) (fun s_1 l_5 r_1 hpl hm h26 => ?_)
    have h25 := hpl
    unfold qG at hm
    refine jp (qv rfl rfl rfl (jo (jj ?_)))
    refine jq rfl (fun h27 => ?_) (fun h27 => ?_)
    ·replace hm := ifD h27 hm
     refine jr (jb (jj (jl (jp (jf rfl rfl ?_)))))
     obtain ⟨t52, h28, hm⟩ := bindO hm
     refine jc rfl rfl rfl (fun w _ => jW h28 (Try.runUnderlying26 w) (Try.sizeOf37 w) rfl rfl hna2 hqa2) ?_
     refine jc rfl rfl rfl (fun w hh => kk RSp 0 [.int .i64 t52.lo, .int .i64 t52.hi] h28 (Try.isAgg37 w) (Try.sizeOf37 w) rfl (hh.seg 2 rfl) rfl (Nat.add_zero _).symm) ?_
     refine jt (fun w => Try.zeroValue3 w) rfl (fun b_4 h29 => ?_)
     refine jt (fun w => Try.zeroValue37 w) rfl (fun b_5 h30 => ?_)
     refine yV (cs' := #[_]) (S' := [_, _, _, _, _, _]) 1 (fun w => Try.sizeOf3 w) rfl rfl rfl rfl rfl rfl rfl (jE (us := #[_, _]) (cs' := [_, _]) (S' := [_, _, _, _, _, _]) 0 (fun w => Try.sizeOf37 w) rfl rfl rfl rfl rfl rfl rfl (jo (jj (jp (jf rfl rfl (jU 1 Try.isAgg3 rfl rfl rfl rfl ?_))))))
     obtain ⟨t56, h31, hm⟩ := bindO hm
     refine jd [] [] rfl rfl rfl rfl rfl rfl rfl Try.call100 (fun w hh => YK d00 d01 s_1.t49 rb qa1 na1 ca1 qa2 na2 ca2 (.map (some pb)) w (HV.callee (S0 := []) (vs0 := []) hh (roR hh 0 rfl (roR hh 1 rfl (roR hh 2 rfl roN)))) hna1 hqa1 hla1 hna2 hqa2 hla2 h31) (fun l_6 h32 => ?_)
     refine jS (S' := [_, _, _, _, _, _, _, _]) (vs' := [_, _]) [0, 1, 2, 3, 4, 5, 6, 7] [0, 1] 0 rfl rfl rfl rfl (jo (jl ?_))
     obtain ⟨h33, hm⟩ := ifO hm
     refine ZS (e' := [(0, ptr rb 0), (3, ptr b 0), (5, ptr b_2 0), (8, ptr b_4 0), (9, ptr b_5 0), (47, .slice qa2 na2 ca2), (48, .int .i64 (d01.length : Int)), (49, .int .i64 s_1.t49), (56, .func (.func 134) #[] #[ptr l_6.1 0, ptr l_6.2 0])]) (sE rfl) ?_
     obtain ⟨o_2, h34, hm⟩ := bindO hm
     refine jah (ι := VL) (reachL d00.length d02 t56) (fun x => .int .i64 x) h34 (fun s_2 l_7 => VOK 6 l_7.n l_7.cap (RWay.enc s_2) l_7.sp l_7.q) (fun s_2 l_7 => [(l_6.1, .cells #[ptr rb 0] 115 (0, 0)), (l_6.2, .cells #[.int .i64 t56] 3 (0, 0)), (b_5, .cells #[.int .i64 t52.lo, .int .i64 t52.hi] 37 (0, 0)), (b_4, .cells #[.int .i64 s_1.t49] 3 (0, 0)), (b_2, .cells #[ptr b_1 0] 118 (0, 0)), (b_1, .cells #[slv l_7.q l_7.n l_7.cap] 168 (0, 0)), (b, .cells #[.func (.func f_c1_0) fs_c1_0 cs_c1_0] 123 (0, 0)), (pb, gobj (kR RPr) kB d02)]) (fun s_2 l_7 => [⟨170, RWay.enc s_2, l_7.sp, l_7.q, []⟩, mkV l_5.2]) l_5.1 (h25) (fun w hh => hh) (RdReach l_6.1 l_6.2 rb pb t56 qa1 na1 ca1 d02) (fun s_2 l_7 w h35 hh => ⟨hh.cell 0 rfl rfl, hh.cell 1 rfl rfl, segCell (hh.seg 0 rfl) 0 rfl, segCell (hh.seg 0 rfl) 2 rfl, hh.get 7 rfl⟩) (it_reach _ _ _ l_6.1 l_6.2 rb pb t56 qa1 na1 ca1 d00 d02 hna1 h33) rfl Try.call134 rfl (e1 := fun x => (10, .int .i64 x) :: (57, .int .i64 x) :: [(0, ptr rb 0), (3, ptr b 0), (5, ptr b_2 0), (8, ptr b_4 0), (9, ptr b_5 0), (47, .slice qa2 na2 ca2), (48, .int .i64 (d01.length : Int)), (49, .int .i64 s_1.t49), (56, .func (.func 134) #[] #[ptr l_6.1 0, ptr l_6.2 0])]) (fun x lr H X hX => ?_) (fun x s_2 r_2 l_7 lr w1 h35 hm => ?_) (fun l_7 D h35 => ?_)
     ·refine jh ?_
      refine jm rfl rfl (jo ?_)
      exact hX
     ·have h36 := h35
      unfold yz at hm
      refine jl ?_
      refine jX (some 20) (.hoist 0 (.hoist 1 (.free 2 (.free 3 (.hoist 4 (.free 5 (.free 6 (.hoist 7 (.free 8 (.free 9 (.hoist 10 (.hoist 11 (.free 12 (.free 13 (.one 14 (.free 15 (.one 16 (.one 17 (.free 18 (.free 19 (.last 20 .done))))))))))))))))))))) (HV _ _ [(l_6.1, .cells #[ptr rb 0] 115 (0, 0)), (l_6.2, .cells #[.int .i64 t56] 3 (0, 0)), (b_5, .cells #[.int .i64 t52.lo, .int .i64 t52.hi] 37 (0, 0)), (b_4, .cells #[.int .i64 s_1.t49] 3 (0, 0)), (b_2, .cells #[ptr b_1 0] 118 (0, 0)), (b_1, .cells #[slv l_7.q l_7.n l_7.cap] 168 (0, 0)), (b, .cells #[.func (.func f_c1_0) fs_c1_0 cs_c1_0] 123 (0, 0)), (pb, gobj (kR RPr) kB d02)] [mkV l_5.2] _) rfl (by decide +kernel) (fun w k hh => hh.draw k) (hsE [0, 1, 2, 3, 4, 5, 6, 7] [1] 0 rfl rfl rfl rfl) ?_
      refine qq 4 Try.isAgg118 rfl rfl rfl rfl rfl (qq 4 Try.isAgg118 rfl rfl rfl rfl rfl (jk rfl rfl rfl rfl (fun _ _ => jJ rfl) (kO 0 Try.runUnderlying168 Try.sizeOf166 rfl rfl rfl rfl (qq 5 Try.isAgg166 rfl rfl rfl rfl rfl (kg rfl rfl rfl ?_)))))
      obtain ⟨t64, h39, hm⟩ := bindO hm
      refine jk rfl rfl rfl rfl (fun _ _ => Jg h39 rfl rfl) (qq 3 Try.isAgg3 rfl rfl rfl rfl rfl ?_)
      obtain ⟨t66, h40, hm⟩ := bindO hm
      refine jk rfl rfl rfl rfl (fun _ _ => Jg h40 rfl rfl) (kO 0 Try.runUnderlying123 Try.sizeOf121 rfl rfl rfl rfl (qq 6 Try.isAgg121 rfl rfl rfl rfl rfl (qq 3 Try.isAgg3 rfl rfl rfl rfl rfl (kg rfl rfl rfl (jk rfl rfl rfl rfl (fun _ _ => jG (vs := [(0, _), (1, _)]) (cells := [_, _]) rfl rfl) (jK rfl ?_))))))
      obtain ⟨t72, h41, hm⟩ := bindO hm
      refine Y3 hcl_c1_0 (fun t ht => (List.mem_cons_of_mem _ (List.mem_cons_of_mem _ (List.mem_cons_of_mem _ ht)))) h41 rfl rfl rfl rfl rfl rfl (ju (hsE [0, 1, 2, 3, 4, 5, 6, 7] [1] 0 rfl rfl rfl rfl) (jk rfl rfl rfl rfl (fun _ _ => jG (vs := [(0, _), (1, _), (3, _), (4, _)]) (cells := [_, _, _, _, _, _]) rfl rfl) (jK rfl ?_)))
      refine kW RWay [(⟨t64, t66, 0, 1000000, t72, 0⟩ : Wy)] (ps := [(0, _)]) (cells := [_, _, _, _, _, _]) (fun w => Try.runUnderlying166 w) (fun w => Try.sizeOf170 w) (fun w => Try.zeroValue170 w) rfl rfl rfl rfl rfl rfl rfl rfl (fun L_2 h42 => ?_)
      refine ju (hsE [0, 1, 2, 3, 4, 5, 6, 7] [2] 0 rfl rfl rfl rfl) (jK rfl ?_)
      obtain ⟨t75, h43, hm⟩ := bindO hm
      refine y4 RWay 1 h43 Try.underlying166 YZ rfl rfl rfl rfl rfl h36 rfl rfl (vlen RWay h42 rfl) (AOK.q (vne h42)) (fun w hh => (hh.vsegA 0 rfl h42)) rfl (fun L_3 h44 h44n => ?_)
      refine jS (S' := [_, _, _, _, _, _, _, _]) (vs' := [_, _, _]) [0, 1, 2, 3, 4, 5, 6, 7] [0, 1, 2] 0 rfl rfl rfl rfl (ju (hsE [0, 1, 2, 3, 4, 5, 6, 7] [2] 0 rfl rfl rfl rfl) (jk rfl rfl rfl rfl (fun _ _ => jJ rfl) (kO 0 Try.runUnderlying168 Try.sizeOf166 rfl rfl rfl rfl (Q8 rfl (yV (cs' := #[_]) (S' := [_, _, _, _, _, _, _, _]) 5 (fun w => Try.sizeOf166 w) rfl rfl rfl rfl rfl rfl rfl (K4 (jI ?_)))))))
      refine js ?_
      obtain rfl := sj hm
      exact jaR t75 L_3 rfl (h44) (fun w hh => hh.selN [0, 1, 2, 3, 4, 5, 6, 7] [1, 2] (by decide) (by decide) rfl rfl)
     ·have h45 := h35
      refine Y7 1 rfl rfl (js (jb ?_))
      refine jX (some 16) (.hoist 0 (.hoist 1 (.free 2 (.free 3 (.hoist 4 (.hoist 5 (.free 6 (.free 7 (.hoist 8 (.free 9 (.hoist 10 (.free 11 (.one 12 (.one 13 (.free 14 (.free 15 (.last 16 .done))))))))))))))))) (HV _ _ [(l_6.1, .cells #[ptr rb 0] 115 (0, 0)), (l_6.2, .cells #[.int .i64 t56] 3 (0, 0)), (b_5, .cells #[.int .i64 t52.lo, .int .i64 t52.hi] 37 (0, 0)), (b_4, .cells #[.int .i64 s_1.t49] 3 (0, 0)), (b_2, .cells #[ptr b_1 0] 118 (0, 0)), (b_1, .cells #[slv l_7.q l_7.n l_7.cap] 168 (0, 0)), (b, .cells #[.func (.func f_c1_0) fs_c1_0 cs_c1_0] 123 (0, 0)), (pb, gobj (kR RPr) kB d02)] [mkV (D :: l_5.2)] _) rfl (by decide +kernel) (fun w k hh => hh.draw k) (hsE [0, 1, 2, 3, 4, 5, 6, 7] [1] 0 rfl rfl rfl rfl) ?_
      refine qq 4 Try.isAgg118 rfl rfl rfl rfl rfl (qq 4 Try.isAgg118 rfl rfl rfl rfl rfl (jk rfl rfl rfl rfl (fun _ _ => jJ rfl) (kO 0 Try.runUnderlying168 Try.sizeOf166 rfl rfl rfl rfl (qq 5 Try.isAgg166 rfl rfl rfl rfl rfl (qq 3 Try.isAgg3 rfl rfl rfl rfl rfl ?_)))))
      obtain ⟨t84, h46, hm⟩ := bindO hm
      refine jk rfl rfl rfl rfl (fun _ _ => Jg h46 rfl rfl) (kO 0 Try.runUnderlying37 Try.sizeOf3 rfl rfl rfl rfl (qq 2 Try.isAgg3 rfl rfl rfl rfl rfl (kO 1 Try.runUnderlying37 Try.sizeOf3 rfl rfl rfl rfl (qq 2 Try.isAgg3 rfl rfl rfl rfl rfl (jk rfl rfl rfl rfl (fun _ _ => jG (vs := [(0, _), (1, _), (2, _), (3, _)]) (cells := [_, _, _, _, _, _]) rfl rfl) (jK rfl ?_))))))
      refine kW RWay [(⟨t84, 0, t52.lo, t52.hi, 0, 0⟩ : Wy)] (ps := [(0, _)]) (cells := [_, _, _, _, _, _]) (fun w => Try.runUnderlying166 w) (fun w => Try.sizeOf170 w) (fun w => Try.zeroValue170 w) rfl rfl rfl rfl rfl rfl rfl rfl (fun L_4 h47 => ?_)
      refine ju (hsE [0, 1, 2, 3, 4, 5, 6, 7] [2] 0 rfl rfl rfl rfl) (jK rfl ?_)
      obtain ⟨t91, h48, hm⟩ := bindO hm
      refine y4 RWay 1 h48 Try.underlying166 YZ rfl rfl rfl rfl rfl h45 rfl rfl (vlen RWay h47 rfl) (AOK.q (vne h47)) (fun w hh => (hh.vsegA 0 rfl h47)) rfl (fun L_5 h49 h49n => ?_)
      refine jS (S' := [_, _, _, _, _, _, _, _]) (vs' := [_, _, _]) [0, 1, 2, 3, 4, 5, 6, 7] [0, 1, 2] 0 rfl rfl rfl rfl (ju (hsE [0, 1, 2, 3, 4, 5, 6, 7] [2] 0 rfl rfl rfl rfl) (jk rfl rfl rfl rfl (fun _ _ => jJ rfl) (kO 0 Try.runUnderlying168 Try.sizeOf166 rfl rfl rfl rfl (Q8 rfl (yV (cs' := #[_]) (S' := [_, _, _, _, _, _, _, _]) 5 (fun w => Try.sizeOf166 w) rfl rfl rfl rfl rfl rfl rfl (K4 (jI ?_)))))))
      refine js (jb (jh ?_))
      obtain ⟨t94, h50, hm⟩ := bindO hm
      refine kt h50 rfl rfl rfl (jf rfl rfl (jv ?_))
      obtain rfl := sj hm
      refine jb ?_
      exact QL _ (L_5, (D :: l_5.2)) rfl rfl (h49) (sE rfl) (hsE [4, 5, 6, 7] [1, 2] 0 rfl rfl rfl rfl)
    ·replace hm := ifE h27 hm
     refine jM (ji (ji (jz ?_)))
     obtain rfl := sj hm
     have hbo := h26 _ rfl
     subst hbo
     exact K3 (l_5.1, l_5.2) rfl (h25) (sE rfl) (fun w hh => hh)
   ·intro l_4 hj
    have h24 := hj
    replace hm := h23
    refine jb (jp (jU 0 Try.isAgg118 rfl rfl rfl rfl (jm rfl rfl (jo (jw ?_)))))
    obtain rfl := sj hm
    refine Qk rfl rfl rfl (fun w hh => (.tmp rfl .nil)) (fun w hh => ⟨(b_1, l_4.1), rfl, h24, hh.selN [3, 1] [0] (by decide) (by decide) rfl rfl⟩)
structure JW where
  n0 : Int
  t9 : Int
def yJ (l1 : (List Int)) (s : JW) : Option (JW ⊕ Int) :=
 if s.t9 < (l1.length : Int) then
 ((ix l1 s.t9).bind fun t11 =>
 (addc s.t9 1).bind fun t16 =>
 some (.inl (⟨(min s.n0 t11), t16⟩ : JW))) else
 (some (.inr s.n0))
def Jx (n0 : Int) (l1 : (List Int)) : Option Int :=
 (iterM FU (yJ l1) (⟨n0, 0⟩ : JW)).bind fun o =>
 some o
theorem Qc (n0 : Int) (l1 : (List Int)) (qa0 : Option Addr) (na0 ca0 : Nat) (w : World) (hw : HV w (keys [] []) [] [] [(aB qa0, aO qa0, RI.enc l1)] w) (hna0 : l1.length = na0) (hqa0 : AOK na0 qa0) (hla0 : na0 ≤ ca0) {res : Int} (hm : Jx n0 l1 = some res) :
    Calls Try.prog 55 #[.int .i64 n0, .slice qa0 na0 ca0] w (fun en w' => ∃ l : Unit, en = .returned (.int .i64 res) ∧ (True) ∧ HV w (keys [] []) [] [] [] w') := by
  unfold Jx at hm
  refine kb Try.func55 rfl Try.ntmps55 rfl (e := [(0, _), (1, _)]) rfl hw (jp (jm rfl rfl (jo (jj (jp (jf rfl rfl (jc rfl rfl rfl (fun w _ => jB hna0 (Try.runUnderlying32 w) rfl) ?_)))))))
  refine jf rfl rfl (jo ?_)
  obtain ⟨o, h1, h2⟩ := bindO hm
  refine jC (ι := Unit) (fun l => True) (fun l => [(0, .int .i64 o)]) (fun l => []) (fun l => []) ?_ ?_
  ·replace hm := h1
   refine jl ?_
   refine jF (ι := Unit) hm (fun s l_1 => True) (fun s l_1 => [(0, .int .i64 s.n0), (7, .slice qa0 na0 ca0), (8, .int .i64 (l1.length : Int)), (9, .int .i64 s.t9)]) (fun s l_1 => []) (fun s l_1 => []) () (trivial) (sE rfl) (fun w hh => hh) (fun s l_1 r hpl hm h3 => ?_)
   unfold yJ at hm
   refine jp (qv rfl rfl rfl (jo (jj ?_)))
   refine jq rfl (fun h4 => ?_) (fun h4 => ?_)
   ·replace hm := ifD h4 hm
    refine jr (jb (jj (jl (jp ?_))))
    obtain ⟨t11, h5, hm⟩ := bindO hm
    refine jc rfl rfl rfl (fun w _ => jW h5 (Try.runUnderlying32 w) (Try.sizeOf3 w) rfl rfl hna0 hqa0) (jc rfl rfl rfl (fun w hh => jV RI 0 h5 (Try.isAgg3 w) rfl (hh.seg 0 rfl) rfl (Nat.add_zero _).symm) (jm rfl rfl (jo (jh (jf rfl rfl (jf rfl rfl (jc rfl rfl rfl (fun _ _ => Z4 rfl rfl) ?_)))))))
    refine jm rfl rfl (jv (js (jb (jh ?_))))
    obtain ⟨t16, h6, hm⟩ := bindO hm
    refine kt h6 rfl rfl rfl (jf rfl rfl (jv ?_))
    obtain rfl := sj hm
    refine jb ?_
    exact jy _ () rfl (trivial) (sE rfl) (fun w hh => hh)
   ·replace hm := ifE h4 hm
    refine jM (ji (ji (jz ?_)))
    obtain rfl := sj hm
    have hbo := h3 _ rfl
    subst hbo
    exact jg () (trivial) (sE rfl) (fun w hh => hh)
  ·intro l hj
   replace hm := h2
   refine jb (jp (jf rfl rfl (jm rfl rfl (jo (jw ?_)))))
   obtain rfl := sj hm
   refine jn rfl (fun w hh => (.tmp rfl .nil)) (fun w hh => ⟨(), rfl, trivial, hh.se [] [] 1 rfl rfl rfl rfl⟩)
end Go.Proofs.Ws

namespace Go.Proofs.Ws
set_option maxHeartbeats 4000000
set_option maxRecDepth 100000
open Go Go.Fw Go.Gx Go.Sp
set_option linter.unusedVariables false
structure Ku where
  r0 : Int
  r1 : Int
  r2 : Int
  r3 : Int
def qy (n00 : (List Wy)) (c1 : Change) : Option Ku :=
 (ix n00 c1.way).bind fun t15 =>
 if c1.more = true then
 ((subc t15.hi t15.goes).bind fun t29 =>
 some (⟨t15.fr, t15.dst, t15.cost, t29⟩ : Ku)) else
 ((negc t15.cost).bind fun t36 =>
 (Jx t15.lo [t15.goes]).bind fun t44 =>
 (subc t15.goes t44).bind fun t45 =>
 some (⟨t15.dst, t15.fr, t36, t45⟩ : Ku))
theorem Kn (n00 : (List Wy)) (c1 : Change) (rb : Nat) (qa1 : Option Addr) (na1 ca1 : Nat) (w : World) (hw : HV w (keys [] []) [] [] [(rb, 0, [.slice qa1 na1 ca1]), (aB qa1, aO qa1, RWay.enc n00)] w)  (hna1 : n00.length = na1) (hqa1 : AOK na1 qa1) (hla1 : na1 ≤ ca1) {res : Ku} (hm : qy n00 c1 = some res) :
    Calls Try.prog 144 #[ptr rb 0, .agg #[.int .i64 c1.way, .bool c1.more]] w (fun en w' => ∃ l : Unit, en = .returned (.tuple #[.int .i64 res.r0, .int .i64 res.r1, .int .i64 res.r2, .int .i64 res.r3]) ∧ (True) ∧ HV w (keys [] []) [] [] [] w') := by
  unfold qy at hm
  refine kb Try.func144 rfl Try.ntmps144 rfl (e := [(0, _), (1, _)]) rfl hw (jp ?_)
  refine jH rfl rfl (fun b h1 => ?_)
  refine jm rfl rfl (jm rfl rfl (jm rfl rfl (jm rfl rfl (jo (jj ?_)))))
  refine jX none (.free 0 (.free 1 (.free 2 (.hoist 3 (.free 4 (.hoist 5 (.free 6 (.hoist 7 (.one 8 (.one 9 .done)))))))))) _ rfl (by decide +kernel) (fun w k hh => hh.draw k) (fun w hh => hh) ?_
  refine kg rfl rfl rfl (jk rfl rfl rfl rfl (fun _ _ => jJ rfl) (kO 0 Try.runUnderlying168 Try.sizeOf166 rfl rfl rfl rfl (jA rfl rfl rfl rfl (fun w hh => jY (Try.isAgg166 w) rfl (segCell (hh.seg 0 rfl) 0 rfl)) (kO 0 Try.runUnderlying178 Try.sizeOf3 rfl rfl rfl rfl (qq 0 Try.isAgg3 rfl rfl rfl rfl rfl ?_)))))
  obtain ⟨t15, h2, hm⟩ := bindO hm
  refine jk rfl rfl rfl rfl (fun w _ => jW h2 (Try.runUnderlying166 w) (Try.sizeOf170 w) rfl rfl hna1 hqa1) ?_
  refine jA rfl rfl rfl rfl (fun w hh => kk RWay 0 [.int .i64 t15.fr, .int .i64 t15.dst, .int .i64 t15.lo, .int .i64 t15.hi, .int .i64 t15.cost, .int .i64 t15.goes] h2 (Try.isAgg170 w) (Try.sizeOf170 w) rfl (hh.seg 1 rfl) rfl (Nat.add_zero _).symm) ?_
  refine jK rfl ?_
  refine jt (fun w => Try.zeroValue170 w) rfl (fun b_1 h3 => ?_)
  refine ju (hsE [1] [] 0 rfl rfl rfl rfl) (jK rfl (jE (us := #[_, _, _, _, _, _]) (cs' := [_, _, _, _, _, _]) (S' := [_, _]) 0 (fun w => Try.sizeOf170 w) rfl rfl rfl rfl rfl rfl rfl (ju (hsE [1] [] 0 rfl rfl rfl rfl) (jI (jb (jj (jp ?_)))))))
  refine jL 1 Try.runUnderlying178 rfl Try.sizeOf4 rfl rfl (jU 1 Try.isAgg4 rfl rfl rfl rfl (jo ?_))
  refine jq rfl (fun h4 => ?_) (fun h4 => ?_)
  ·replace hm := ifT (h4) hm
   refine jj ?_
   refine jX none (.free 0 (.hoist 1 (.free 2 (.hoist 3 (.free 4 (.hoist 5 (.free 6 (.hoist 7 (.free 8 (.hoist 9 (.free 10 (.free 11 (.free 12 (.free 13 (.free 14 .done))))))))))))))) _ rfl (by decide +kernel) (fun w k hh => hh.draw k) (fun w hh => hh) ?_
   refine kO 0 Try.runUnderlying170 Try.sizeOf3 rfl rfl rfl rfl (qq 0 Try.isAgg3 rfl rfl rfl rfl rfl (kO 1 Try.runUnderlying170 Try.sizeOf3 rfl rfl rfl rfl (qq 0 Try.isAgg3 rfl rfl rfl rfl rfl (kO 4 Try.runUnderlying170 Try.sizeOf3 rfl rfl rfl rfl (qq 0 Try.isAgg3 rfl rfl rfl rfl rfl (kO 3 Try.runUnderlying170 Try.sizeOf3 rfl rfl rfl rfl (qq 0 Try.isAgg3 rfl rfl rfl rfl rfl ?_)))))))
   refine kO 5 Try.runUnderlying170 Try.sizeOf3 rfl rfl rfl rfl (qq 0 Try.isAgg3 rfl rfl rfl rfl rfl ?_)
   obtain ⟨t29, h5, hm⟩ := bindO hm
   refine jk rfl rfl rfl rfl (fun _ _ => k9 h5 rfl rfl) (jk rfl rfl rfl rfl (fun _ _ => jN rfl) (jk rfl rfl rfl rfl (fun _ _ => jN rfl) (jk rfl rfl rfl rfl (fun _ _ => jN rfl) (jk rfl rfl rfl rfl (fun _ _ => jN rfl) (jI (jb (jw ?_)))))))
   refine je ?_
   obtain rfl := sj hm
   refine jn rfl (fun w hh => (.tmp rfl (.tmp rfl (.tmp rfl (.tmp rfl .nil))))) (fun w hh => ⟨(), rfl, trivial, hh.se [] [] 2 rfl rfl rfl rfl⟩)
  ·replace hm := ifN h4 hm
   refine jr (jb (jj ?_))
   refine jX none (.free 0 (.hoist 1 (.free 2 (.hoist 3 (.free 4 (.hoist 5 (.free 6 (.free 7 (.hoist 8 (.free 9 (.hoist 10 (.free 11 (.hoist 12 (.one 13 (.one 14 (.free 15 (.free 16 (.free 17 (.free 18 (.free 19 .done)))))))))))))))))))) _ rfl (by decide +kernel) (fun w k hh => hh.draw k) (fun w hh => hh) ?_
   refine kO 1 Try.runUnderlying170 Try.sizeOf3 rfl rfl rfl rfl (qq 0 Try.isAgg3 rfl rfl rfl rfl rfl (kO 0 Try.runUnderlying170 Try.sizeOf3 rfl rfl rfl rfl (qq 0 Try.isAgg3 rfl rfl rfl rfl rfl (kO 4 Try.runUnderlying170 Try.sizeOf3 rfl rfl rfl rfl (qq 0 Try.isAgg3 rfl rfl rfl rfl rfl ?_)))))
   obtain ⟨t36, h6, hm⟩ := bindO hm
   refine jk rfl rfl rfl rfl (fun _ _ => Zf h6 rfl) (kO 5 Try.runUnderlying170 Try.sizeOf3 rfl rfl rfl rfl (qq 0 Try.isAgg3 rfl rfl rfl rfl rfl (kO 2 Try.runUnderlying170 Try.sizeOf3 rfl rfl rfl rfl (qq 0 Try.isAgg3 rfl rfl rfl rfl rfl (kO 5 Try.runUnderlying170 Try.sizeOf3 rfl rfl rfl rfl (qq 0 Try.isAgg3 rfl rfl rfl rfl rfl (jK rfl ?_)))))))
   refine kW RI [t15.goes] (ps := [(0, _)]) (cells := [_]) (fun w => Try.runUnderlying32 w) (fun w => Try.sizeOf3 w) (fun w => Try.zeroValue3 w) rfl rfl rfl rfl rfl rfl rfl rfl (fun L h7 => ?_)
   refine ju (hsE [0, 1] [] 0 rfl rfl rfl rfl) (jK rfl ?_)
   obtain ⟨t44, h8, hm⟩ := bindO hm
   refine jd [] [] rfl rfl rfl rfl rfl rfl rfl Try.call55 (fun w hh => Qc t15.lo [t15.goes] (qA L.q) L.n L.cap w (HV.callee (S0 := []) (vs0 := []) hh (roC (hh.vsepA 0 rfl h7) roN)) (vlen RI h7 rfl) (AOK.q (vne h7)) (h7).hle h8) (fun l h9 => ?_)
   refine ju (hsE [0, 1] [] 0 rfl rfl rfl rfl) ?_
   obtain ⟨t45, h10, hm⟩ := bindO hm
   refine jk rfl rfl rfl rfl (fun _ _ => k9 h10 rfl rfl) (jk rfl rfl rfl rfl (fun _ _ => jN rfl) (jk rfl rfl rfl rfl (fun _ _ => jN rfl) (jk rfl rfl rfl rfl (fun _ _ => jN rfl) (jk rfl rfl rfl rfl (fun _ _ => jN rfl) (jI (jb (jw ?_)))))))
   obtain rfl := sj hm
   refine jn rfl (fun w hh => (.tmp rfl (.tmp rfl (.tmp rfl (.tmp rfl .nil))))) (fun w hh => ⟨(), rfl, trivial, hh.se [] [] 2 rfl rfl rfl rfl⟩)
structure y7 where
  a55_0 : (List Bool)
  a66_0 : (List Change)
def yc (c0 : Change) (a1 : Int) (b2 : Int) (cost3 : Int) (room4 : Int) (a550 : (List Bool)) (a660 : (List Change)) : Option y7 :=
 ((ix a550 a1).bind fun t13 =>
 if t13 = true then
 ((ix a550 b2).bind fun t17 =>
 some (!t17)) else
 (some false)).bind fun o =>
 if o = true then
 ((ix a550 b2).bind fun t24 =>
 (some (a550.set (Int.toNat b2) true)).bind fun a55 =>
 (ix a660 b2).bind fun t25 =>
 (some (a660.set (Int.toNat b2) c0)).bind fun a66 =>
 some (⟨a55, a66⟩ : y7)) else
 (some (⟨a550, a660⟩ : y7))
theorem Y5 (c0 : Change) (a1 : Int) (b2 : Int) (cost3 : Int) (room4 : Int) (a550 : (List Bool)) (a660 : (List Change)) (pb : Nat) (pb_1 : Nat) (w : World) (hw : HV w (keys [(pb, .cells (RB.enc a550).toArray 172 (0, 0)), (pb_1, .cells (RCh.enc a660).toArray 190 (0, 0))] []) [(pb, .cells (RB.enc a550).toArray 172 (0, 0)), (pb_1, .cells (RCh.enc a660).toArray 190 (0, 0))] [] [] w) (hl_a550 : a550.length = 12) (hl_a660 : a660.length = 12) {res : y7} (hm : yc c0 a1 b2 cost3 room4 a550 a660 = some res) :
    Calls Try.prog 143 #[.agg #[.int .i64 c0.way, .bool c0.more], .int .i64 a1, .int .i64 b2, .int .i64 cost3, .int .i64 room4, ptr pb 0, ptr pb_1 0] w (fun en w' => ∃ l : Unit, en = .returned (.tuple #[]) ∧ (res.a55_0.length = 12 ∧ res.a66_0.length = 12) ∧ HV w (keys [(pb, .cells (RB.enc a550).toArray 172 (0, 0)), (pb_1, .cells (RCh.enc a660).toArray 190 (0, 0))] []) [(pb, .cells (RB.enc res.a55_0).toArray 172 (0, 0)), (pb_1, .cells (RCh.enc res.a66_0).toArray 190 (0, 0))] [] [] w') := by
  unfold yc at hm
  refine kb Try.func143 rfl Try.ntmps143 rfl (e := [(0, _), (1, _), (2, _), (3, _), (4, _), (5, _), (6, _)]) rfl hw (jp ?_)
  refine jH rfl rfl (fun b h3 => ?_)
  refine jo (jj ?_)
  obtain ⟨o, h4, h5⟩ := bindO hm
  refine jC (ι := Unit) (fun l => True) (fun l => [(2, .int .i64 b2), (5, ptr pb 0), (6, ptr pb_1 0), (7, ptr b 0), (20, .bool o)]) (fun l => [(b, .cells #[.int .i64 c0.way, .bool c0.more] 178 (0, 0)), (pb, .cells (RB.enc a550).toArray 172 (0, 0)), (pb_1, .cells (RCh.enc a660).toArray 190 (0, 0))]) (fun l => []) ?_ ?_
  ·replace hm := h4
   refine jh (jf rfl rfl ?_)
   obtain ⟨t13, h6, hm⟩ := bindO hm
   refine jc rfl rfl rfl (fun w _ => KS h6 hl_a550 (Try.runUnderlying172 w) (Try.sizeOf4 w) rfl rfl) (jc rfl rfl rfl (fun w hh => jV RB 0 h6 (Try.isAgg4 w) rfl (hh.bsegA 1 rfl) rfl (Nat.add_zero _).symm) (jf rfl rfl ?_))
   refine jD 15 rfl (fun h7 => ?_) (fun h7 => ?_)
   ·replace hm := ifT (h7) hm
    refine ja rfl rfl (jf rfl rfl (ja rfl rfl ?_))
    obtain ⟨t17, h8, hm⟩ := bindO hm
    refine jc rfl rfl rfl (fun w _ => KS h8 hl_a550 (Try.runUnderlying172 w) (Try.sizeOf4 w) rfl rfl) (ja rfl rfl (jc rfl rfl rfl (fun w hh => jV RB 0 h8 (Try.isAgg4 w) rfl (hh.bsegA 1 rfl) rfl (Nat.add_zero _).symm) (ja rfl rfl (jc rfl rfl rfl (fun _ _ => kq rfl) (j3 rfl rfl rfl (jv ?_))))))
    obtain rfl := sj hm
    exact jg () (trivial) (sE rfl) (fun w hh => hh)
   ·replace hm := ifN h7 hm
    refine g_k rfl rfl rfl rfl (g_k rfl rfl rfl rfl (g_k rfl rfl rfl rfl (g_k rfl rfl rfl rfl (ki rfl rfl rfl (jv ?_)))))
    obtain rfl := sj hm
    exact jg () (trivial) (sE rfl) (fun w hh => hh)
  ·intro l hj
   replace hm := h5
   refine jb ?_
   refine jq rfl (fun h9 => ?_) (fun h9 => ?_)
   ·replace hm := ifT (h9) hm
    refine jX none (.free 0 (.free 1 (.hoist 2 (.free 3 (.one 4 (.free 5 (.one 6 .done))))))) (HV _ _ [(b, .cells #[.int .i64 c0.way, .bool c0.more] 178 (0, 0))] [] _) rfl (by decide +kernel) (fun w k hh => hh.draw k) (hsE [0] [] 0 rfl rfl rfl rfl) ?_
    refine kg rfl rfl rfl (kg rfl rfl rfl (jA rfl rfl rfl rfl (fun w hh => kl (vs := [_, _]) (Try.isAgg178 w) (Try.sizeOf178 w) rfl (hh.cells 0 rfl rfl)) ?_))
    obtain ⟨t24, h10, hm⟩ := bindO hm
    refine jk rfl rfl rfl rfl (fun w _ => KS h10 hl_a550 (Try.runUnderlying172 w) (Try.sizeOf4 w) rfl rfl) (jK rfl ?_)
    obtain ⟨a55, ha55, hm⟩ := bindO hm
    refine jaZ RB 1 0 true (S' := [_, _, _]) (fun w => Try.sizeOf4 w) rfl rfl rfl rfl hl_a550 (Nat.add_zero _).symm rfl h10 rfl rfl (Option.some.inj ha55) rfl (fun h11 => ?_)
    refine ju (hsE [0] [] 0 rfl rfl rfl rfl) ?_
    obtain ⟨t25, h12, hm⟩ := bindO hm
    refine jk rfl rfl rfl rfl (fun w _ => KS h12 hl_a660 (Try.runUnderlying190 w) (Try.sizeOf178 w) rfl rfl) (jK rfl ?_)
    obtain ⟨a66, ha66, hm⟩ := bindO hm
    refine jaF (us := #[_, _]) RCh 2 c0 (S' := [_, _, _]) (fun w => Try.sizeOf178 w) rfl rfl rfl hl_a660 rfl rfl h12 rfl (Option.some.inj ha66) rfl (fun h13 => ?_)
    refine ju (hsE [0] [] 0 rfl rfl rfl rfl) (jI ?_)
    obtain rfl := sj hm
    refine J0 rfl (fun w hh => .nil) (fun w hh => ⟨(), rfl, ⟨h11, h13⟩, hh.se [1, 2] [] 0 rfl rfl rfl rfl⟩)
   ·replace hm := ifN h9 hm
    refine jr ?_
    obtain rfl := sj hm
    refine J0 rfl (fun w hh => .nil) (fun w hh => ⟨(), rfl, ⟨hl_a550, hl_a660⟩, hh.se [1, 2] [] 0 rfl rfl rfl rfl⟩)
structure Jc where
  f1_c0_0 : (List Bool)
  f1_c1_0 : (List Change)
structure Ka where
  f1_c0_0 : (List Bool)
  f1_c1_0 : (List Change)
structure kX where
  t17 : Int
  f1_c0_0 : (List Bool)
  f1_c1_0 : (List Change)
structure Kf where
  f1_c0_0 : (List Bool)
  f1_c1_0 : (List Change)
structure q8 where
  t22 : Int
  f1_c0_0 : (List Bool)
  f1_c1_0 : (List Change)
structure k7 where
  f1_c0_0 : (List Bool)
  f1_c1_0 : (List Change)
def j8 (n00 : (List Wy)) (s : kX) (s_1 : q8) : Option (q8 ⊕ Kf) :=
 if s_1.t22 < ([true, false].length : Int) then
 (((ix [true, false] s_1.t22).bind fun t24 =>
 (qy n00 (⟨s.t17, t24⟩ : Change)).bind fun t32 =>
 if 0 < t32.r3 then
 ((yc (⟨s.t17, t24⟩ : Change) t32.r0 t32.r1 t32.r2 t32.r3 s_1.f1_c0_0 s_1.f1_c1_0).bind fun t45 =>
 some (⟨t45.a55_0, t45.a66_0⟩ : k7)) else
 (some (⟨s_1.f1_c0_0, s_1.f1_c1_0⟩ : k7))).bind fun o_2 =>
 (addc s_1.t22 1).bind fun t46 =>
 some (.inl (⟨t46, o_2.f1_c0_0, o_2.f1_c1_0⟩ : q8))) else
 (some (.inr (⟨s_1.f1_c0_0, s_1.f1_c1_0⟩ : Kf)))
def kY (n00 : (List Wy)) (s : kX) : Option (kX ⊕ Ka) :=
 if s.t17 < (n00.length : Int) then
 ((iterM FU (j8 n00 s) (⟨0, s.f1_c0_0, s.f1_c1_0⟩ : q8)).bind fun o_1 =>
 (addc s.t17 1).bind fun t47 =>
 some (.inl (⟨t47, o_1.f1_c0_0, o_1.f1_c1_0⟩ : kX))) else
 (some (.inr (⟨s.f1_c0_0, s.f1_c1_0⟩ : Ka)))
def yu (n00 : (List Wy)) (f1_c00 : (List Bool)) (f1_c10 : (List Change)) : Option Jc :=
 (iterM FU (kY n00) (⟨0, f1_c00, f1_c10⟩ : kX)).bind fun o =>
 some (⟨o.f1_c0_0, o.f1_c1_0⟩ : Jc)
theorem YI (n00 : (List Wy)) (f1_c00 : (List Bool)) (f1_c10 : (List Change)) (rb : Nat) (qa1 : Option Addr) (na1 ca1 : Nat) (pb : Nat) (pb_1 : Nat) (w : World) (hw : HV w (keys [(pb, .cells (RB.enc f1_c00).toArray 172 (0, 0)), (pb_1, .cells (RCh.enc f1_c10).toArray 190 (0, 0))] []) [(pb, .cells (RB.enc f1_c00).toArray 172 (0, 0)), (pb_1, .cells (RCh.enc f1_c10).toArray 190 (0, 0))] [] [(rb, 0, [.slice qa1 na1 ca1]), (aB qa1, aO qa1, RWay.enc n00)] w)  (hna1 : n00.length = na1) (hqa1 : AOK na1 qa1) (hla1 : na1 ≤ ca1) (hl_f1_c00 : f1_c00.length = 12) (hl_f1_c10 : f1_c10.length = 12) {res : Jc} (hm : yu n00 f1_c00 f1_c10 = some res) :
    Calls Try.prog 132 #[ptr rb 0, .func (.func 143) #[] #[ptr pb 0, ptr pb_1 0]] w (fun en w' => ∃ l : Unit, en = .returned (.tuple #[]) ∧ (res.f1_c0_0.length = 12 ∧ res.f1_c1_0.length = 12) ∧ HV w (keys [(pb, .cells (RB.enc f1_c00).toArray 172 (0, 0)), (pb_1, .cells (RCh.enc f1_c10).toArray 190 (0, 0))] []) [(pb, .cells (RB.enc res.f1_c0_0).toArray 172 (0, 0)), (pb_1, .cells (RCh.enc res.f1_c1_0).toArray 190 (0, 0))] [] [] w') := by
  unfold yu at hm
  refine kb Try.func132 rfl Try.ntmps132 rfl (e := [(0, _), (1, _)]) rfl hw (jp (jf rfl rfl (jc rfl rfl rfl (fun _ _ => jJ rfl) (jL 0 Try.runUnderlying168 rfl Try.sizeOf166 rfl rfl (jc rfl rfl rfl (fun w hh => jY (Try.isAgg166 w) rfl (segCell (hh.seg 0 rfl) 0 rfl)) (jc rfl rfl rfl (fun w _ => jB hna1 (Try.runUnderlying166 w) rfl) (jf rfl rfl ?_)))))))
  refine jo ?_
  obtain ⟨o, h3, h4⟩ := bindO hm
  refine jC (ι := Unit) (fun l => o.f1_c0_0.length = 12 ∧ o.f1_c1_0.length = 12) (fun l => []) (fun l => [(pb, .cells (RB.enc o.f1_c0_0).toArray 172 (0, 0)), (pb_1, .cells (RCh.enc o.f1_c1_0).toArray 190 (0, 0))]) (fun l => []) ?_ ?_
  ·replace hm := h3
   refine jl ?_
   refine jF (ι := Unit) hm (fun s l_1 => s.f1_c0_0.length = 12 ∧ s.f1_c1_0.length = 12) (fun s l_1 => [(0, ptr rb 0), (1, .func (.func 143) #[] #[ptr pb 0, ptr pb_1 0]), (16, .int .i64 (n00.length : Int)), (17, .int .i64 s.t17)]) (fun s l_1 => [(pb, .cells (RB.enc s.f1_c0_0).toArray 172 (0, 0)), (pb_1, .cells (RCh.enc s.f1_c1_0).toArray 190 (0, 0))]) (fun s l_1 => []) () (⟨hl_f1_c00, hl_f1_c10⟩) (sE rfl) (fun w hh => hh) (fun s l_1 r hpl hm h9 => ?_)
   obtain ⟨h7, h8⟩ := hpl
   unfold kY at hm
   refine jp (qv rfl rfl rfl (jo (jj ?_)))
   refine jq rfl (fun h10 => ?_) (fun h10 => ?_)
   ·replace hm := ifD h10 hm
    refine jr (jb (jj (jl (jp (jf rfl rfl (jm rfl rfl (j1 ?_)))))))
    refine kW RB [true, false] (ps := [(0, _), (1, _)]) (cells := [_, _]) (fun w => Try.runUnderlying136 w) (fun w => Try.sizeOf4 w) (fun w => Try.zeroValue4 w) rfl rfl rfl rfl rfl rfl rfl rfl (fun L h11 => ?_)
    refine jc rfl rfl rfl (fun w _ => JI (vlen RB h11 rfl) (Try.runUnderlying136 w) rfl) (jf rfl rfl (jo ?_))
    obtain ⟨o_1, h12, h13⟩ := bindO hm
    refine jC (ι := Unit) (fun l_2 => o_1.f1_c0_0.length = 12 ∧ o_1.f1_c1_0.length = 12) (fun l_2 => [(0, ptr rb 0), (1, .func (.func 143) #[] #[ptr pb 0, ptr pb_1 0]), (16, .int .i64 (n00.length : Int)), (17, .int .i64 s.t17)]) (fun l_2 => [(pb, .cells (RB.enc o_1.f1_c0_0).toArray 172 (0, 0)), (pb_1, .cells (RCh.enc o_1.f1_c1_0).toArray 190 (0, 0))]) (fun l_2 => []) ?_ ?_
    ·replace hm := h12
     refine jl ?_
     refine jF (ι := Unit) hm (fun s_1 l_3 => s_1.f1_c0_0.length = 12 ∧ s_1.f1_c1_0.length = 12) (fun s_1 l_3 => [(0, ptr rb 0), (1, .func (.func 143) #[] #[ptr pb 0, ptr pb_1 0]), (4, .int .i64 s.t17), (16, .int .i64 (n00.length : Int)), (17, .int .i64 s.t17), (20, slv L.q L.n L.cap), (21, .int .i64 ([true, false].length : Int)), (22, .int .i64 s_1.t22)]) (fun s_1 l_3 => [(pb, .cells (RB.enc s_1.f1_c0_0).toArray 172 (0, 0)), (pb_1, .cells (RCh.enc s_1.f1_c1_0).toArray 190 (0, 0))]) (fun s_1 l_3 => [⟨4, RB.enc [true, false], L.sp, L.q, []⟩]) () (⟨h7, h8⟩) (sE rfl) (fun w hh => hh) (fun s_1 l_3 r_1 hpl hm h18 => ?_)
     obtain ⟨h16, h17⟩ := hpl
     unfold j8 at hm
     refine jp (qv rfl rfl rfl (jo (jj ?_)))
     refine jq rfl (fun h19 => ?_) (fun h19 => ?_)
     ·replace hm := ifD h19 hm
      refine jr (jb (jj ?_))
      obtain ⟨o_2, h20, h21⟩ := bindO hm
      refine jC (ι := Unit) (fun l_4 => o_2.f1_c0_0.length = 12 ∧ o_2.f1_c1_0.length = 12) (fun l_4 => [(0, ptr rb 0), (1, .func (.func 143) #[] #[ptr pb 0, ptr pb_1 0]), (4, .int .i64 s.t17), (16, .int .i64 (n00.length : Int)), (17, .int .i64 s.t17), (20, slv L.q L.n L.cap), (21, .int .i64 ([true, false].length : Int)), (22, .int .i64 s_1.t22)]) (fun l_4 => [(pb, .cells (RB.enc o_2.f1_c0_0).toArray 172 (0, 0)), (pb_1, .cells (RCh.enc o_2.f1_c1_0).toArray 190 (0, 0))]) (fun l_4 => [⟨4, RB.enc [true, false], L.sp, L.q, []⟩]) ?_ ?_
      ·replace hm := h20
       refine jl (jp ?_)
       obtain ⟨t24, h24, hm⟩ := bindO hm
       refine jc rfl rfl rfl (fun w _ => qe h24 (Try.runUnderlying136 w) (Try.sizeOf4 w) rfl rfl (vlen RB h11 rfl) (vne h11)) (jc rfl rfl rfl (fun w hh => jV RB 0 h24 (Try.isAgg4 w) rfl (hh.vseg 0 rfl h11) rfl (Nat.add_zero _).symm) (jm rfl rfl (j1 (jf rfl rfl (jf rfl rfl (jc rfl rfl rfl (fun _ _ => jG (vs := [(0, _), (1, _)]) (cells := [_, _]) rfl rfl) ?_))))))
       refine jt (fun w => Try.zeroValue178 w) rfl (fun b h25 => ?_)
       refine jE (us := #[_, _]) (cs' := [_, _]) (S' := [_, _, _]) 0 (fun w => Try.sizeOf178 w) rfl rfl rfl rfl rfl rfl rfl (j1 (jf rfl rfl (kG [_, _] 0 Try.isAgg178 Try.sizeOf178 rfl rfl rfl rfl ?_)))
       obtain ⟨t32, h26, hm⟩ := bindO hm
       refine jd [] [] rfl rfl rfl rfl rfl rfl rfl Try.call144 (fun w hh => Kn n00 (⟨s.t17, t24⟩ : Change) rb qa1 na1 ca1 w (HV.callee (S0 := []) (vs0 := []) hh (roR hh 0 rfl (roR hh 1 rfl roN))) hna1 hqa1 hla1 h26) (fun l_5 h27 => ?_)
       refine jf rfl rfl (kj rfl rfl rfl (kj rfl rfl rfl (kj rfl rfl rfl (kj rfl rfl rfl (jm rfl rfl (jm rfl rfl (jm rfl rfl ?_)))))))
       refine jm rfl rfl (j1 (jf rfl rfl (jc rfl rfl rfl (fun _ _ => Qq rfl rfl) (jo ?_))))
       refine jq rfl (fun h28 => ?_) (fun h28 => ?_)
       ·replace hm := ifD h28 hm
        refine jh (jf rfl rfl (kG [_, _] 0 Try.isAgg178 Try.sizeOf178 rfl rfl rfl rfl (jf rfl rfl (jf rfl rfl (jf rfl rfl (jf rfl rfl ?_))))))
        obtain ⟨t45, h29, hm⟩ := bindO hm
        refine jS (S' := [_, _, _]) (vs' := [_]) [1, 2, 0] [0] 0 rfl rfl rfl rfl ?_
        refine jd [_, _] [] rfl rfl rfl rfl rfl rfl rfl Try.call143 (fun w hh => Y5 (⟨s.t17, t24⟩ : Change) t32.r0 t32.r1 t32.r2 t32.r3 s_1.f1_c0_0 s_1.f1_c1_0 pb pb_1 w (HV.callee (S0 := [_, _]) (vs0 := []) hh roN) h16 h17 h29) (fun l_6 h30 => ?_)
        obtain ⟨h31, h32⟩ := h30
        refine jS (S' := [_, _, _]) (vs' := [_]) [0, 1, 2] [0] 0 rfl rfl rfl rfl (jv (js ?_))
        obtain rfl := sj hm
        exact jg () (⟨h31, h32⟩) (sE rfl) (hsE [0, 1] [0] 0 rfl rfl rfl rfl)
       ·replace hm := ifE h28 hm
        refine jr (js ?_)
        obtain rfl := sj hm
        exact jg () (⟨h16, h17⟩) (sE rfl) (hsE [1, 2] [0] 0 rfl rfl rfl rfl)
      ·intro l_4 hj
       obtain ⟨h22, h23⟩ := hj
       replace hm := h21
       refine jb (jh ?_)
       obtain ⟨t46, h33, hm⟩ := bindO hm
       refine kt h33 rfl rfl rfl (jf rfl rfl (jv ?_))
       obtain rfl := sj hm
       refine jb ?_
       exact jy _ () rfl (⟨h22, h23⟩) (sE rfl) (fun w hh => hh)
     ·replace hm := ifE h19 hm
      refine jM (ji (ji (jz ?_)))
      obtain rfl := sj hm
      have hbo := h18 _ rfl
      subst hbo
      exact jg () (⟨h16, h17⟩) (sE rfl) (hsE [0, 1] [] 0 rfl rfl rfl rfl)
    ·intro l_2 hj
     obtain ⟨h14, h15⟩ := hj
     replace hm := h13
     refine js (jb (jh ?_))
     obtain ⟨t47, h34, hm⟩ := bindO hm
     refine kt h34 rfl rfl rfl (jf rfl rfl (jv ?_))
     obtain rfl := sj hm
     refine jb ?_
     exact jy _ () rfl (⟨h14, h15⟩) (sE rfl) (fun w hh => hh)
   ·replace hm := ifE h10 hm
    refine jM (ji (ji (jz ?_)))
    obtain rfl := sj hm
    have hbo := h9 _ rfl
    subst hbo
    exact jg () (⟨h7, h8⟩) (.nil) (fun w hh => hh)
  ·intro l hj
   obtain ⟨h5, h6⟩ := hj
   replace hm := h4
   obtain rfl := sj hm
   refine J0 rfl (fun w hh => .nil) (fun w hh => ⟨(), rfl, ⟨h5, h6⟩, hh.se [0, 1] [] 2 rfl rfl rfl rfl⟩)
structure KD where
  r1 : (List Bool)
  r0 : (List Change)
structure Qa where
  by9 : (List Change)
  met8 : (List Bool)
structure JQ where
  by9 : (List Change)
  met8 : (List Bool)
def zV (n00 : (List Wy)) (s : JQ) : Option (JQ ⊕ Qa) :=
 (yu n00 s.met8 s.by9).bind fun t18 =>
 if t18.f1_c0_0 = s.met8 then
 (some (.inr (⟨t18.f1_c1_0, t18.f1_c0_0⟩ : Qa))) else
 (some (.inl (⟨t18.f1_c1_0, t18.f1_c0_0⟩ : JQ)))
structure z6 where
  at12 : Int
  out11 : (List Change)
def zZ (from1 : Int) (o : Qa) (n00 : (List Wy)) (s_1 : z6) : Option (z6 ⊕ (List Change)) :=
 if s_1.at12 = from1 then
 (some (.inr s_1.out11)) else
 ((ix o.by9 s_1.at12).bind fun t33 =>
 (appc 16 s_1.out11 [(⟨t33.way, t33.more⟩ : Change)]).bind fun t36 =>
 (ix o.by9 s_1.at12).bind fun t40 =>
 (qy n00 t40).bind fun t42 =>
 some (.inl (⟨t42.r0, t36⟩ : z6)))
def Kp (n00 : (List Wy)) (from1 : Int) (to2 : Int) : Option KD :=
 (ix (List.replicate 12 false : (List Bool)) from1).bind fun t14 =>
 (some ((List.replicate 12 false : (List Bool)).set (Int.toNat from1) true)).bind fun met8 =>
 (iterM FU (zV n00) (⟨(List.replicate 12 (⟨0, false⟩ : Change) : (List Change)), met8⟩ : JQ)).bind fun o =>
 (ix o.met8 to2).bind fun t23 =>
 if (!t23) = true then
 (some (⟨o.met8, []⟩ : KD)) else
 ((iterM FU (zZ from1 o n00) (⟨to2, []⟩ : z6)).bind fun o_1 =>
 some (⟨o.met8, o_1⟩ : KD))
theorem Z1 (n00 : (List Wy)) (from1 : Int) (to2 : Int) (rb : Nat) (qa1 : Option Addr) (na1 ca1 : Nat) (w : World) (hw : HV w (keys [] []) [] [] [(rb, 0, [.slice qa1 na1 ca1]), (aB qa1, aO qa1, RWay.enc n00)] w)  (hna1 : n00.length = na1) (hqa1 : AOK na1 qa1) (hla1 : na1 ≤ ca1) {res : KD} (hm : Kp n00 from1 to2 = some res) :
    Calls Try.prog 117 #[ptr rb 0, .int .i64 from1, .int .i64 to2] w (fun en w' => ∃ l : VL, en = .returned (.tuple #[slv l.q l.n l.cap, .agg (RB.enc res.r1).toArray]) ∧ (VOK 2 l.n l.cap (RCh.enc res.r0) l.sp l.q ∧ (l.q = none ↔ res.r0 = []) ∧ res.r1.length = 12) ∧ HV w (keys [] []) [] [⟨178, RCh.enc res.r0, l.sp, l.q, []⟩] [] w') := by
  unfold Kp at hm
  refine kb Try.func117 rfl Try.ntmps117 rfl (e := [(0, _), (1, _), (2, _)]) rfl hw (jp (jc rfl rfl rfl (fun _ _ => qj rfl) ?_))
  refine KA RB (l := (List.replicate 12 false : (List Bool))) (k := 12) (fun w => Try.zeroValue172 w) rfl rfl rfl (fun b h4 h5 => ?_)
  refine j1 ?_
  refine KA RB (l := (List.replicate 12 false : (List Bool))) (k := 12) (fun w => Try.zeroValue172 w) rfl rfl rfl (fun b_1 h6 h7 => ?_)
  refine j1 ?_
  refine KA RCh (l := (List.replicate 12 (⟨0, false⟩ : Change) : (List Change))) (k := 12) (fun w => Try.zeroValue190 w) rfl rfl rfl (fun b_2 h8 h9 => ?_)
  refine j1 (jf rfl rfl ?_)
  obtain ⟨t14, h10, hm⟩ := bindO hm
  refine jc rfl rfl rfl (fun w _ => KS h10 h7 (Try.runUnderlying172 w) (Try.sizeOf4 w) rfl rfl) ?_
  obtain ⟨met8, hmet8, hm⟩ := bindO hm
  refine jaZ RB 1 0 true (S' := [_, _, _]) (fun w => Try.sizeOf4 w) rfl rfl rfl rfl h7 (Nat.add_zero _).symm rfl h10 rfl rfl (Option.some.inj hmet8) rfl (fun h11 => ?_)
  refine jo (jj ?_)
  obtain ⟨o, h12, h13⟩ := bindO hm
  refine jC (ι := Unit) (fun l => o.by9.length = 12 ∧ o.met8.length = 12) (fun l => [(0, ptr rb 0), (1, .int .i64 from1), (2, .int .i64 to2), (7, ptr b 0), (8, ptr b_1 0), (9, ptr b_2 0)]) (fun l => [(b_2, .cells (RCh.enc o.by9).toArray 190 (0, 0)), (b_1, .cells (RB.enc o.met8).toArray 172 (0, 0)), (b, .cells (RB.enc (List.replicate 12 false : (List Bool))).toArray 172 (0, 0))]) (fun l => []) ?_ ?_
  ·replace hm := h12
   refine jl ?_
   refine jF (ι := Unit) hm (fun s l_1 => s.by9.length = 12 ∧ s.met8.length = 12) (fun s l_1 => [(0, ptr rb 0), (1, .int .i64 from1), (2, .int .i64 to2), (7, ptr b 0), (8, ptr b_1 0), (9, ptr b_2 0)]) (fun s l_1 => [(b_2, .cells (RCh.enc s.by9).toArray 190 (0, 0)), (b_1, .cells (RB.enc s.met8).toArray 172 (0, 0)), (b, .cells (RB.enc (List.replicate 12 false : (List Bool))).toArray 172 (0, 0))]) (fun s l_1 => []) () (⟨h9, h11⟩) (sE rfl) (fun w hh => hh) (fun s l_1 r hpl hm h18 => ?_)
   obtain ⟨h16, h17⟩ := hpl
   unfold zV at hm
   refine jl (jp (jc rfl rfl rfl (fun w hh => J7 RB h17 (Try.isAgg172 w) (Try.sizeOf172 w) rfl rfl (hh.bsegA 1 rfl)) ?_))
   refine KA RB (l := (List.replicate 12 false : (List Bool))) (k := 12) (fun w => Try.zeroValue172 w) rfl rfl rfl (fun b_3 h19 h20 => ?_)
   refine jal RB (S' := [_, _, _, _]) 0 (fun w => Try.sizeOf172 w) rfl rfl rfl h20 h17 rfl rfl (j1 (jf rfl rfl (jc rfl rfl rfl (fun _ _ => jQ (u := #[]) (u' := #[_, _]) rfl rfl) ?_)))
   obtain ⟨t18, h21, hm⟩ := bindO hm
   refine jS (S' := [_, _, _, _]) (vs' := []) [2, 1, 0, 3] [] 0 rfl rfl rfl rfl ?_
   refine jd [_, _] [] rfl rfl rfl rfl rfl rfl rfl Try.call132 (fun w hh => YI n00 s.met8 s.by9 rb qa1 na1 ca1 b_1 b_2 w (HV.callee (S0 := [_, _]) (vs0 := []) hh (roR hh 0 rfl (roR hh 1 rfl roN))) hna1 hqa1 hla1 h17 h16 h21) (fun l_2 h22 => ?_)
   obtain ⟨h23, h24⟩ := h22
   refine jS (S' := [_, _, _, _]) (vs' := []) [0, 1, 2, 3] [] 0 rfl rfl rfl rfl (j1 (jc rfl rfl rfl (fun w hh => J7 RB h23 (Try.isAgg172 w) (Try.sizeOf172 w) rfl rfl (hh.bsegA 0 rfl)) (jc rfl rfl rfl (fun w hh => J7 RB h17 (Try.isAgg172 w) (Try.sizeOf172 w) rfl rfl (hh.bsegA 2 rfl)) ?_)))
   refine jc rfl rfl rfl (fun w _ => ZL (equal_arrB Try.underlying172 (fun w => Try.sizeOf4 w) (fun w => Try.isAgg4 w) Try.underlying4 h23 h17 w) jan rfl rfl) ?_
   refine jo ?_
   refine jq rfl (fun h25 => ?_) (fun h25 => ?_)
   ·replace hm := ifD h25 hm
    refine jM (Z5 rfl (ji (jz ?_)))
    obtain rfl := sj hm
    have hbo := h18 _ rfl
    subst hbo
    exact jg () (⟨h24, h23⟩) (sE rfl) (hsE [1, 0, 3] [] 0 rfl rfl rfl rfl)
   ·replace hm := ifE h25 hm
    refine jr (js ?_)
    obtain rfl := sj hm
    refine jb ?_
    exact jy _ () rfl (⟨h24, h23⟩) (sE rfl) (hsE [1, 0, 3] [] 0 rfl rfl rfl rfl)
  ·intro l hj
   obtain ⟨h14, h15⟩ := hj
   replace hm := h13
   refine jb (jj (jp (jf rfl rfl ?_)))
   obtain ⟨t23, h26, hm⟩ := bindO hm
   refine jc rfl rfl rfl (fun w _ => KS h26 h15 (Try.runUnderlying172 w) (Try.sizeOf4 w) rfl rfl) (jc rfl rfl rfl (fun w hh => jV RB 0 h26 (Try.isAgg4 w) rfl (hh.bsegA 1 rfl) rfl (Nat.add_zero _).symm) (jc rfl rfl rfl (fun _ _ => kq rfl) (jo ?_)))
   refine jq rfl (fun h27 => ?_) (fun h27 => ?_)
   ·replace hm := ifT (h27) hm
    refine jj ?_
    refine jX none (.hoist 0 (.free 1 (.one 2 .done))) (HV _ _ [(b_2, .cells (RCh.enc o.by9).toArray 190 (0, 0)), (b_1, .cells (RB.enc o.met8).toArray 172 (0, 0))] [] _) rfl (by decide +kernel) (fun w k hh => hh.draw k) (hsE [0, 1] [] 0 rfl rfl rfl rfl) ?_
    refine jA rfl rfl rfl rfl (fun w hh => J7 RB h15 (Try.isAgg172 w) (Try.sizeOf172 w) rfl rfl (hh.bsegA 1 rfl)) (jk rfl rfl rfl rfl (fun _ _ => qj rfl) (jK rfl (jal RB (S' := [_, _, _]) 2 (fun w => Try.sizeOf172 w) rfl rfl rfl h5 h15 rfl rfl (ju (hsE [0, 1] [] 0 rfl rfl rfl rfl) (jI (jb (jw ?_)))))))
    refine je (kr 178 ?_)
    obtain rfl := sj hm
    refine jn rfl (fun w hh => (.tmp rfl (.cell rfl (loadVar_arr RB h15 (Try.isAgg172 _) (Try.sizeOf172 _) rfl (hh.bsegA 2 rfl)) .nil))) (fun w hh => ⟨⟨none, 0, 0, []⟩, rfl, ⟨VOK.nil, nieN, h15⟩, hh.se [] [0] 2 rfl rfl rfl rfl⟩)
   ·replace hm := ifN h27 hm
    refine jr (jb (jp (jc rfl rfl rfl (fun _ _ => qj rfl) (jo (jj (jp (jf rfl rfl ?_)))))))
    refine jm rfl rfl (jo (kr 178 ?_))
    obtain ⟨o_1, h28, h29⟩ := bindO hm
    refine jC (ι := VL) (fun l_3 => VOK 2 l_3.n l_3.cap (RCh.enc o_1) l_3.sp l_3.q ∧ (l_3.q = none ↔ o_1 = [])) (fun l_3 => [(7, ptr b 0), (8, ptr b_1 0), (11, slv l_3.q l_3.n l_3.cap)]) (fun l_3 => [(b_2, .cells (RCh.enc o.by9).toArray 190 (0, 0)), (b_1, .cells (RB.enc o.met8).toArray 172 (0, 0)), (b, .cells (RB.enc (List.replicate 12 false : (List Bool))).toArray 172 (0, 0))]) (fun l_3 => [⟨178, RCh.enc o_1, l_3.sp, l_3.q, []⟩]) ?_ ?_
    ·replace hm := h28
     refine jl ?_
     refine jF (ι := VL) hm (fun s_1 l_4 => VOK 2 l_4.n l_4.cap (RCh.enc s_1.out11) l_4.sp l_4.q ∧ (l_4.q = none ↔ s_1.out11 = [])) (fun s_1 l_4 => [(0, ptr rb 0), (1, .int .i64 from1), (7, ptr b 0), (8, ptr b_1 0), (9, ptr b_2 0), (11, slv l_4.q l_4.n l_4.cap), (12, .int .i64 s_1.at12)]) (fun s_1 l_4 => [(b_2, .cells (RCh.enc o.by9).toArray 190 (0, 0)), (b_1, .cells (RB.enc o.met8).toArray 172 (0, 0)), (b, .cells (RB.enc (List.replicate 12 false : (List Bool))).toArray 172 (0, 0))]) (fun s_1 l_4 => [⟨178, RCh.enc s_1.out11, l_4.sp, l_4.q, []⟩]) ⟨none, 0, 0, []⟩ (⟨VOK.nil, nieN⟩) (sE rfl) (fun w hh => hh) (fun s_1 l_4 r_1 hpl hm h34 => ?_)
     obtain ⟨h32, h33⟩ := hpl
     unfold zZ at hm
     refine jj (jp (jf rfl rfl (jf rfl rfl (jc rfl rfl rfl (fun _ _ => kv rfl rfl) (jo ?_)))))
     refine jq rfl (fun h35 => ?_) (fun h35 => ?_)
     ·replace hm := ifF (of_ndec_true h35) hm
      refine jr (jb (jl (jp (jf rfl rfl (jf rfl rfl ?_)))))
      obtain ⟨t33, h36, hm⟩ := bindO hm
      refine jc rfl rfl rfl (fun w _ => KS h36 h14 (Try.runUnderlying190 w) (Try.sizeOf178 w) rfl rfl) ?_
      refine jc rfl rfl rfl (fun w hh => kk RCh 0 [.int .i64 t33.way, .bool t33.more] h36 (Try.isAgg178 w) (Try.sizeOf178 w) rfl (hh.bsegA 0 rfl) rfl (Nat.add_zero _).symm) ?_
      refine kW RCh [(⟨t33.way, t33.more⟩ : Change)] (ps := [(0, _)]) (cells := [_, _]) (fun w => Try.runUnderlying171 w) (fun w => Try.sizeOf178 w) (fun w => Try.zeroValue178 w) rfl rfl rfl rfl rfl rfl rfl rfl (fun L h37 => ?_)
      obtain ⟨t36, h38, hm⟩ := bindO hm
      refine y4 RCh 1 h38 Try.underlying171 Y8 rfl rfl rfl rfl rfl h32 rfl rfl (vlen RCh h37 rfl) (AOK.q (vne h37)) (fun w hh => (hh.vsegA 0 rfl h37)) rfl (fun L_1 h39 h39n => ?_)
      refine jS (S' := [_, _, _]) (vs' := [_, _]) [0, 1, 2] [0, 1] 0 rfl rfl rfl rfl (jm rfl rfl (jo (jh (jf rfl rfl (jf rfl rfl ?_)))))
      obtain ⟨t40, h40, hm⟩ := bindO hm
      refine jc rfl rfl rfl (fun w _ => KS h40 h14 (Try.runUnderlying190 w) (Try.sizeOf178 w) rfl rfl) ?_
      refine jc rfl rfl rfl (fun w hh => kk RCh 0 [.int .i64 t40.way, .bool t40.more] h40 (Try.isAgg178 w) (Try.sizeOf178 w) rfl (hh.bsegA 0 rfl) rfl (Nat.add_zero _).symm) ?_
      obtain ⟨t42, h41, hm⟩ := bindO hm
      refine jd [] [] rfl rfl rfl rfl rfl rfl rfl Try.call144 (fun w hh => Kn n00 t40 rb qa1 na1 ca1 w (HV.callee (S0 := []) (vs0 := []) hh (roR hh 0 rfl (roR hh 1 rfl roN))) hna1 hqa1 hla1 h41) (fun l_5 h42 => ?_)
      refine jf rfl rfl (kj rfl rfl rfl (kj rfl rfl rfl (kj rfl rfl rfl (kj rfl rfl rfl (jm rfl rfl (jv (js ?_)))))))
      obtain rfl := sj hm
      refine jb ?_
      exact jy _ L_1 rfl (⟨h39, (h39n h33)⟩) (sE rfl) (hsE [0, 1, 2] [1] 0 rfl rfl rfl rfl)
     ·replace hm := ifT (of_ndec_false h35) hm
      refine jM (ji (ji (jz ?_)))
      obtain rfl := sj hm
      have hbo := h34 _ rfl
      subst hbo
      exact jg l_4 (⟨h32, h33⟩) (sE rfl) (fun w hh => hh)
    ·intro l_3 hj
     obtain ⟨h30, h31⟩ := hj
     replace hm := h29
     refine jb (jj ?_)
     refine jX none (.free 0 (.hoist 1 (.free 2 (.one 3 .done)))) (HV _ _ [(b_2, .cells (RCh.enc o.by9).toArray 190 (0, 0)), (b_1, .cells (RB.enc o.met8).toArray 172 (0, 0))] [⟨178, RCh.enc o_1, l_3.sp, l_3.q, []⟩] _) rfl (by decide +kernel) (fun w k hh => hh.draw k) (hsE [0, 1] [0] 0 rfl rfl rfl rfl) ?_
     refine kg rfl rfl rfl (jA rfl rfl rfl rfl (fun w hh => J7 RB h15 (Try.isAgg172 w) (Try.sizeOf172 w) rfl rfl (hh.bsegA 1 rfl)) (jk rfl rfl rfl rfl (fun _ _ => jN rfl) (jK rfl (jal RB (S' := [_, _, _]) 2 (fun w => Try.sizeOf172 w) rfl rfl rfl h5 h15 rfl rfl (ju (hsE [0, 1] [0] 0 rfl rfl rfl rfl) (jI (jb ?_)))))))
     refine jw ?_
     obtain rfl := sj hm
     refine jn rfl (fun w hh => (.tmp rfl (.cell rfl (loadVar_arr RB h15 (Try.isAgg172 _) (Try.sizeOf172 _) rfl (hh.bsegA 2 rfl)) .nil))) (fun w hh => ⟨l_3, rfl, ⟨h30, h31, h15⟩, hh.se [] [0] 2 rfl rfl rfl rfl⟩)
structure zQ where
  t22 : Int
  out7_of_ : (List Int)
def zX (d01 : (List Span)) (met2 : (List Bool)) (s : zQ) : Option (zQ ⊕ (List Int)) :=
 if s.t22 < (d01.length : Int) then
 (((addc 7 s.t22).bind fun t26 =>
 (ix met2 t26).bind fun t27 =>
 if (!t27) = true then
 ((appc 8 s.out7_of_ [s.t22]).bind fun t34 =>
 some t34) else
 (some s.out7_of_)).bind fun o_1 =>
 (addc s.t22 1).bind fun t36 =>
 some (.inl (⟨t36, o_1⟩ : zQ))) else
 (some (.inr s.out7_of_))
structure zP where
  t44 : Int
  out7_of_ : (List Int)
def Ja (d00 : (List Strip)) (met2 : (List Bool)) (s_1 : zP) : Option (zP ⊕ (List Int)) :=
 if s_1.t44 < (d00.length : Int) then
 (((addc 1 s_1.t44).bind fun t48 =>
 (ix met2 t48).bind fun t49 =>
 if t49 = true then
 ((appc 8 s_1.out7_of_ [s_1.t44]).bind fun t55 =>
 some t55) else
 (some s_1.out7_of_)).bind fun o_3 =>
 (addc s_1.t44 1).bind fun t57 =>
 some (.inl (⟨t57, o_3⟩ : zP))) else
 (some (.inr s_1.out7_of_))
def K7 (d00 : (List Strip)) (d01 : (List Span)) (w1 : Wy) (met2 : (List Bool)) : Option Lack :=
 if w1.dst = 0 then
 ((iterM FU (zX d01 met2) (⟨0, []⟩ : zQ)).bind fun o =>
 some (⟨(decide (w1.dst = 0)), o⟩ : Lack)) else
 ((iterM FU (Ja d00 met2) (⟨0, []⟩ : zP)).bind fun o_2 =>
 some (⟨(decide (w1.dst = 0)), o_2⟩ : Lack))
theorem jab (d00 : (List Strip)) (d01 : (List Span)) (w1 : Wy) (met2 : (List Bool)) (rb : Nat) (qa1 : Option Addr) (na1 ca1 : Nat) (qa2 : Option Addr) (na2 ca2 : Nat) (mv : Value) (w : World) (hw : HV w (keys [] []) [] [] [(rb, 0, [.slice qa1 na1 ca1, .slice qa2 na2 ca2, mv]), (aB qa1, aO qa1, RSt.enc d00), (aB qa2, aO qa2, RSp.enc d01)] w)  (hna1 : d00.length = na1) (hqa1 : AOK na1 qa1) (hla1 : na1 ≤ ca1) (hna2 : d01.length = na2) (hqa2 : AOK na2 qa2) (hla2 : na2 ≤ ca2) (hl_met2 : met2.length = 12) {res : Lack} (hm : K7 d00 d01 w1 met2 = some res) :
    Calls Try.prog 118 #[ptr rb 0, .agg #[.int .i64 w1.fr, .int .i64 w1.dst, .int .i64 w1.lo, .int .i64 w1.hi, .int .i64 w1.cost, .int .i64 w1.goes], .agg (RB.enc met2).toArray] w (fun en w' => ∃ l : VL, en = .returned (.agg #[.bool res.tenants, slv l.q l.n l.cap]) ∧ (VOK 1 l.n l.cap (RI.enc res.of_) l.sp l.q) ∧ HV w (keys [] []) [] [⟨3, RI.enc res.of_, l.sp, l.q, []⟩] [] w') := by
  unfold K7 at hm
  refine kb Try.func118 rfl Try.ntmps118 rfl (e := [(0, _), (1, _), (2, _)]) rfl hw (jp ?_)
  refine jH rfl rfl (fun b h2 => ?_)
  refine jH rfl rfl (fun b_1 h3 => ?_)
  refine jt (fun w => Try.zeroValue61 w) rfl (fun b_2 h4 => ?_)
  refine j1 (jL 1 Try.runUnderlying170 rfl Try.sizeOf3 rfl rfl (jU 2 Try.isAgg3 rfl rfl rfl rfl (jc rfl rfl rfl (fun _ _ => zr rfl rfl) (jc rfl rfl rfl (fun _ _ => jG (vs := [(0, _)]) (cells := [_, _]) rfl rfl) ?_))))
  refine jt (fun w => Try.zeroValue61 w) rfl (fun b_3 h5 => ?_)
  refine jE (us := #[_, _]) (cs' := [_, _]) (S' := [_, _, _, _]) 0 (fun w => Try.sizeOf61 w) rfl rfl rfl rfl rfl rfl rfl (jo (jj (jp (jL 0 Try.runUnderlying61 rfl Try.sizeOf4 rfl rfl (jU 0 Try.isAgg4 rfl rfl rfl rfl (jo ?_))))))
  refine jq rfl (fun h6 => ?_) (fun h6 => ?_)
  ·replace hm := ifD h6 hm
   refine jj (jp (jf rfl rfl (jc rfl rfl rfl (fun _ _ => jJ rfl) (jL 0 Try.runUnderlying163 rfl Try.sizeOf28 rfl rfl (jL 1 Try.runUnderlying28 rfl Try.sizeOf26 rfl rfl (jc rfl rfl rfl (fun w hh => jY (Try.isAgg26 w) rfl (segCell (hh.seg 0 rfl) 1 rfl)) (jc rfl rfl rfl (fun w _ => jB hna2 (Try.runUnderlying26 w) rfl) ?_)))))))
   refine jf rfl rfl (jo (kr 3 ?_))
   obtain ⟨o, h7, h8⟩ := bindO hm
   refine jC (ι := VL) (fun l => VOK 1 l.n l.cap (RI.enc o) l.sp l.q) (fun l => [(6, ptr b_2 0), (7, ptr b_3 0)]) (fun l => [(b_3, .cells #[.bool (decide (w1.dst = 0)), slv l.q l.n l.cap] 61 (0, 0)), (b_2, .cells #[.bool false, slv none 0 0] 61 (0, 0)), (b_1, .cells (RB.enc met2).toArray 172 (0, 0)), (b, .cells #[.int .i64 w1.fr, .int .i64 w1.dst, .int .i64 w1.lo, .int .i64 w1.hi, .int .i64 w1.cost, .int .i64 w1.goes] 170 (0, 0))]) (fun l => [⟨3, RI.enc o, l.sp, l.q, []⟩]) ?_ ?_
   ·replace hm := h7
    refine jl ?_
    refine jF (ι := VL) hm (fun s l_1 => VOK 1 l_1.n l_1.cap (RI.enc s.out7_of_) l_1.sp l_1.q) (fun s l_1 => [(5, ptr b_1 0), (6, ptr b_2 0), (7, ptr b_3 0), (21, .int .i64 (d01.length : Int)), (22, .int .i64 s.t22)]) (fun s l_1 => [(b_3, .cells #[.bool (decide (w1.dst = 0)), slv l_1.q l_1.n l_1.cap] 61 (0, 0)), (b_2, .cells #[.bool false, slv none 0 0] 61 (0, 0)), (b_1, .cells (RB.enc met2).toArray 172 (0, 0)), (b, .cells #[.int .i64 w1.fr, .int .i64 w1.dst, .int .i64 w1.lo, .int .i64 w1.hi, .int .i64 w1.cost, .int .i64 w1.goes] 170 (0, 0))]) (fun s l_1 => [⟨3, RI.enc s.out7_of_, l_1.sp, l_1.q, []⟩]) ⟨none, 0, 0, []⟩ (VOK.nil) (sE rfl) (fun w hh => hh) (fun s l_1 r hpl hm h11 => ?_)
    have h10 := hpl
    unfold zX at hm
    refine jp (qv rfl rfl rfl (jo (jj ?_)))
    refine jq rfl (fun h12 => ?_) (fun h12 => ?_)
    ·replace hm := ifD h12 hm
     refine jr (jb (jj ?_))
     obtain ⟨o_1, h13, h14⟩ := bindO hm
     refine jC (ι := VL) (fun l_2 => VOK 1 l_2.n l_2.cap (RI.enc o_1) l_2.sp l_2.q) (fun l_2 => [(5, ptr b_1 0), (6, ptr b_2 0), (7, ptr b_3 0), (21, .int .i64 (d01.length : Int)), (22, .int .i64 s.t22)]) (fun l_2 => [(b_3, .cells #[.bool (decide (w1.dst = 0)), slv l_2.q l_2.n l_2.cap] 61 (0, 0)), (b_2, .cells #[.bool false, slv none 0 0] 61 (0, 0)), (b_1, .cells (RB.enc met2).toArray 172 (0, 0)), (b, .cells #[.int .i64 w1.fr, .int .i64 w1.dst, .int .i64 w1.lo, .int .i64 w1.hi, .int .i64 w1.cost, .int .i64 w1.goes] 170 (0, 0))]) (fun l_2 => [⟨3, RI.enc o_1, l_2.sp, l_2.q, []⟩]) ?_ ?_
     ·replace hm := h13
      refine jl (jp (jf rfl rfl (jm rfl rfl (j1 (jf rfl rfl ?_)))))
      obtain ⟨t26, h16, hm⟩ := bindO hm
      refine kt h16 rfl rfl rfl ?_
      obtain ⟨t27, h17, hm⟩ := bindO hm
      refine jc rfl rfl rfl (fun w _ => KS h17 hl_met2 (Try.runUnderlying172 w) (Try.sizeOf4 w) rfl rfl) (jc rfl rfl rfl (fun w hh => jV RB 0 h17 (Try.isAgg4 w) rfl (hh.bsegA 2 rfl) rfl (Nat.add_zero _).symm) (jc rfl rfl rfl (fun _ _ => kq rfl) (jo ?_)))
      refine jq rfl (fun h18 => ?_) (fun h18 => ?_)
      ·replace hm := ifT (h18) hm
       refine jh (jL 1 Try.runUnderlying61 rfl Try.sizeOf32 rfl rfl (jU 0 Try.isAgg32 rfl rfl rfl rfl (jf rfl rfl ?_)))
       refine kW RI [s.t22] (ps := [(0, _)]) (cells := [_]) (fun w => Try.runUnderlying32 w) (fun w => Try.sizeOf3 w) (fun w => Try.zeroValue3 w) rfl rfl rfl rfl rfl rfl rfl rfl (fun L h19 => ?_)
       obtain ⟨t34, h20, hm⟩ := bindO hm
       refine y4 RI 1 h20 Try.underlying32 JJ rfl rfl rfl rfl rfl h10 rfl rfl (vlen RI h19 rfl) (AOK.q (vne h19)) (fun w hh => (hh.vsegA 0 rfl h19)) rfl (fun L_1 h21 h21n => ?_)
       refine jS (S' := [_, _, _, _]) (vs' := [_, _]) [0, 1, 2, 3] [0, 1] 0 rfl rfl rfl rfl (jL 1 Try.runUnderlying61 rfl Try.sizeOf32 rfl rfl (yV (cs' := #[_, _]) (S' := [_, _, _, _]) 0 (fun w => Try.sizeOf32 w) rfl rfl rfl rfl rfl rfl rfl (jv (js ?_))))
       obtain rfl := sj hm
       exact jg L_1 (h21) (sE rfl) (hsE [0, 1, 2, 3] [1] 0 rfl rfl rfl rfl)
      ·replace hm := ifN h18 hm
       refine jr (js ?_)
       obtain rfl := sj hm
       exact jg l_1 (h10) (sE rfl) (fun w hh => hh)
     ·intro l_2 hj
      have h15 := hj
      replace hm := h14
      refine jb (jh ?_)
      obtain ⟨t36, h22, hm⟩ := bindO hm
      refine kt h22 rfl rfl rfl (jf rfl rfl (jv ?_))
      obtain rfl := sj hm
      refine jb ?_
      exact jy _ l_2 rfl (h15) (sE rfl) (fun w hh => hh)
    ·replace hm := ifE h12 hm
     refine jM (ji (ji (jz ?_)))
     obtain rfl := sj hm
     have hbo := h11 _ rfl
     subst hbo
     exact jg l_1 (h10) (sE rfl) (fun w hh => hh)
   ·intro l hj
    have h9 := hj
    replace hm := h8
    refine jb (jp (kG [_, _] 0 Try.isAgg61 Try.sizeOf61 rfl rfl rfl rfl (jE (us := #[_, _]) (cs' := [_, _]) (S' := [_, _, _, _]) 1 (fun w => Try.sizeOf61 w) rfl rfl rfl rfl rfl rfl rfl (jo (jw (je ?_))))))
    obtain rfl := sj hm
    refine jn rfl (fun w hh => (.cell rfl (loadVar_agg (vs := [_, _]) (Try.isAgg61 _) (Try.sizeOf61 _) (hh.cells 1 rfl rfl)) .nil)) (fun w hh => ⟨l, rfl, h9, hh.se [] [0] 3 rfl rfl rfl rfl⟩)
  ·replace hm := ifE h6 hm
   refine jr (jb (jj (jp (jf rfl rfl (jc rfl rfl rfl (fun _ _ => jJ rfl) (jL 0 Try.runUnderlying163 rfl Try.sizeOf28 rfl rfl (jL 0 Try.runUnderlying28 rfl Try.sizeOf25 rfl rfl ?_)))))))
   refine jc rfl rfl rfl (fun w hh => jY (Try.isAgg25 w) rfl (segCell (hh.seg 0 rfl) 0 rfl)) (jc rfl rfl rfl (fun w _ => jB hna1 (Try.runUnderlying25 w) rfl) (jf rfl rfl (jo (kr 3 ?_))))
   obtain ⟨o_2, h23, h24⟩ := bindO hm
   refine jC (ι := VL) (fun l_3 => VOK 1 l_3.n l_3.cap (RI.enc o_2) l_3.sp l_3.q) (fun l_3 => [(6, ptr b_2 0), (7, ptr b_3 0)]) (fun l_3 => [(b_3, .cells #[.bool (decide (w1.dst = 0)), slv l_3.q l_3.n l_3.cap] 61 (0, 0)), (b_2, .cells #[.bool false, slv none 0 0] 61 (0, 0)), (b_1, .cells (RB.enc met2).toArray 172 (0, 0)), (b, .cells #[.int .i64 w1.fr, .int .i64 w1.dst, .int .i64 w1.lo, .int .i64 w1.hi, .int .i64 w1.cost, .int .i64 w1.goes] 170 (0, 0))]) (fun l_3 => [⟨3, RI.enc o_2, l_3.sp, l_3.q, []⟩]) ?_ ?_
   ·replace hm := h23
    refine jl ?_
    refine jF (ι := VL) hm (fun s_1 l_4 => VOK 1 l_4.n l_4.cap (RI.enc s_1.out7_of_) l_4.sp l_4.q) (fun s_1 l_4 => [(5, ptr b_1 0), (6, ptr b_2 0), (7, ptr b_3 0), (43, .int .i64 (d00.length : Int)), (44, .int .i64 s_1.t44)]) (fun s_1 l_4 => [(b_3, .cells #[.bool (decide (w1.dst = 0)), slv l_4.q l_4.n l_4.cap] 61 (0, 0)), (b_2, .cells #[.bool false, slv none 0 0] 61 (0, 0)), (b_1, .cells (RB.enc met2).toArray 172 (0, 0)), (b, .cells #[.int .i64 w1.fr, .int .i64 w1.dst, .int .i64 w1.lo, .int .i64 w1.hi, .int .i64 w1.cost, .int .i64 w1.goes] 170 (0, 0))]) (fun s_1 l_4 => [⟨3, RI.enc s_1.out7_of_, l_4.sp, l_4.q, []⟩]) ⟨none, 0, 0, []⟩ (VOK.nil) (sE rfl) (fun w hh => hh) (fun s_1 l_4 r_1 hpl hm h27 => ?_)
    have h26 := hpl
    unfold Ja at hm
    refine jp (qv rfl rfl rfl (jo (jj ?_)))
    refine jq rfl (fun h28 => ?_) (fun h28 => ?_)
    ·replace hm := ifD h28 hm
     refine jr (jb (jj ?_))
     obtain ⟨o_3, h29, h30⟩ := bindO hm
     refine jC (ι := VL) (fun l_5 => VOK 1 l_5.n l_5.cap (RI.enc o_3) l_5.sp l_5.q) (fun l_5 => [(5, ptr b_1 0), (6, ptr b_2 0), (7, ptr b_3 0), (43, .int .i64 (d00.length : Int)), (44, .int .i64 s_1.t44)]) (fun l_5 => [(b_3, .cells #[.bool (decide (w1.dst = 0)), slv l_5.q l_5.n l_5.cap] 61 (0, 0)), (b_2, .cells #[.bool false, slv none 0 0] 61 (0, 0)), (b_1, .cells (RB.enc met2).toArray 172 (0, 0)), (b, .cells #[.int .i64 w1.fr, .int .i64 w1.dst, .int .i64 w1.lo, .int .i64 w1.hi, .int .i64 w1.cost, .int .i64 w1.goes] 170 (0, 0))]) (fun l_5 => [⟨3, RI.enc o_3, l_5.sp, l_5.q, []⟩]) ?_ ?_
     ·replace hm := h29
      refine jl (jp (jf rfl rfl (jm rfl rfl (j1 (jf rfl rfl ?_)))))
      obtain ⟨t48, h32, hm⟩ := bindO hm
      refine kt h32 rfl rfl rfl ?_
      obtain ⟨t49, h33, hm⟩ := bindO hm
      refine jc rfl rfl rfl (fun w _ => KS h33 hl_met2 (Try.runUnderlying172 w) (Try.sizeOf4 w) rfl rfl) (jc rfl rfl rfl (fun w hh => jV RB 0 h33 (Try.isAgg4 w) rfl (hh.bsegA 2 rfl) rfl (Nat.add_zero _).symm) (jo ?_))
      refine jq rfl (fun h34 => ?_) (fun h34 => ?_)
      ·replace hm := ifT (h34) hm
       refine jh (jL 1 Try.runUnderlying61 rfl Try.sizeOf32 rfl rfl (jU 0 Try.isAgg32 rfl rfl rfl rfl (jf rfl rfl ?_)))
       refine kW RI [s_1.t44] (ps := [(0, _)]) (cells := [_]) (fun w => Try.runUnderlying32 w) (fun w => Try.sizeOf3 w) (fun w => Try.zeroValue3 w) rfl rfl rfl rfl rfl rfl rfl rfl (fun L_2 h35 => ?_)
       obtain ⟨t55, h36, hm⟩ := bindO hm
       refine y4 RI 1 h36 Try.underlying32 JJ rfl rfl rfl rfl rfl h26 rfl rfl (vlen RI h35 rfl) (AOK.q (vne h35)) (fun w hh => (hh.vsegA 0 rfl h35)) rfl (fun L_3 h37 h37n => ?_)
       refine jS (S' := [_, _, _, _]) (vs' := [_, _]) [0, 1, 2, 3] [0, 1] 0 rfl rfl rfl rfl (jL 1 Try.runUnderlying61 rfl Try.sizeOf32 rfl rfl (yV (cs' := #[_, _]) (S' := [_, _, _, _]) 0 (fun w => Try.sizeOf32 w) rfl rfl rfl rfl rfl rfl rfl (jv (js ?_))))
       obtain rfl := sj hm
       exact jg L_3 (h37) (sE rfl) (hsE [0, 1, 2, 3] [1] 0 rfl rfl rfl rfl)
      ·replace hm := ifN h34 hm
       refine jr (js ?_)
       obtain rfl := sj hm
       exact jg l_4 (h26) (sE rfl) (fun w hh => hh)
     ·intro l_5 hj
      have h31 := hj
      replace hm := h30
      refine jb (jh ?_)
      obtain ⟨t57, h38, hm⟩ := bindO hm
      refine kt h38 rfl rfl rfl (jf rfl rfl (jv ?_))
      obtain rfl := sj hm
      refine jb ?_
      exact jy _ l_5 rfl (h31) (sE rfl) (fun w hh => hh)
    ·replace hm := ifE h28 hm
     refine jM (ji (ji (jz ?_)))
     obtain rfl := sj hm
     have hbo := h27 _ rfl
     subst hbo
     exact jg l_4 (h26) (sE rfl) (fun w hh => hh)
   ·intro l_3 hj
    have h25 := hj
    replace hm := h24
    refine jb (jp (kG [_, _] 0 Try.isAgg61 Try.sizeOf61 rfl rfl rfl rfl (jE (us := #[_, _]) (cs' := [_, _]) (S' := [_, _, _, _]) 1 (fun w => Try.sizeOf61 w) rfl rfl rfl rfl rfl rfl rfl (jo (jw ?_)))))
    obtain rfl := sj hm
    refine jn rfl (fun w hh => (.cell rfl (loadVar_agg (vs := [_, _]) (Try.isAgg61 _) (Try.sizeOf61 _) (hh.cells 1 rfl rfl)) .nil)) (fun w hh => ⟨l_3, rfl, h25, hh.se [] [0] 3 rfl rfl rfl rfl⟩)
structure zI where
  most2 : Int
  t16 : Int
def qI (l1 : (List Change)) (n00 : (List Wy)) (s : zI) : Option (zI ⊕ Int) :=
 if s.t16 < (l1.length : Int) then
 ((ix l1 s.t16).bind fun t18 =>
 (qy n00 t18).bind fun t23 =>
 (Jx s.most2 [t23.r3]).bind fun t31 =>
 (addc s.t16 1).bind fun t32 =>
 some (.inl (⟨t31, t32⟩ : zI))) else
 (some (.inr s.most2))
structure zG where
  t35 : Int
  n00 : (List Wy)
def qL (l1 : (List Change)) (o : Int) (s_1 : zG) : Option (zG ⊕ (List Wy)) :=
 if s_1.t35 < (l1.length : Int) then
 (((ix l1 s_1.t35).bind fun t37 =>
 if t37.more = true then
 ((ix s_1.n00 t37.way).bind fun t47 =>
 (addc t47.goes o).bind fun t51 =>
 (ix s_1.n00 t37.way).bind fun t52 =>
 (some (s_1.n00.set (Int.toNat t37.way) (⟨t52.fr, t52.dst, t52.lo, t52.hi, t52.cost, t51⟩ : Wy))).bind fun n00_1 =>
 some n00_1) else
 ((ix s_1.n00 t37.way).bind fun t60 =>
 (subc t60.goes o).bind fun t64 =>
 (ix s_1.n00 t37.way).bind fun t65 =>
 (some (s_1.n00.set (Int.toNat t37.way) (⟨t65.fr, t65.dst, t65.lo, t65.hi, t65.cost, t64⟩ : Wy))).bind fun n00_2 =>
 some n00_2)).bind fun o_2 =>
 (addc s_1.t35 1).bind fun t67 =>
 some (.inl (⟨t67, o_2⟩ : zG))) else
 (some (.inr s_1.n00))
def zu (n00 : (List Wy)) (l1 : (List Change)) (most2 : Int) : Option (List Wy) :=
 (iterM FU (qI l1 n00) (⟨most2, 0⟩ : zI)).bind fun o =>
 (iterM FU (qL l1 o) (⟨0, n00⟩ : zG)).bind fun o_1 =>
 some o_1
theorem Yy (n00 : (List Wy)) (l1 : (List Change)) (most2 : Int) (rb : Nat) (V_n00 : VL) (qa1 : Option Addr) (na1 ca1 : Nat) (w : World) (hw : HV w (keys [] [⟨170, RWay.enc n00, V_n00.sp, V_n00.q, []⟩]) [] [⟨170, RWay.enc n00, V_n00.sp, V_n00.q, []⟩] [(rb, 0, [slv V_n00.q V_n00.n V_n00.cap]), (aB qa1, aO qa1, RCh.enc l1)] w)  (hv_n00 : VOK 6 V_n00.n V_n00.cap (RWay.enc n00) V_n00.sp V_n00.q) (hna1 : l1.length = na1) (hqa1 : AOK na1 qa1) (hla1 : na1 ≤ ca1) {res : (List Wy)} (hm : zu n00 l1 most2 = some res) :
    Calls Try.prog 119 #[ptr rb 0, .slice qa1 na1 ca1, .int .i64 most2] w (fun en w' => ∃ l : Unit, en = .returned (.tuple #[]) ∧ (VOK 6 V_n00.n V_n00.cap (RWay.enc res) V_n00.sp V_n00.q) ∧ HV w (keys [] [⟨170, RWay.enc n00, V_n00.sp, V_n00.q, []⟩]) [] [⟨170, RWay.enc res, V_n00.sp, V_n00.q, []⟩] [] w') := by
  unfold zu at hm
  refine kb Try.func119 rfl Try.ntmps119 rfl (e := [(0, _), (1, _), (2, _)]) rfl hw (jj (jp (jf rfl rfl (jc rfl rfl rfl (fun w _ => jB hna1 (Try.runUnderlying171 w) rfl) (jf rfl rfl (jo ?_))))))
  obtain ⟨o, h2, h3⟩ := bindO hm
  refine jC (ι := Unit) (fun l => True) (fun l => [(0, ptr rb 0), (1, .slice qa1 na1 ca1), (2, .int .i64 o)]) (fun l => []) (fun l => [⟨170, RWay.enc n00, V_n00.sp, V_n00.q, []⟩]) ?_ ?_
  ·replace hm := h2
   refine jl ?_
   refine jF (ι := Unit) hm (fun s l_1 => True) (fun s l_1 => [(0, ptr rb 0), (1, .slice qa1 na1 ca1), (2, .int .i64 s.most2), (14, .slice qa1 na1 ca1), (15, .int .i64 (l1.length : Int)), (16, .int .i64 s.t16)]) (fun s l_1 => []) (fun s l_1 => [⟨170, RWay.enc n00, V_n00.sp, V_n00.q, []⟩]) () (trivial) (sE rfl) (fun w hh => hh) (fun s l_1 r hpl hm h4 => ?_)
   unfold qI at hm
   refine jp (qv rfl rfl rfl (jo (jj ?_)))
   refine jq rfl (fun h5 => ?_) (fun h5 => ?_)
   ·replace hm := ifD h5 hm
    refine jr (jb (jj (jl (jp ?_))))
    obtain ⟨t18, h6, hm⟩ := bindO hm
    refine jc rfl rfl rfl (fun w _ => jW h6 (Try.runUnderlying171 w) (Try.sizeOf178 w) rfl rfl hna1 hqa1) ?_
    refine jc rfl rfl rfl (fun w hh => kk RCh 0 [.int .i64 t18.way, .bool t18.more] h6 (Try.isAgg178 w) (Try.sizeOf178 w) rfl (hh.seg 1 rfl) rfl (Nat.add_zero _).symm) ?_
    refine jt (fun w => Try.zeroValue178 w) rfl (fun b h7 => ?_)
    refine jE (us := #[_, _]) (cs' := [_, _]) (S' := [_]) 0 (fun w => Try.sizeOf178 w) rfl rfl rfl rfl rfl rfl rfl (j1 (jf rfl rfl (kG [_, _] 0 Try.isAgg178 Try.sizeOf178 rfl rfl rfl rfl ?_)))
    obtain ⟨t23, h8, hm⟩ := bindO hm
    refine jd [] [] rfl rfl rfl rfl rfl rfl rfl Try.call144 (fun w hh => Kn n00 t18 rb (qA V_n00.q) V_n00.n V_n00.cap w (HV.callee (S0 := []) (vs0 := []) hh (roR hh 0 rfl (roC (hh.vsepA 0 rfl hv_n00) roN))) (vlen RWay hv_n00 rfl) (AOK.q (vne hv_n00)) (hv_n00).hle h8) (fun l_2 h9 => ?_)
    refine jf rfl rfl (kj rfl rfl rfl (kj rfl rfl rfl (kj rfl rfl rfl (kj rfl rfl rfl (jm rfl rfl (jm rfl rfl (jm rfl rfl ?_)))))))
    refine jm rfl rfl (jo (jh (jf rfl rfl (jf rfl rfl ?_))))
    refine kW RI [t23.r3] (ps := [(0, _)]) (cells := [_]) (fun w => Try.runUnderlying32 w) (fun w => Try.sizeOf3 w) (fun w => Try.zeroValue3 w) rfl rfl rfl rfl rfl rfl rfl rfl (fun L h10 => ?_)
    obtain ⟨t31, h11, hm⟩ := bindO hm
    refine jd [] [] rfl rfl rfl rfl rfl rfl rfl Try.call55 (fun w hh => Qc s.most2 [t23.r3] (qA L.q) L.n L.cap w (HV.callee (S0 := []) (vs0 := []) hh (roC (hh.vsepA 0 rfl h10) roN)) (vlen RI h10 rfl) (AOK.q (vne h10)) (h10).hle h11) (fun l_3 h12 => ?_)
    refine jm rfl rfl (jv (js (jb (jh ?_))))
    obtain ⟨t32, h13, hm⟩ := bindO hm
    refine kt h13 rfl rfl rfl (jf rfl rfl (jv ?_))
    obtain rfl := sj hm
    refine jb ?_
    exact jy _ () rfl (trivial) (sE rfl) (hsE [] [1] 0 rfl rfl rfl rfl)
   ·replace hm := ifE h5 hm
    refine jM (ji (ji (jz ?_)))
    obtain rfl := sj hm
    have hbo := h4 _ rfl
    subst hbo
    exact jg () (trivial) (sE rfl) (fun w hh => hh)
  ·intro l hj
   replace hm := h3
   refine jb (jp (jf rfl rfl (jc rfl rfl rfl (fun w _ => jB hna1 (Try.runUnderlying171 w) rfl) (jf rfl rfl (jo ?_)))))
   obtain ⟨o_1, h14, h15⟩ := bindO hm
   refine jC (ι := Unit) (fun l_4 => VOK 6 V_n00.n V_n00.cap (RWay.enc o_1) V_n00.sp V_n00.q) (fun l_4 => []) (fun l_4 => []) (fun l_4 => [⟨170, RWay.enc o_1, V_n00.sp, V_n00.q, []⟩]) ?_ ?_
   ·replace hm := h14
    refine jl ?_
    refine jF (ι := Unit) hm (fun s_1 l_5 => VOK 6 V_n00.n V_n00.cap (RWay.enc s_1.n00) V_n00.sp V_n00.q) (fun s_1 l_5 => [(0, ptr rb 0), (2, .int .i64 o), (33, .slice qa1 na1 ca1), (34, .int .i64 (l1.length : Int)), (35, .int .i64 s_1.t35)]) (fun s_1 l_5 => []) (fun s_1 l_5 => [⟨170, RWay.enc s_1.n00, V_n00.sp, V_n00.q, []⟩]) () (hv_n00) (sE rfl) (fun w hh => hh) (fun s_1 l_5 r_1 hpl hm h18 => ?_)
    have h17 := hpl
    unfold qL at hm
    refine jp (qv rfl rfl rfl (jo (jj ?_)))
    refine jq rfl (fun h19 => ?_) (fun h19 => ?_)
    ·replace hm := ifD h19 hm
     refine jr (jb (jj ?_))
     obtain ⟨o_2, h20, h21⟩ := bindO hm
     refine jC (ι := Unit) (fun l_6 => VOK 6 V_n00.n V_n00.cap (RWay.enc o_2) V_n00.sp V_n00.q) (fun l_6 => [(0, ptr rb 0), (2, .int .i64 o), (33, .slice qa1 na1 ca1), (34, .int .i64 (l1.length : Int)), (35, .int .i64 s_1.t35)]) (fun l_6 => []) (fun l_6 => [⟨170, RWay.enc o_2, V_n00.sp, V_n00.q, []⟩]) ?_ ?_
     ·replace hm := h20
      refine jl (jp ?_)
      obtain ⟨t37, h23, hm⟩ := bindO hm
      refine jc rfl rfl rfl (fun w _ => jW h23 (Try.runUnderlying171 w) (Try.sizeOf178 w) rfl rfl hna1 hqa1) ?_
      refine jc rfl rfl rfl (fun w hh => kk RCh 0 [.int .i64 t37.way, .bool t37.more] h23 (Try.isAgg178 w) (Try.sizeOf178 w) rfl (hh.seg 1 rfl) rfl (Nat.add_zero _).symm) ?_
      refine jt (fun w => Try.zeroValue178 w) rfl (fun b_1 h24 => ?_)
      refine jE (us := #[_, _]) (cs' := [_, _]) (S' := [_]) 0 (fun w => Try.sizeOf178 w) rfl rfl rfl rfl rfl rfl rfl (j1 (jL 1 Try.runUnderlying178 rfl Try.sizeOf4 rfl rfl (jU 0 Try.isAgg4 rfl rfl rfl rfl (jo ?_))))
      refine jq rfl (fun h25 => ?_) (fun h25 => ?_)
      ·replace hm := ifT (h25) hm
       refine jX (some 13) (.free 0 (.free 1 (.free 2 (.hoist 3 (.free 4 (.hoist 5 (.free 6 (.free 7 (.hoist 8 (.free 9 (.free 10 (.free 11 (.free 12 (.last 13 .done)))))))))))))) _ rfl (by decide +kernel) (fun w k hh => hh.draw k) (fun w hh => hh) ?_
       refine kg rfl rfl rfl (jk rfl rfl rfl rfl (fun _ _ => jJ rfl) (kO 0 Try.runUnderlying168 Try.sizeOf166 rfl rfl rfl rfl (jA rfl rfl rfl rfl (fun w hh => jY (Try.isAgg166 w) rfl (segCell (hh.seg 0 rfl) 0 rfl)) (kO 0 Try.runUnderlying178 Try.sizeOf3 rfl rfl rfl rfl (qq 0 Try.isAgg3 rfl rfl rfl rfl rfl ?_)))))
       obtain ⟨t47, h26, hm⟩ := bindO hm
       refine jk rfl rfl rfl rfl (fun w _ => qe h26 (Try.runUnderlying166 w) (Try.sizeOf170 w) rfl rfl (vlen RWay h17 rfl) (vne h17)) (kO 5 Try.runUnderlying170 Try.sizeOf3 rfl rfl rfl rfl (jA rfl rfl rfl rfl (fun w hh => jV RWay 5 h26 (Try.isAgg3 w) rfl (hh.vseg 0 rfl h17) rfl rfl) (kg rfl rfl rfl ?_)))
       obtain ⟨t51, h27, hm⟩ := bindO hm
       refine jk rfl rfl rfl rfl (fun _ _ => Jg h27 rfl rfl) ?_
       obtain ⟨t52, h28, hm⟩ := bindO hm
       refine jk rfl rfl rfl rfl (fun w _ => qe h28 (Try.runUnderlying166 w) (Try.sizeOf170 w) rfl rfl (vlen RWay h17 rfl) (vne h17)) (kO 5 Try.runUnderlying170 Try.sizeOf3 rfl rfl rfl rfl (Q8 rfl ?_))
       obtain ⟨n00_1, hn00_1, hm⟩ := bindO hm
       refine KU RWay 0 5 (⟨t52.fr, t52.dst, t52.lo, t52.hi, t52.cost, t51⟩ : Wy) (fun w => Try.sizeOf3 w) rfl rfl rfl rfl h17 rfl rfl rfl h28 rfl rfl (Option.some.inj hn00_1) (fun h29 => ?_)
       refine jS (S' := [_]) (vs' := [_]) [0] [0] 0 rfl rfl rfl rfl (K4 (jI (js ?_)))
       obtain rfl := sj hm
       exact jg () (h29) (sE rfl) (hsE [] [0] 0 rfl rfl rfl rfl)
      ·replace hm := ifN h25 hm
       refine jX (some 13) (.free 0 (.free 1 (.free 2 (.hoist 3 (.free 4 (.hoist 5 (.free 6 (.free 7 (.hoist 8 (.free 9 (.free 10 (.free 11 (.free 12 (.last 13 .done)))))))))))))) _ rfl (by decide +kernel) (fun w k hh => hh.draw k) (fun w hh => hh) ?_
       refine kg rfl rfl rfl (jk rfl rfl rfl rfl (fun _ _ => jJ rfl) (kO 0 Try.runUnderlying168 Try.sizeOf166 rfl rfl rfl rfl (jA rfl rfl rfl rfl (fun w hh => jY (Try.isAgg166 w) rfl (segCell (hh.seg 0 rfl) 0 rfl)) (kO 0 Try.runUnderlying178 Try.sizeOf3 rfl rfl rfl rfl (qq 0 Try.isAgg3 rfl rfl rfl rfl rfl ?_)))))
       obtain ⟨t60, h30, hm⟩ := bindO hm
       refine jk rfl rfl rfl rfl (fun w _ => qe h30 (Try.runUnderlying166 w) (Try.sizeOf170 w) rfl rfl (vlen RWay h17 rfl) (vne h17)) (kO 5 Try.runUnderlying170 Try.sizeOf3 rfl rfl rfl rfl (jA rfl rfl rfl rfl (fun w hh => jV RWay 5 h30 (Try.isAgg3 w) rfl (hh.vseg 0 rfl h17) rfl rfl) (kg rfl rfl rfl ?_)))
       obtain ⟨t64, h31, hm⟩ := bindO hm
       refine jk rfl rfl rfl rfl (fun _ _ => k9 h31 rfl rfl) ?_
       obtain ⟨t65, h32, hm⟩ := bindO hm
       refine jk rfl rfl rfl rfl (fun w _ => qe h32 (Try.runUnderlying166 w) (Try.sizeOf170 w) rfl rfl (vlen RWay h17 rfl) (vne h17)) (kO 5 Try.runUnderlying170 Try.sizeOf3 rfl rfl rfl rfl (Q8 rfl ?_))
       obtain ⟨n00_2, hn00_2, hm⟩ := bindO hm
       refine KU RWay 0 5 (⟨t65.fr, t65.dst, t65.lo, t65.hi, t65.cost, t64⟩ : Wy) (fun w => Try.sizeOf3 w) rfl rfl rfl rfl h17 rfl rfl rfl h32 rfl rfl (Option.some.inj hn00_2) (fun h33 => ?_)
       refine jS (S' := [_]) (vs' := [_]) [0] [0] 0 rfl rfl rfl rfl (K4 (jI (js ?_)))
       obtain rfl := sj hm
       exact jg () (h33) (sE rfl) (hsE [] [0] 0 rfl rfl rfl rfl)
     ·intro l_6 hj
      have h22 := hj
      replace hm := h21
      refine jb (jh ?_)
      obtain ⟨t67, h34, hm⟩ := bindO hm
      refine kt h34 rfl rfl rfl (jf rfl rfl (jv ?_))
      obtain rfl := sj hm
      refine jb ?_
      exact jy _ () rfl (h22) (sE rfl) (fun w hh => hh)
    ·replace hm := ifE h19 hm
     refine jM (ji (ji (jz ?_)))
     obtain rfl := sj hm
     have hbo := h18 _ rfl
     subst hbo
     exact jg () (h17) (.nil) (fun w hh => hh)
   ·intro l_4 hj
    have h16 := hj
    replace hm := h15
    obtain rfl := sj hm
    refine J0 rfl (fun w hh => .nil) (fun w hh => ⟨(), rfl, h16, hh.se [] [0] 2 rfl rfl rfl rfl⟩)
structure qS where
  a55_0 : (List Int)
  a66_0 : (List Change)
  a77 : Int
def kM (c0 : Change) (a1 : Int) (b2 : Int) (cost3 : Int) (room4 : Int) (a550 : (List Int)) (a660 : (List Change)) (a77 : Int) : Option qS :=
 (ix a550 a1).bind fun t14 =>
 (addc t14 cost3).bind fun t17 =>
 (ix a550 b2).bind fun t19 =>
 if t17 < t19 then
 ((ix a550 a1).bind fun t25 =>
 (addc t25 cost3).bind fun t28 =>
 (ix a550 b2).bind fun t31 =>
 (some (a550.set (Int.toNat b2) t28)).bind fun a55 =>
 (ix a660 b2).bind fun t32 =>
 (some (a660.set (Int.toNat b2) c0)).bind fun a66 =>
 some (⟨a55, a66, b2⟩ : qS)) else
 (some (⟨a550, a660, a77⟩ : qS))
theorem Yc (c0 : Change) (a1 : Int) (b2 : Int) (cost3 : Int) (room4 : Int) (a550 : (List Int)) (a660 : (List Change)) (a77 : Int) (pb : Nat) (pb_1 : Nat) (pb_2 : Nat) (w : World) (hw : HV w (keys [(pb, .cells (RI.enc a550).toArray 151 (0, 0)), (pb_1, .cells (RCh.enc a660).toArray 190 (0, 0)), (pb_2, .cells #[.int .i64 a77] 3 (0, 0))] []) [(pb, .cells (RI.enc a550).toArray 151 (0, 0)), (pb_1, .cells (RCh.enc a660).toArray 190 (0, 0)), (pb_2, .cells #[.int .i64 a77] 3 (0, 0))] [] [] w) (hl_a550 : a550.length = 12) (hl_a660 : a660.length = 12) {res : qS} (hm : kM c0 a1 b2 cost3 room4 a550 a660 a77 = some res) :
    Calls Try.prog 145 #[.agg #[.int .i64 c0.way, .bool c0.more], .int .i64 a1, .int .i64 b2, .int .i64 cost3, .int .i64 room4, ptr pb 0, ptr pb_1 0, ptr pb_2 0] w (fun en w' => ∃ l : Unit, en = .returned (.tuple #[]) ∧ (res.a55_0.length = 12 ∧ res.a66_0.length = 12) ∧ HV w (keys [(pb, .cells (RI.enc a550).toArray 151 (0, 0)), (pb_1, .cells (RCh.enc a660).toArray 190 (0, 0)), (pb_2, .cells #[.int .i64 a77] 3 (0, 0))] []) [(pb, .cells (RI.enc res.a55_0).toArray 151 (0, 0)), (pb_1, .cells (RCh.enc res.a66_0).toArray 190 (0, 0)), (pb_2, .cells #[.int .i64 res.a77] 3 (0, 0))] [] [] w') := by
  unfold kM at hm
  refine kb Try.func145 rfl Try.ntmps145 rfl (e := [(0, _), (1, _), (2, _), (3, _), (4, _), (5, _), (6, _), (7, _)]) rfl hw (jp ?_)
  refine jH rfl rfl (fun b h3 => ?_)
  refine jo (jj ?_)
  refine jX none (.free 0 (.free 1 (.hoist 2 (.free 3 (.free 4 (.free 5 (.free 6 (.hoist 7 (.free 8 .done))))))))) _ rfl (by decide +kernel) (fun w k hh => hh.draw k) (fun w hh => hh) ?_
  refine kg rfl rfl rfl ?_
  obtain ⟨t14, h4, hm⟩ := bindO hm
  refine jk rfl rfl rfl rfl (fun w _ => KS h4 hl_a550 (Try.runUnderlying151 w) (Try.sizeOf3 w) rfl rfl) (jA rfl rfl rfl rfl (fun w hh => jV RI 0 h4 (Try.isAgg3 w) rfl (hh.bsegA 1 rfl) rfl (Nat.add_zero _).symm) (kg rfl rfl rfl ?_))
  obtain ⟨t17, h5, hm⟩ := bindO hm
  refine jk rfl rfl rfl rfl (fun _ _ => Jg h5 rfl rfl) (kg rfl rfl rfl ?_)
  obtain ⟨t19, h6, hm⟩ := bindO hm
  refine jk rfl rfl rfl rfl (fun w _ => KS h6 hl_a550 (Try.runUnderlying151 w) (Try.sizeOf3 w) rfl rfl) (jA rfl rfl rfl rfl (fun w hh => jV RI 0 h6 (Try.isAgg3 w) rfl (hh.bsegA 1 rfl) rfl (Nat.add_zero _).symm) (jk rfl rfl rfl rfl (fun _ _ => Zz rfl rfl) (jI (jb ?_))))
  refine jq rfl (fun h7 => ?_) (fun h7 => ?_)
  ·replace hm := ifD h7 hm
   refine jX none (.free 0 (.free 1 (.free 2 (.free 3 (.free 5 (.hoist 7 (.free 8 (.one 4 (.free 6 (.free 9 (.one 10 (.free 11 (.one 12 (.one 13 .done)))))))))))))) (HV _ _ [(b, .cells #[.int .i64 c0.way, .bool c0.more] 178 (0, 0))] [] _) rfl (by decide +kernel) (fun w k hh => hh.draw k) (hsE [0] [] 0 rfl rfl rfl rfl) ?_
   refine kg rfl rfl rfl (kg rfl rfl rfl (kg rfl rfl rfl ?_))
   obtain ⟨t25, h8, hm⟩ := bindO hm
   refine jk rfl rfl rfl rfl (fun w _ => KS h8 hl_a550 (Try.runUnderlying151 w) (Try.sizeOf3 w) rfl rfl) (kg rfl rfl rfl (jA rfl rfl rfl rfl (fun w hh => kl (vs := [_, _]) (Try.isAgg178 w) (Try.sizeOf178 w) rfl (hh.cells 0 rfl rfl)) (kg rfl rfl rfl (jK rfl (jc rfl rfl rfl (fun w hh => jV RI 0 h8 (Try.isAgg3 w) rfl (hh.bsegA 1 rfl) rfl (Nat.add_zero _).symm) (ju (hsE [0] [] 0 rfl rfl rfl rfl) ?_))))))
   obtain ⟨t28, h9, hm⟩ := bindO hm
   refine jk rfl rfl rfl rfl (fun _ _ => Jg h9 rfl rfl) ?_
   obtain ⟨t31, h10, hm⟩ := bindO hm
   refine jk rfl rfl rfl rfl (fun w _ => KS h10 hl_a550 (Try.runUnderlying151 w) (Try.sizeOf3 w) rfl rfl) (jK rfl ?_)
   obtain ⟨a55, ha55, hm⟩ := bindO hm
   refine jaZ RI 1 0 t28 (S' := [_, _, _, _]) (fun w => Try.sizeOf3 w) rfl rfl rfl rfl hl_a550 (Nat.add_zero _).symm rfl h10 rfl rfl (Option.some.inj ha55) rfl (fun h11 => ?_)
   refine ju (hsE [0] [] 0 rfl rfl rfl rfl) ?_
   obtain ⟨t32, h12, hm⟩ := bindO hm
   refine jk rfl rfl rfl rfl (fun w _ => KS h12 hl_a660 (Try.runUnderlying190 w) (Try.sizeOf178 w) rfl rfl) (jK rfl ?_)
   obtain ⟨a66, ha66, hm⟩ := bindO hm
   refine jaF (us := #[_, _]) RCh 2 c0 (S' := [_, _, _, _]) (fun w => Try.sizeOf178 w) rfl rfl rfl hl_a660 rfl rfl h12 rfl (Option.some.inj ha66) rfl (fun h13 => ?_)
   refine ju (hsE [0] [] 0 rfl rfl rfl rfl) (jK rfl (yV (cs' := #[_]) (S' := [_, _, _, _]) 3 (fun w => Try.sizeOf3 w) rfl rfl rfl rfl rfl rfl rfl (ju (hsE [0] [] 0 rfl rfl rfl rfl) (jI ?_))))
   obtain rfl := sj hm
   refine J0 rfl (fun w hh => .nil) (fun w hh => ⟨(), rfl, ⟨h11, h13⟩, hh.se [1, 2, 3] [] 0 rfl rfl rfl rfl⟩)
  ·replace hm := ifE h7 hm
   refine jr ?_
   obtain rfl := sj hm
   refine J0 rfl (fun w hh => .nil) (fun w hh => ⟨(), rfl, ⟨hl_a550, hl_a660⟩, hh.se [1, 2, 3] [] 0 rfl rfl rfl rfl⟩)
structure Jd where
  f1_c0_0 : (List Int)
  f1_c1_0 : (List Change)
  f1_c2 : Int
structure Ko where
  f1_c0_0 : (List Int)
  f1_c1_0 : (List Change)
  f1_c2 : Int
structure k5 where
  t17 : Int
  f1_c0_0 : (List Int)
  f1_c1_0 : (List Change)
  f1_c2 : Int
structure Km where
  f1_c0_0 : (List Int)
  f1_c1_0 : (List Change)
  f1_c2 : Int
structure yd where
  t22 : Int
  f1_c0_0 : (List Int)
  f1_c1_0 : (List Change)
  f1_c2 : Int
structure qa where
  f1_c0_0 : (List Int)
  f1_c1_0 : (List Change)
  f1_c2 : Int
def j7 (n00 : (List Wy)) (s : k5) (s_1 : yd) : Option (yd ⊕ Km) :=
 if s_1.t22 < ([true, false].length : Int) then
 (((ix [true, false] s_1.t22).bind fun t24 =>
 (qy n00 (⟨s.t17, t24⟩ : Change)).bind fun t32 =>
 if 0 < t32.r3 then
 ((kM (⟨s.t17, t24⟩ : Change) t32.r0 t32.r1 t32.r2 t32.r3 s_1.f1_c0_0 s_1.f1_c1_0 s_1.f1_c2).bind fun t45 =>
 some (⟨t45.a55_0, t45.a66_0, t45.a77⟩ : qa)) else
 (some (⟨s_1.f1_c0_0, s_1.f1_c1_0, s_1.f1_c2⟩ : qa))).bind fun o_2 =>
 (addc s_1.t22 1).bind fun t46 =>
 some (.inl (⟨t46, o_2.f1_c0_0, o_2.f1_c1_0, o_2.f1_c2⟩ : yd))) else
 (some (.inr (⟨s_1.f1_c0_0, s_1.f1_c1_0, s_1.f1_c2⟩ : Km)))
def kZ (n00 : (List Wy)) (s : k5) : Option (k5 ⊕ Ko) :=
 if s.t17 < (n00.length : Int) then
 ((iterM FU (j7 n00 s) (⟨0, s.f1_c0_0, s.f1_c1_0, s.f1_c2⟩ : yd)).bind fun o_1 =>
 (addc s.t17 1).bind fun t47 =>
 some (.inl (⟨t47, o_1.f1_c0_0, o_1.f1_c1_0, o_1.f1_c2⟩ : k5))) else
 (some (.inr (⟨s.f1_c0_0, s.f1_c1_0, s.f1_c2⟩ : Ko)))
def yw (n00 : (List Wy)) (f1_c00 : (List Int)) (f1_c10 : (List Change)) (f1_c2 : Int) : Option Jd :=
 (iterM FU (kZ n00) (⟨0, f1_c00, f1_c10, f1_c2⟩ : k5)).bind fun o =>
 some (⟨o.f1_c0_0, o.f1_c1_0, o.f1_c2⟩ : Jd)
theorem YG (n00 : (List Wy)) (f1_c00 : (List Int)) (f1_c10 : (List Change)) (f1_c2 : Int) (rb : Nat) (qa1 : Option Addr) (na1 ca1 : Nat) (pb : Nat) (pb_1 : Nat) (pb_2 : Nat) (w : World) (hw : HV w (keys [(pb, .cells (RI.enc f1_c00).toArray 151 (0, 0)), (pb_1, .cells (RCh.enc f1_c10).toArray 190 (0, 0)), (pb_2, .cells #[.int .i64 f1_c2] 3 (0, 0))] []) [(pb, .cells (RI.enc f1_c00).toArray 151 (0, 0)), (pb_1, .cells (RCh.enc f1_c10).toArray 190 (0, 0)), (pb_2, .cells #[.int .i64 f1_c2] 3 (0, 0))] [] [(rb, 0, [.slice qa1 na1 ca1]), (aB qa1, aO qa1, RWay.enc n00)] w)  (hna1 : n00.length = na1) (hqa1 : AOK na1 qa1) (hla1 : na1 ≤ ca1) (hl_f1_c00 : f1_c00.length = 12) (hl_f1_c10 : f1_c10.length = 12) {res : Jd} (hm : yw n00 f1_c00 f1_c10 f1_c2 = some res) :
    Calls Try.prog 132 #[ptr rb 0, .func (.func 145) #[] #[ptr pb 0, ptr pb_1 0, ptr pb_2 0]] w (fun en w' => ∃ l : Unit, en = .returned (.tuple #[]) ∧ (res.f1_c0_0.length = 12 ∧ res.f1_c1_0.length = 12) ∧ HV w (keys [(pb, .cells (RI.enc f1_c00).toArray 151 (0, 0)), (pb_1, .cells (RCh.enc f1_c10).toArray 190 (0, 0)), (pb_2, .cells #[.int .i64 f1_c2] 3 (0, 0))] []) [(pb, .cells (RI.enc res.f1_c0_0).toArray 151 (0, 0)), (pb_1, .cells (RCh.enc res.f1_c1_0).toArray 190 (0, 0)), (pb_2, .cells #[.int .i64 res.f1_c2] 3 (0, 0))] [] [] w') := by
  unfold yw at hm
  refine kb Try.func132 rfl Try.ntmps132 rfl (e := [(0, _), (1, _)]) rfl hw (jp (jf rfl rfl (jc rfl rfl rfl (fun _ _ => jJ rfl) (jL 0 Try.runUnderlying168 rfl Try.sizeOf166 rfl rfl (jc rfl rfl rfl (fun w hh => jY (Try.isAgg166 w) rfl (segCell (hh.seg 0 rfl) 0 rfl)) (jc rfl rfl rfl (fun w _ => jB hna1 (Try.runUnderlying166 w) rfl) (jf rfl rfl ?_)))))))
  refine jo ?_
  obtain ⟨o, h3, h4⟩ := bindO hm
  refine jC (ι := Unit) (fun l => o.f1_c0_0.length = 12 ∧ o.f1_c1_0.length = 12) (fun l => []) (fun l => [(pb, .cells (RI.enc o.f1_c0_0).toArray 151 (0, 0)), (pb_1, .cells (RCh.enc o.f1_c1_0).toArray 190 (0, 0)), (pb_2, .cells #[.int .i64 o.f1_c2] 3 (0, 0))]) (fun l => []) ?_ ?_
  ·replace hm := h3
   refine jl ?_
   refine jF (ι := Unit) hm (fun s l_1 => s.f1_c0_0.length = 12 ∧ s.f1_c1_0.length = 12) (fun s l_1 => [(0, ptr rb 0), (1, .func (.func 145) #[] #[ptr pb 0, ptr pb_1 0, ptr pb_2 0]), (16, .int .i64 (n00.length : Int)), (17, .int .i64 s.t17)]) (fun s l_1 => [(pb, .cells (RI.enc s.f1_c0_0).toArray 151 (0, 0)), (pb_1, .cells (RCh.enc s.f1_c1_0).toArray 190 (0, 0)), (pb_2, .cells #[.int .i64 s.f1_c2] 3 (0, 0))]) (fun s l_1 => []) () (⟨hl_f1_c00, hl_f1_c10⟩) (sE rfl) (fun w hh => hh) (fun s l_1 r hpl hm h9 => ?_)
   obtain ⟨h7, h8⟩ := hpl
   unfold kZ at hm
   refine jp (qv rfl rfl rfl (jo (jj ?_)))
   refine jq rfl (fun h10 => ?_) (fun h10 => ?_)
   ·replace hm := ifD h10 hm
    refine jr (jb (jj (jl (jp (jf rfl rfl (jm rfl rfl (j1 ?_)))))))
    refine kW RB [true, false] (ps := [(0, _), (1, _)]) (cells := [_, _]) (fun w => Try.runUnderlying136 w) (fun w => Try.sizeOf4 w) (fun w => Try.zeroValue4 w) rfl rfl rfl rfl rfl rfl rfl rfl (fun L h11 => ?_)
    refine jc rfl rfl rfl (fun w _ => JI (vlen RB h11 rfl) (Try.runUnderlying136 w) rfl) (jf rfl rfl (jo ?_))
    obtain ⟨o_1, h12, h13⟩ := bindO hm
    refine jC (ι := Unit) (fun l_2 => o_1.f1_c0_0.length = 12 ∧ o_1.f1_c1_0.length = 12) (fun l_2 => [(0, ptr rb 0), (1, .func (.func 145) #[] #[ptr pb 0, ptr pb_1 0, ptr pb_2 0]), (16, .int .i64 (n00.length : Int)), (17, .int .i64 s.t17)]) (fun l_2 => [(pb, .cells (RI.enc o_1.f1_c0_0).toArray 151 (0, 0)), (pb_1, .cells (RCh.enc o_1.f1_c1_0).toArray 190 (0, 0)), (pb_2, .cells #[.int .i64 o_1.f1_c2] 3 (0, 0))]) (fun l_2 => []) ?_ ?_
    ·replace hm := h12
     refine jl ?_
     refine jF (ι := Unit) hm (fun s_1 l_3 => s_1.f1_c0_0.length = 12 ∧ s_1.f1_c1_0.length = 12) (fun s_1 l_3 => [(0, ptr rb 0), (1, .func (.func 145) #[] #[ptr pb 0, ptr pb_1 0, ptr pb_2 0]), (4, .int .i64 s.t17), (16, .int .i64 (n00.length : Int)), (17, .int .i64 s.t17), (20, slv L.q L.n L.cap), (21, .int .i64 ([true, false].length : Int)), (22, .int .i64 s_1.t22)]) (fun s_1 l_3 => [(pb, .cells (RI.enc s_1.f1_c0_0).toArray 151 (0, 0)), (pb_1, .cells (RCh.enc s_1.f1_c1_0).toArray 190 (0, 0)), (pb_2, .cells #[.int .i64 s_1.f1_c2] 3 (0, 0))]) (fun s_1 l_3 => [⟨4, RB.enc [true, false], L.sp, L.q, []⟩]) () (⟨h7, h8⟩) (sE rfl) (fun w hh => hh) (fun s_1 l_3 r_1 hpl hm h18 => ?_)
     obtain ⟨h16, h17⟩ := hpl
     unfold j7 at hm
     refine jp (qv rfl rfl rfl (jo (jj ?_)))
     refine jq rfl (fun h19 => ?_) (fun h19 => ?_)
     ·replace hm := ifD h19 hm
      refine jr (jb (jj ?_))
      obtain ⟨o_2, h20, h21⟩ := bindO hm
      refine jC (ι := Unit) (fun l_4 => o_2.f1_c0_0.length = 12 ∧ o_2.f1_c1_0.length = 12) (fun l_4 => [(0, ptr rb 0), (1, .func (.func 145) #[] #[ptr pb 0, ptr pb_1 0, ptr pb_2 0]), (4, .int .i64 s.t17), (16, .int .i64 (n00.length : Int)), (17, .int .i64 s.t17), (20, slv L.q L.n L.cap), (21, .int .i64 ([true, false].length : Int)), (22, .int .i64 s_1.t22)]) (fun l_4 => [(pb, .cells (RI.enc o_2.f1_c0_0).toArray 151 (0, 0)), (pb_1, .cells (RCh.enc o_2.f1_c1_0).toArray 190 (0, 0)), (pb_2, .cells #[.int .i64 o_2.f1_c2] 3 (0, 0))]) (fun l_4 => [⟨4, RB.enc [true, false], L.sp, L.q, []⟩]) ?_ ?_
      ·replace hm := h20
       refine jl (jp ?_)
       obtain ⟨t24, h24, hm⟩ := bindO hm
       refine jc rfl rfl rfl (fun w _ => qe h24 (Try.runUnderlying136 w) (Try.sizeOf4 w) rfl rfl (vlen RB h11 rfl) (vne h11)) (jc rfl rfl rfl (fun w hh => jV RB 0 h24 (Try.isAgg4 w) rfl (hh.vseg 0 rfl h11) rfl (Nat.add_zero _).symm) (jm rfl rfl (j1 (jf rfl rfl (jf rfl rfl (jc rfl rfl rfl (fun _ _ => jG (vs := [(0, _), (1, _)]) (cells := [_, _]) rfl rfl) ?_))))))
       refine jt (fun w => Try.zeroValue178 w) rfl (fun b h25 => ?_)
       refine jE (us := #[_, _]) (cs' := [_, _]) (S' := [_, _, _, _]) 0 (fun w => Try.sizeOf178 w) rfl rfl rfl rfl rfl rfl rfl (j1 (jf rfl rfl (kG [_, _] 0 Try.isAgg178 Try.sizeOf178 rfl rfl rfl rfl ?_)))
       obtain ⟨t32, h26, hm⟩ := bindO hm
       refine jd [] [] rfl rfl rfl rfl rfl rfl rfl Try.call144 (fun w hh => Kn n00 (⟨s.t17, t24⟩ : Change) rb qa1 na1 ca1 w (HV.callee (S0 := []) (vs0 := []) hh (roR hh 0 rfl (roR hh 1 rfl roN))) hna1 hqa1 hla1 h26) (fun l_5 h27 => ?_)
       refine jf rfl rfl (kj rfl rfl rfl (kj rfl rfl rfl (kj rfl rfl rfl (kj rfl rfl rfl (jm rfl rfl (jm rfl rfl (jm rfl rfl ?_)))))))
       refine jm rfl rfl (j1 (jf rfl rfl (jc rfl rfl rfl (fun _ _ => Qq rfl rfl) (jo ?_))))
       refine jq rfl (fun h28 => ?_) (fun h28 => ?_)
       ·replace hm := ifD h28 hm
        refine jh (jf rfl rfl (kG [_, _] 0 Try.isAgg178 Try.sizeOf178 rfl rfl rfl rfl (jf rfl rfl (jf rfl rfl (jf rfl rfl (jf rfl rfl ?_))))))
        obtain ⟨t45, h29, hm⟩ := bindO hm
        refine jS (S' := [_, _, _, _]) (vs' := [_]) [1, 2, 3, 0] [0] 0 rfl rfl rfl rfl ?_
        refine jd [_, _, _] [] rfl rfl rfl rfl rfl rfl rfl Try.call145 (fun w hh => Yc (⟨s.t17, t24⟩ : Change) t32.r0 t32.r1 t32.r2 t32.r3 s_1.f1_c0_0 s_1.f1_c1_0 s_1.f1_c2 pb pb_1 pb_2 w (HV.callee (S0 := [_, _, _]) (vs0 := []) hh roN) h16 h17 h29) (fun l_6 h30 => ?_)
        obtain ⟨h31, h32⟩ := h30
        refine jS (S' := [_, _, _, _]) (vs' := [_]) [0, 1, 2, 3] [0] 0 rfl rfl rfl rfl (jv (js ?_))
        obtain rfl := sj hm
        exact jg () (⟨h31, h32⟩) (sE rfl) (hsE [0, 1, 2] [0] 0 rfl rfl rfl rfl)
       ·replace hm := ifE h28 hm
        refine jr (js ?_)
        obtain rfl := sj hm
        exact jg () (⟨h16, h17⟩) (sE rfl) (hsE [1, 2, 3] [0] 0 rfl rfl rfl rfl)
      ·intro l_4 hj
       obtain ⟨h22, h23⟩ := hj
       replace hm := h21
       refine jb (jh ?_)
       obtain ⟨t46, h33, hm⟩ := bindO hm
       refine kt h33 rfl rfl rfl (jf rfl rfl (jv ?_))
       obtain rfl := sj hm
       refine jb ?_
       exact jy _ () rfl (⟨h22, h23⟩) (sE rfl) (fun w hh => hh)
     ·replace hm := ifE h19 hm
      refine jM (ji (ji (jz ?_)))
      obtain rfl := sj hm
      have hbo := h18 _ rfl
      subst hbo
      exact jg () (⟨h16, h17⟩) (sE rfl) (hsE [0, 1, 2] [] 0 rfl rfl rfl rfl)
    ·intro l_2 hj
     obtain ⟨h14, h15⟩ := hj
     replace hm := h13
     refine js (jb (jh ?_))
     obtain ⟨t47, h34, hm⟩ := bindO hm
     refine kt h34 rfl rfl rfl (jf rfl rfl (jv ?_))
     obtain rfl := sj hm
     refine jb ?_
     exact jy _ () rfl (⟨h14, h15⟩) (sE rfl) (fun w hh => hh)
   ·replace hm := ifE h10 hm
    refine jM (ji (ji (jz ?_)))
    obtain rfl := sj hm
    have hbo := h9 _ rfl
    subst hbo
    exact jg () (⟨h7, h8⟩) (.nil) (fun w hh => hh)
  ·intro l hj
   obtain ⟨h5, h6⟩ := hj
   replace hm := h4
   obtain rfl := sj hm
   refine J0 rfl (fun w hh => .nil) (fun w hh => ⟨(), rfl, ⟨h5, h6⟩, hh.se [0, 1, 2] [] 2 rfl rfl rfl rfl⟩)
structure yY where
  last5 : Int
  by4 : (List Change)
  far3 : (List Int)
structure yW where
  t9 : Int
  last5 : Int
  by4 : (List Change)
  far3 : (List Int)
def k4 (n00 : (List Wy)) (s : yW) : Option (yW ⊕ yY) :=
 if s.t9 < 13 then
 ((yw n00 s.far3 s.by4 (-1)).bind fun t13 =>
 (addc s.t9 1).bind fun t14 =>
 some (.inl (⟨t14, t13.f1_c2, t13.f1_c1_0, t13.f1_c0_0⟩ : yW))) else
 (some (.inr (⟨s.last5, s.by4, s.far3⟩ : yY)))
structure y8 where
  at6 : Int
  t18 : Int
def qc (o : yY) (n00 : (List Wy)) (s_1 : y8) : Option (y8 ⊕ Int) :=
 if s_1.t18 < 12 then
 ((ix o.by4 s_1.at6).bind fun t23 =>
 (qy n00 t23).bind fun t25 =>
 (addc s_1.t18 1).bind fun t30 =>
 some (.inl (⟨t25.r0, t30⟩ : y8))) else
 (some (.inr s_1.at6))
structure za where
  at6 : Int
  out7 : (List Change)
def qg (o : yY) (n00 : (List Wy)) (o_1 : Int) (s_2 : za) : Option (za ⊕ (Unit ⊕ (List Change))) :=
 (ix o.by4 s_2.at6).bind fun t34 =>
 (appc 16 s_2.out7 [t34]).bind fun t37 =>
 (ix o.by4 s_2.at6).bind fun t41 =>
 (qy n00 t41).bind fun t43 =>
 if t43.r0 = o_1 then
 (some (.inr (.inr t37))) else
 (some (.inl (⟨t43.r0, t37⟩ : za)))
def yH (n00 : (List Wy)) : Option (List Change) :=
 (iterM FU (k4 n00) (⟨0, -1, (List.replicate 12 (⟨0, false⟩ : Change) : (List Change)), (List.replicate 12 0 : (List Int))⟩ : yW)).bind fun o =>
 if o.last5 < 0 then
 (some []) else
 ((iterM FU (qc o n00) (⟨o.last5, 0⟩ : y8)).bind fun o_1 =>
 (iterM FU (qg o n00 o_1) (⟨o_1, []⟩ : za)).bind fun o_2 =>
 oc o_2 (fun j => none) (fun r_3 => some r_3))
theorem Ze (n00 : (List Wy)) (rb : Nat) (qa1 : Option Addr) (na1 ca1 : Nat) (w : World) (hw : HV w (keys [] []) [] [] [(rb, 0, [.slice qa1 na1 ca1]), (aB qa1, aO qa1, RWay.enc n00)] w)  (hna1 : n00.length = na1) (hqa1 : AOK na1 qa1) (hla1 : na1 ≤ ca1) {res : (List Change)} (hm : yH n00 = some res) :
    Calls Try.prog 120 #[ptr rb 0] w (fun en w' => ∃ l : VL, en = .returned (slv l.q l.n l.cap) ∧ (VOK 2 l.n l.cap (RCh.enc res) l.sp l.q ∧ (l.q = none ↔ res = [])) ∧ HV w (keys [] []) [] [⟨178, RCh.enc res, l.sp, l.q, []⟩] [] w') := by
  unfold yH at hm
  refine kb Try.func120 rfl Try.ntmps120 rfl (e := [(0, _)]) rfl hw (jp (jc rfl rfl rfl (fun _ _ => qj rfl) (j1 ?_)))
  refine KA RI (l := (List.replicate 12 0 : (List Int))) (k := 12) (fun w => Try.zeroValue151 w) rfl rfl rfl (fun b h3 h4 => ?_)
  refine j1 ?_
  refine KA RCh (l := (List.replicate 12 (⟨0, false⟩ : Change) : (List Change))) (k := 12) (fun w => Try.zeroValue190 w) rfl rfl rfl (fun b_1 h5 h6 => ?_)
  refine j1 ?_
  refine jt (fun w => Try.zeroValue3 w) rfl (fun b_2 h7 => ?_)
  refine yV (cs' := #[_]) (S' := [_, _, _]) 0 (fun w => Try.sizeOf3 w) rfl rfl rfl rfl rfl rfl rfl (jo (jj (jp (jf rfl rfl (jo ?_)))))
  obtain ⟨o, h8, h9⟩ := bindO hm
  refine jC (ι := Unit) (fun l => o.by4.length = 12 ∧ o.far3.length = 12) (fun l => [(0, ptr rb 0), (4, ptr b_1 0), (5, ptr b_2 0)]) (fun l => [(b_2, .cells #[.int .i64 o.last5] 3 (0, 0)), (b_1, .cells (RCh.enc o.by4).toArray 190 (0, 0)), (b, .cells (RI.enc o.far3).toArray 151 (0, 0))]) (fun l => []) ?_ ?_
  ·replace hm := h8
   refine jl ?_
   refine jF (ι := Unit) hm (fun s l_1 => s.by4.length = 12 ∧ s.far3.length = 12) (fun s l_1 => [(0, ptr rb 0), (3, ptr b 0), (4, ptr b_1 0), (5, ptr b_2 0), (9, .int .i64 s.t9)]) (fun s l_1 => [(b_2, .cells #[.int .i64 s.last5] 3 (0, 0)), (b_1, .cells (RCh.enc s.by4).toArray 190 (0, 0)), (b, .cells (RI.enc s.far3).toArray 151 (0, 0))]) (fun s l_1 => []) () (⟨h6, h4⟩) (sE rfl) (fun w hh => hh) (fun s l_1 r hpl hm h14 => ?_)
   obtain ⟨h12, h13⟩ := hpl
   unfold k4 at hm
   refine jp (qv rfl rfl rfl (jo (jj ?_)))
   refine jq rfl (fun h15 => ?_) (fun h15 => ?_)
   ·replace hm := ifD h15 hm
    refine jr (jb (jj (jl (jp (yV (cs' := #[_]) (S' := [_, _, _]) 0 (fun w => Try.sizeOf3 w) rfl rfl rfl rfl rfl rfl rfl (jo (jh ?_)))))))
    refine jf rfl rfl (jc rfl rfl rfl (fun _ _ => jQ (u := #[]) (u' := #[_, _, _]) rfl rfl) ?_)
    obtain ⟨t13, h16, hm⟩ := bindO hm
    refine jS (S' := [_, _, _]) (vs' := []) [2, 1, 0] [] 0 rfl rfl rfl rfl ?_
    refine jd [_, _, _] [] rfl rfl rfl rfl rfl rfl rfl Try.call132 (fun w hh => YG n00 s.far3 s.by4 (-1) rb qa1 na1 ca1 b b_1 b_2 w (HV.callee (S0 := [_, _, _]) (vs0 := []) hh (roR hh 0 rfl (roR hh 1 rfl roN))) hna1 hqa1 hla1 h13 h12 h16) (fun l_2 h17 => ?_)
    obtain ⟨h18, h19⟩ := h17
    refine jS (S' := [_, _, _]) (vs' := []) [0, 1, 2] [] 0 rfl rfl rfl rfl (jv (js (jb (jh ?_))))
    obtain ⟨t14, h20, hm⟩ := bindO hm
    refine kt h20 rfl rfl rfl (jf rfl rfl (jv ?_))
    obtain rfl := sj hm
    refine jb ?_
    exact jy _ () rfl (⟨h19, h18⟩) (sE rfl) (hsE [2, 1, 0] [] 0 rfl rfl rfl rfl)
   ·replace hm := ifE h15 hm
    refine jM (ji (ji (jz ?_)))
    obtain rfl := sj hm
    have hbo := h14 _ rfl
    subst hbo
    exact jg () (⟨h12, h13⟩) (sE rfl) (fun w hh => hh)
  ·intro l hj
   obtain ⟨h10, h11⟩ := hj
   replace hm := h9
   refine jb (jj (jp (jU 0 Try.isAgg3 rfl rfl rfl rfl (qv rfl rfl rfl (jo ?_)))))
   refine jq rfl (fun h21 => ?_) (fun h21 => ?_)
   ·replace hm := ifD h21 hm
    refine jp (jc rfl rfl rfl (fun _ _ => qj rfl) (jo (jw (je (kr 178 ?_)))))
    obtain rfl := sj hm
    refine jn rfl (fun w hh => (.tmp rfl .nil)) (fun w hh => ⟨⟨none, 0, 0, []⟩, rfl, ⟨VOK.nil, nieN⟩, hh.se [] [0] 2 rfl rfl rfl rfl⟩)
   ·replace hm := ifE h21 hm
    refine jr (jb (jp (jU 0 Try.isAgg3 rfl rfl rfl rfl (jm rfl rfl (jo (jj (jp ?_)))))))
    refine jf rfl rfl (jo ?_)
    obtain ⟨o_1, h22, h23⟩ := bindO hm
    refine jC (ι := Unit) (fun l_3 => True) (fun l_3 => [(0, ptr rb 0), (4, ptr b_1 0), (6, .int .i64 o_1)]) (fun l_3 => [(b_2, .cells #[.int .i64 o.last5] 3 (0, 0)), (b_1, .cells (RCh.enc o.by4).toArray 190 (0, 0)), (b, .cells (RI.enc o.far3).toArray 151 (0, 0))]) (fun l_3 => []) ?_ ?_
    ·replace hm := h22
     refine jl ?_
     refine jF (ι := Unit) hm (fun s_1 l_4 => True) (fun s_1 l_4 => [(0, ptr rb 0), (4, ptr b_1 0), (6, .int .i64 s_1.at6), (18, .int .i64 s_1.t18)]) (fun s_1 l_4 => [(b_2, .cells #[.int .i64 o.last5] 3 (0, 0)), (b_1, .cells (RCh.enc o.by4).toArray 190 (0, 0)), (b, .cells (RI.enc o.far3).toArray 151 (0, 0))]) (fun s_1 l_4 => []) () (trivial) (sE rfl) (fun w hh => hh) (fun s_1 l_4 r_1 hpl hm h24 => ?_)
     unfold qc at hm
     refine jp (qv rfl rfl rfl (jo (jj ?_)))
     refine jq rfl (fun h25 => ?_) (fun h25 => ?_)
     ·replace hm := ifD h25 hm
      refine jr (jb (jj (jl (jh (jf rfl rfl (jf rfl rfl ?_))))))
      obtain ⟨t23, h26, hm⟩ := bindO hm
      refine jc rfl rfl rfl (fun w _ => KS h26 h10 (Try.runUnderlying190 w) (Try.sizeOf178 w) rfl rfl) ?_
      refine jc rfl rfl rfl (fun w hh => kk RCh 0 [.int .i64 t23.way, .bool t23.more] h26 (Try.isAgg178 w) (Try.sizeOf178 w) rfl (hh.bsegA 1 rfl) rfl (Nat.add_zero _).symm) ?_
      obtain ⟨t25, h27, hm⟩ := bindO hm
      refine jd [] [] rfl rfl rfl rfl rfl rfl rfl Try.call144 (fun w hh => Kn n00 t23 rb qa1 na1 ca1 w (HV.callee (S0 := []) (vs0 := []) hh (roR hh 0 rfl (roR hh 1 rfl roN))) hna1 hqa1 hla1 h27) (fun l_5 h28 => ?_)
      refine jf rfl rfl (kj rfl rfl rfl (kj rfl rfl rfl (kj rfl rfl rfl (kj rfl rfl rfl (jm rfl rfl (jv (js ?_)))))))
      refine jb (jh ?_)
      obtain ⟨t30, h29, hm⟩ := bindO hm
      refine kt h29 rfl rfl rfl (jf rfl rfl (jv ?_))
      obtain rfl := sj hm
      refine jb ?_
      exact jy _ () rfl (trivial) (sE rfl) (fun w hh => hh)
     ·replace hm := ifE h25 hm
      refine jM (ji (ji (jz ?_)))
      obtain rfl := sj hm
      have hbo := h24 _ rfl
      subst hbo
      exact jg () (trivial) (sE rfl) (fun w hh => hh)
    ·intro l_3 hj
     replace hm := h23
     refine jb (jp (jc rfl rfl rfl (fun _ _ => qj rfl) (j1 (jf rfl rfl (jm rfl rfl (jo (kr 178 ?_)))))))
     obtain ⟨o_2, h30, h31⟩ := bindO hm
     refine jC (ι := Unit) (fun j => False) (fun j => []) (fun j => [(b_2, .cells #[.int .i64 o.last5] 3 (0, 0)), (b_1, .cells (RCh.enc o.by4).toArray 190 (0, 0)), (b, .cells (RI.enc o.far3).toArray 151 (0, 0))]) (fun j => []) ?_ ?_
     ·replace hm := h30
      refine jl ?_
      refine jF (ι := VL) hm (fun s_2 l_6 => VOK 2 l_6.n l_6.cap (RCh.enc s_2.out7) l_6.sp l_6.q ∧ (l_6.q = none ↔ s_2.out7 = [])) (fun s_2 l_6 => [(0, ptr rb 0), (4, ptr b_1 0), (6, .int .i64 s_2.at6), (7, slv l_6.q l_6.n l_6.cap), (8, .int .i64 o_1)]) (fun s_2 l_6 => [(b_2, .cells #[.int .i64 o.last5] 3 (0, 0)), (b_1, .cells (RCh.enc o.by4).toArray 190 (0, 0)), (b, .cells (RI.enc o.far3).toArray 151 (0, 0))]) (fun s_2 l_6 => [⟨178, RCh.enc s_2.out7, l_6.sp, l_6.q, []⟩]) ⟨none, 0, 0, []⟩ (⟨VOK.nil, nieN⟩) (sE rfl) (fun w hh => hh) (fun s_2 l_6 r_2 hpl hm h34 => ?_)
      obtain ⟨h32, h33⟩ := hpl
      unfold qg at hm
      refine jl (jp (jf rfl rfl (jf rfl rfl ?_)))
      obtain ⟨t34, h35, hm⟩ := bindO hm
      refine jc rfl rfl rfl (fun w _ => KS h35 h10 (Try.runUnderlying190 w) (Try.sizeOf178 w) rfl rfl) ?_
      refine jc rfl rfl rfl (fun w hh => kk RCh 0 [.int .i64 t34.way, .bool t34.more] h35 (Try.isAgg178 w) (Try.sizeOf178 w) rfl (hh.bsegA 1 rfl) rfl (Nat.add_zero _).symm) ?_
      refine kW RCh [t34] (ps := [(0, _)]) (cells := [_, _]) (fun w => Try.runUnderlying171 w) (fun w => Try.sizeOf178 w) (fun w => Try.zeroValue178 w) rfl rfl rfl rfl rfl rfl rfl rfl (fun L h36 => ?_)
      obtain ⟨t37, h37, hm⟩ := bindO hm
      refine y4 RCh 1 h37 Try.underlying171 Y8 rfl rfl rfl rfl rfl h32 rfl rfl (vlen RCh h36 rfl) (AOK.q (vne h36)) (fun w hh => (hh.vsegA 0 rfl h36)) rfl (fun L_1 h38 h38n => ?_)
      refine jS (S' := [_, _, _]) (vs' := [_, _]) [0, 1, 2] [0, 1] 0 rfl rfl rfl rfl (jm rfl rfl (j1 (jf rfl rfl (jf rfl rfl ?_))))
      obtain ⟨t41, h39, hm⟩ := bindO hm
      refine jc rfl rfl rfl (fun w _ => KS h39 h10 (Try.runUnderlying190 w) (Try.sizeOf178 w) rfl rfl) ?_
      refine jc rfl rfl rfl (fun w hh => kk RCh 0 [.int .i64 t41.way, .bool t41.more] h39 (Try.isAgg178 w) (Try.sizeOf178 w) rfl (hh.bsegA 1 rfl) rfl (Nat.add_zero _).symm) ?_
      obtain ⟨t43, h40, hm⟩ := bindO hm
      refine jd [] [] rfl rfl rfl rfl rfl rfl rfl Try.call144 (fun w hh => Kn n00 t41 rb qa1 na1 ca1 w (HV.callee (S0 := []) (vs0 := []) hh (roR hh 0 rfl (roR hh 1 rfl roN))) hna1 hqa1 hla1 h40) (fun l_7 h41 => ?_)
      refine jf rfl rfl (kj rfl rfl rfl (kj rfl rfl rfl (kj rfl rfl rfl (kj rfl rfl rfl (jm rfl rfl (j1 (jf rfl rfl ?_)))))))
      refine jf rfl rfl (jc rfl rfl rfl (fun _ _ => zr rfl rfl) (jo ?_))
      refine jq rfl (fun h42 => ?_) (fun h42 => ?_)
      ·replace hm := ifD h42 hm
       refine jp (jf rfl rfl (jm rfl rfl (jo (jw (jx (je (jx ?_)))))))
       obtain rfl := sj hm
       have hbo := h34 _ rfl
       subst hbo
       refine je ?_
       replace hm := ocR h31
       obtain rfl := sj hm
       refine jn rfl (fun w hh => (.tmp rfl .nil)) (fun w hh => ⟨L_1, rfl, ⟨h38, (h38n h33)⟩, hh.se [] [1] 2 rfl rfl rfl rfl⟩)
      ·replace hm := ifE h42 hm
       refine jr (js ?_)
       obtain rfl := sj hm
       refine jb ?_
       exact jy _ L_1 rfl (⟨h38, (h38n h33)⟩) (sE rfl) (hsE [0, 1, 2] [1] 0 rfl rfl rfl rfl)
     ·exact fun _ hf => hf.elim
structure qF where
  r1 : Lack
  t12 : (List Wy)
structure kH where
  t20 : Int
  t12 : (List Wy)
def qz (s : kH) (d00 : (List Strip)) (d01 : (List Span)) (s_1 : (List Wy)) : Option ((List Wy) ⊕ ((List Wy) ⊕ (Lack ⊕ qF))) :=
 (ix s_1 s.t20).bind fun t28 =>
 (ix s_1 s.t20).bind fun t36 =>
 if t28.goes < t36.lo then
 ((ix s_1 s.t20).bind fun t45 =>
 (Kp s_1 t45.dst t45.fr).bind fun t53 =>
 if (t53.r0.isEmpty) = true then
 ((K7 d00 d01 t45 t53.r1).bind fun t61 =>
 some (.inr (.inr (.inl t61)))) else
 ((subc t45.lo t45.goes).bind fun t72 =>
 (appc 16 t53.r0 [(⟨s.t20, true⟩ : Change)]).bind fun t67 =>
 (zu s_1 t67 t72).bind fun t73 =>
 some (.inl t73))) else
 (some (.inr (.inl s_1)))
def qw (t14 : (List Wy)) (d00 : (List Strip)) (d01 : (List Span)) (s : kH) : Option (kH ⊕ ((List Wy) ⊕ (Lack ⊕ qF))) :=
 if s.t20 < (t14.length : Int) then
 ((iterM FU (qz s d00 d01) s.t12).bind fun o_1 =>
 oc o_1 (fun j_1 => (addc s.t20 1).bind fun t74 =>
 some (.inl (⟨t74, j_1⟩ : kH))) (fun r_2 => some (.inr (.inr r_2)))) else
 (some (.inr (.inl s.t12)))
def qC  (s_2 : (List Wy)) : Option ((List Wy) ⊕ (List Wy)) :=
 (yH s_2).bind fun t76 =>
 if (t76.isEmpty) = true then
 (some (.inr s_2)) else
 ((zu s_2 t76 1000000).bind fun t81 =>
 some (.inl t81))
def j0 (d00 : (List Strip)) (d01 : (List Span)) (d02 : (List (Pair × Bool))) (c1_0 : (Pair → Option Int)) : Option (Lack ⊕ qF) :=
 (JD d00 d01 d02 c1_0).bind fun t14 =>
 (iterM FU (qw t14 d00 d01) (⟨0, t14⟩ : kH)).bind fun o =>
 oc o (fun j => (iterM FU (qC) j).bind fun o_2 =>
 some (.inr (⟨(⟨false, []⟩ : Lack), o_2⟩ : qF))) (fun r_4 => some r_4)
theorem j4 (d00 : (List Strip)) (d01 : (List Span)) (d02 : (List (Pair × Bool))) (c1_0 : (Pair → Option Int)) (rb : Nat) (qa1 : Option Addr) (na1 ca1 : Nat) (qa2 : Option Addr) (na2 ca2 : Nat) (pb : Nat) (f_c1_0 : FuncId) (fs_c1_0 cs_c1_0 : Array Value) (T_c1_0 : List Sg) (w : World) (hw : HV w (keys [(pb, gobj (kR RPr) kB d02)] []) [(pb, gobj (kR RPr) kB d02)] [] ([(rb, 0, [.slice qa1 na1 ca1, .slice qa2 na2 ca2, .map (some pb)]), (aB qa1, aO qa1, RSt.enc d00), (aB qa2, aO qa2, RSp.enc d01)] ++ T_c1_0) w)  (hna1 : d00.length = na1) (hqa1 : AOK na1 qa1) (hla1 : na1 ≤ ca1) (hna2 : d01.length = na2) (hqa2 : AOK na2 qa2) (hla2 : na2 ≤ ca2) (hcl_c1_0 : ClOK Try.prog f_c1_0 fs_c1_0 cs_c1_0 T_c1_0 (fun x : Pair => [.agg #[.int .i64 x.tenant, .int .i64 x.strip]]) (fun x : Int => .int .i64 x) c1_0) {res : (Lack ⊕ qF)} (hm : j0 d00 d01 d02 c1_0 = some res) :
    Calls Try.prog 66 #[ptr rb 0, .agg #[.func (.func f_c1_0) fs_c1_0 cs_c1_0]] w (fun en w' => match res with | .inl res_ => (∃ l : VL, en = .returned (.tuple #[.pointer none, .agg #[.bool res_.tenants, slv l.q l.n l.cap]]) ∧ (VOK 1 l.n l.cap (RI.enc res_.of_) l.sp l.q) ∧ HV w (keys [(pb, gobj (kR RPr) kB d02)] []) [(pb, gobj (kR RPr) kB d02)] [⟨3, RI.enc res_.of_, l.sp, l.q, []⟩] [] w') | .inr res_ => (∃ l : Nat × VL × VL, en = .returned (.tuple #[ptr l.1 0, .agg #[.bool res_.r1.tenants, slv l.2.1.q l.2.1.n l.2.1.cap]]) ∧ (VOK 1 l.2.1.n l.2.1.cap (RI.enc res_.r1.of_) l.2.1.sp l.2.1.q ∧ VOK 6 l.2.2.n l.2.2.cap (RWay.enc res_.t12) l.2.2.sp l.2.2.q) ∧ HV w (keys [(pb, gobj (kR RPr) kB d02)] []) [(pb, gobj (kR RPr) kB d02), (l.1, .cells #[slv l.2.2.q l.2.2.n l.2.2.cap] 168 (0, 0))] [⟨3, RI.enc res_.r1.of_, l.2.1.sp, l.2.1.q, []⟩, ⟨170, RWay.enc res_.t12, l.2.2.sp, l.2.2.q, []⟩] [] w')) := by
  unfold j0 at hm
  refine kb Try.func66 rfl Try.ntmps66 rfl (e := [(0, _), (1, _)]) rfl hw (jp ?_)
  refine jH rfl rfl (fun b h4 => ?_)
  refine jm rfl rfl ?_
  refine jt (fun w => Try.zeroValue61 w) rfl (fun b_1 h5 => ?_)
  refine jo (ja2 (jp (jf rfl rfl (kG [_] 1 Try.isAgg123 Try.sizeOf123 rfl rfl rfl rfl ?_))))
  obtain ⟨t14, h6, hm⟩ := bindO hm
  refine jS (S' := [_, _, _]) (vs' := []) [2, 0, 1] [] 0 rfl rfl rfl rfl ?_
  refine jd [_] [] rfl rfl rfl rfl rfl rfl rfl Try.call116 (fun w hh => Zx d00 d01 d02 c1_0 rb qa1 na1 ca1 qa2 na2 ca2 pb f_c1_0 fs_c1_0 cs_c1_0 T_c1_0 w (HV.callee (S0 := [_]) (vs0 := []) hh (roA (roR hh 0 rfl (roR hh 1 rfl (roR hh 2 rfl roN))) (hh.rsepT (fun t ht => (List.mem_cons_of_mem _ (List.mem_cons_of_mem _ (List.mem_cons_of_mem _ ht))))))) hna1 hqa1 hla1 hna2 hqa2 hla2 hcl_c1_0 h6) (fun l h7 => ?_)
  have h8 := h7
  refine jS (S' := [_, _, _, _]) (vs' := [_]) [0, 1, 2, 3] [0] 0 rfl rfl rfl rfl (jm rfl rfl (jo (jj (jp (jf rfl rfl (jc rfl rfl rfl (fun _ _ => jJ rfl) (jL 0 Try.runUnderlying168 rfl Try.sizeOf166 rfl rfl ?_)))))))
  refine jU 1 Try.isAgg166 rfl rfl rfl rfl (jc rfl rfl rfl (fun w _ => JI (vlen RWay h8 rfl) (Try.runUnderlying166 w) rfl) (jf rfl rfl (jo ?_)))
  obtain ⟨o, h9, h10⟩ := bindO hm
  refine jC (ι := (List Wy)) (fun j => o = .inl j ∧ VOK 6 l.2.n l.2.cap (RWay.enc j) l.2.sp l.2.q) (fun j => [(5, ptr b_1 0), (6, ptr l.1 0)]) (fun j => [(pb, gobj (kR RPr) kB d02), (l.1, .cells #[slv l.2.q l.2.n l.2.cap] 168 (0, 0)), (b_1, .cells #[.bool false, slv none 0 0] 61 (0, 0)), (b, .cells #[.func (.func f_c1_0) fs_c1_0 cs_c1_0] 123 (0, 0))]) (fun j => [⟨170, RWay.enc j, l.2.sp, l.2.q, []⟩]) ?_ ?_
  ·replace hm := h9
   refine jl ?_
   refine jF (ι := Unit) hm (fun s l_1 => VOK 6 l.2.n l.2.cap (RWay.enc s.t12) l.2.sp l.2.q) (fun s l_1 => [(0, ptr rb 0), (5, ptr b_1 0), (6, ptr l.1 0), (19, .int .i64 (t14.length : Int)), (20, .int .i64 s.t20)]) (fun s l_1 => [(pb, gobj (kR RPr) kB d02), (l.1, .cells #[slv l.2.q l.2.n l.2.cap] 168 (0, 0)), (b_1, .cells #[.bool false, slv none 0 0] 61 (0, 0)), (b, .cells #[.func (.func f_c1_0) fs_c1_0 cs_c1_0] 123 (0, 0))]) (fun s l_1 => [⟨170, RWay.enc s.t12, l.2.sp, l.2.q, []⟩]) () (h8) (sE rfl) (fun w hh => hh) (fun s l_1 r hpl hm h13 => ?_)
   have h12 := hpl
   unfold qw at hm
   refine jp (qv rfl rfl rfl (jo (jj ?_)))
   refine jq rfl (fun h14 => ?_) (fun h14 => ?_)
   ·replace hm := ifD h14 hm
    refine jr (jb (jj (jl (jp (jf rfl rfl (jm rfl rfl (jo ?_)))))))
    obtain ⟨o_1, h15, h16⟩ := bindO hm
    refine jC (ι := (List Wy)) (fun j_1 => o_1 = .inl j_1 ∧ VOK 6 l.2.n l.2.cap (RWay.enc j_1) l.2.sp l.2.q) (fun j_1 => [(0, ptr rb 0), (5, ptr b_1 0), (6, ptr l.1 0), (19, .int .i64 (t14.length : Int)), (20, .int .i64 s.t20)]) (fun j_1 => [(pb, gobj (kR RPr) kB d02), (l.1, .cells #[slv l.2.q l.2.n l.2.cap] 168 (0, 0)), (b_1, .cells #[.bool false, slv none 0 0] 61 (0, 0)), (b, .cells #[.func (.func f_c1_0) fs_c1_0 cs_c1_0] 123 (0, 0))]) (fun j_1 => [⟨170, RWay.enc j_1, l.2.sp, l.2.q, []⟩]) ?_ ?_
    ·replace hm := h15
     refine jl ?_
     refine jF (ι := Unit) hm (fun s_1 l_2 => VOK 6 l.2.n l.2.cap (RWay.enc s_1) l.2.sp l.2.q) (fun s_1 l_2 => [(0, ptr rb 0), (5, ptr b_1 0), (6, ptr l.1 0), (7, .int .i64 s.t20), (19, .int .i64 (t14.length : Int)), (20, .int .i64 s.t20)]) (fun s_1 l_2 => [(pb, gobj (kR RPr) kB d02), (l.1, .cells #[slv l.2.q l.2.n l.2.cap] 168 (0, 0)), (b_1, .cells #[.bool false, slv none 0 0] 61 (0, 0)), (b, .cells #[.func (.func f_c1_0) fs_c1_0 cs_c1_0] 123 (0, 0))]) (fun s_1 l_2 => [⟨170, RWay.enc s_1, l.2.sp, l.2.q, []⟩]) () (h12) (sE rfl) (fun w hh => hh) (fun s_1 l_2 r_1 hpl hm h19 => ?_)
     have h18 := hpl
     unfold qz at hm
     refine jj (jj ?_)
     refine jX none (.free 0 (.free 1 (.free 2 (.hoist 3 (.free 4 (.free 5 (.free 6 (.hoist 7 (.free 8 (.free 9 (.free 10 (.hoist 11 (.free 12 (.free 13 (.free 14 (.hoist 15 (.free 16 .done))))))))))))))))) _ rfl (by decide +kernel) (fun w k hh => hh.draw k) (fun w hh => hh) ?_
     refine kg rfl rfl rfl (jk rfl rfl rfl rfl (fun _ _ => jJ rfl) (kO 0 Try.runUnderlying168 Try.sizeOf166 rfl rfl rfl rfl (qq 1 Try.isAgg166 rfl rfl rfl rfl rfl (kg rfl rfl rfl ?_))))
     obtain ⟨t28, h20, hm⟩ := bindO hm
     refine jk rfl rfl rfl rfl (fun w _ => qe h20 (Try.runUnderlying166 w) (Try.sizeOf170 w) rfl rfl (vlen RWay h18 rfl) (vne h18)) (kO 5 Try.runUnderlying170 Try.sizeOf3 rfl rfl rfl rfl (jA rfl rfl rfl rfl (fun w hh => jV RWay 5 h20 (Try.isAgg3 w) rfl (hh.vseg 0 rfl h18) rfl rfl) (kg rfl rfl rfl (jk rfl rfl rfl rfl (fun _ _ => jJ rfl) (kO 0 Try.runUnderlying168 Try.sizeOf166 rfl rfl rfl rfl (qq 1 Try.isAgg166 rfl rfl rfl rfl rfl (kg rfl rfl rfl ?_)))))))
     obtain ⟨t36, h21, hm⟩ := bindO hm
     refine jk rfl rfl rfl rfl (fun w _ => qe h21 (Try.runUnderlying166 w) (Try.sizeOf170 w) rfl rfl (vlen RWay h18 rfl) (vne h18)) (kO 2 Try.runUnderlying170 Try.sizeOf3 rfl rfl rfl rfl (jA rfl rfl rfl rfl (fun w hh => jV RWay 2 h21 (Try.isAgg3 w) rfl (hh.vseg 0 rfl h18) rfl rfl) (jk rfl rfl rfl rfl (fun _ _ => Zz rfl rfl) (jI (jb ?_)))))
     refine jq rfl (fun h22 => ?_) (fun h22 => ?_)
     ·replace hm := ifD h22 hm
      refine jr (jb (jl (jp (jf rfl rfl (jc rfl rfl rfl (fun _ _ => jJ rfl) (jL 0 Try.runUnderlying168 rfl Try.sizeOf166 rfl rfl (jU 1 Try.isAgg166 rfl rfl rfl rfl ?_)))))))
      refine jf rfl rfl ?_
      obtain ⟨t45, h23, hm⟩ := bindO hm
      refine jc rfl rfl rfl (fun w _ => qe h23 (Try.runUnderlying166 w) (Try.sizeOf170 w) rfl rfl (vlen RWay h18 rfl) (vne h18)) ?_
      refine jc rfl rfl rfl (fun w hh => kk RWay 0 [.int .i64 t45.fr, .int .i64 t45.dst, .int .i64 t45.lo, .int .i64 t45.hi, .int .i64 t45.cost, .int .i64 t45.goes] h23 (Try.isAgg170 w) (Try.sizeOf170 w) rfl (hh.vseg 0 rfl h18) rfl (Nat.add_zero _).symm) ?_
      refine jt (fun w => Try.zeroValue170 w) rfl (fun b_2 h24 => ?_)
      refine jE (us := #[_, _, _, _, _, _]) (cs' := [_, _, _, _, _, _]) (S' := [_, _, _, _, _]) 0 (fun w => Try.sizeOf170 w) rfl rfl rfl rfl rfl rfl rfl (j1 (jf rfl rfl (jL 1 Try.runUnderlying170 rfl Try.sizeOf3 rfl rfl (jU 0 Try.isAgg3 rfl rfl rfl rfl (jL 0 Try.runUnderlying170 rfl Try.sizeOf3 rfl rfl (jU 0 Try.isAgg3 rfl rfl rfl rfl ?_))))))
      obtain ⟨t53, h25, hm⟩ := bindO hm
      refine jd [] [] rfl rfl rfl rfl rfl rfl rfl Try.call117 (fun w hh => Z1 s_1 t45.dst t45.fr l.1 (qA l.2.q) l.2.n l.2.cap w (HV.callee (S0 := []) (vs0 := []) hh (roC (bsep (hh.bseg 2 rfl)) (roC (hh.vsepA 0 rfl h18) roN))) (vlen RWay h18 rfl) (AOK.q (vne h18)) (h18).hle h25) (fun l_3 h26 => ?_)
      obtain ⟨h27, h28, h29⟩ := h26
      refine jS (S' := [_, _, _, _, _]) (vs' := [_, _]) [0, 1, 2, 3, 4] [0, 1] 0 rfl rfl rfl rfl (jf rfl rfl (kj rfl rfl rfl (kj rfl rfl rfl ?_)))
      refine KA RB (l := (List.replicate 12 false : (List Bool))) (k := 12) (fun w => Try.zeroValue172 w) rfl rfl rfl (fun b_3 h30 h31 => ?_)
      refine jm rfl rfl (jal RB (S' := [_, _, _, _, _, _]) 0 (fun w => Try.sizeOf172 w) rfl rfl rfl h31 h29 rfl rfl (jo (jj (jp (jf rfl rfl (jc rfl rfl rfl (fun w _ => ZG h28 (Try.runUnderlying171 w) rfl rfl) (jo ?_)))))))
      refine jq rfl (fun h32 => ?_) (fun h32 => ?_)
      ·replace hm := ifT (h32) hm
       refine jp (jf rfl rfl (kG [_, _, _, _, _, _] 1 Try.isAgg170 Try.sizeOf170 rfl rfl rfl rfl (jc rfl rfl rfl (fun w hh => J7 RB h29 (Try.isAgg172 w) (Try.sizeOf172 w) rfl rfl (hh.bsegA 0 rfl)) ?_)))
       obtain ⟨t61, h33, hm⟩ := bindO hm
       refine jd [] [] rfl rfl rfl rfl rfl rfl rfl Try.call118 (fun w hh => jab d00 d01 t45 t53.r1 rb qa1 na1 ca1 qa2 na2 ca2 (.map (some pb)) w (HV.callee (S0 := []) (vs0 := []) hh (roR hh 0 rfl (roR hh 1 rfl (roR hh 2 rfl roN)))) hna1 hqa1 hla1 hna2 hqa2 hla2 h29 h33) (fun l_4 h34 => ?_)
       have h35 := h34
       refine jS (S' := [_, _, _, _, _, _]) (vs' := [_, _, _]) [0, 1, 2, 3, 4, 5] [0, 1, 2] 0 rfl rfl rfl rfl (jm rfl rfl (jE (us := #[_, _]) (cs' := [_, _]) (S' := [_, _, _, _, _, _]) 4 (fun w => Try.sizeOf61 w) rfl rfl rfl rfl rfl rfl rfl (jo (jw (je (jx (je ?_)))))))
       refine jx ?_
       obtain rfl := sj hm
       have hbo := h19 _ rfl
       subst hbo
       refine je ?_
       replace hm := ocR h16
       refine jx (je (je (jx ?_)))
       obtain rfl := sj hm
       have hbo := h13 _ rfl
       subst hbo
       refine je ?_
       replace hm := ocR h10
       refine je (jag ?_)
       obtain rfl := sj hm
       refine jn rfl (fun w hh => (.tmp rfl (.cell rfl (loadVar_agg (vs := [_, _]) (Try.isAgg61 _) (Try.sizeOf61 _) (hh.cells 4 rfl rfl)) .nil))) (fun w hh => ⟨l_4, rfl, h35, hh.selN [2] [0] (by decide) (by decide) rfl rfl⟩)
      ·replace hm := ifN h32 hm
       refine jr (jb ?_)
       refine jX none (.free 0 (.free 1 (.free 2 (.free 3 (.free 6 (.hoist 7 (.free 8 (.hoist 9 (.free 10 (.one 4 (.one 5 (.one 11 .done)))))))))))) (HV _ _ [(b_3, .cells (RB.enc t53.r1).toArray 172 (0, 0)), (b_2, .cells #[.int .i64 t45.fr, .int .i64 t45.dst, .int .i64 t45.lo, .int .i64 t45.hi, .int .i64 t45.cost, .int .i64 t45.goes] 170 (0, 0)), (pb, gobj (kR RPr) kB d02), (l.1, .cells #[slv l.2.q l.2.n l.2.cap] 168 (0, 0)), (b_1, .cells #[.bool false, slv none 0 0] 61 (0, 0)), (b, .cells #[.func (.func f_c1_0) fs_c1_0 cs_c1_0] 123 (0, 0))] [] _) rfl (by decide +kernel) (fun w k hh => hh.draw k) (hsE [0, 1, 2, 3, 4, 5] [] 0 rfl rfl rfl rfl) ?_
       refine kg rfl rfl rfl (kg rfl rfl rfl (kg rfl rfl rfl (jk rfl rfl rfl rfl (fun _ _ => jG (vs := [(0, _), (1, _)]) (cells := [_, _]) rfl rfl) (kO 2 Try.runUnderlying170 Try.sizeOf3 rfl rfl rfl rfl (qq 1 Try.isAgg3 rfl rfl rfl rfl rfl (kO 5 Try.runUnderlying170 Try.sizeOf3 rfl rfl rfl rfl (qq 1 Try.isAgg3 rfl rfl rfl rfl rfl ?_)))))))
       obtain ⟨t72, h36, hm⟩ := bindO hm
       refine jk rfl rfl rfl rfl (fun _ _ => k9 h36 rfl rfl) (jK rfl ?_)
       refine kW RCh [(⟨s.t20, true⟩ : Change)] (ps := [(0, _)]) (cells := [_, _]) (fun w => Try.runUnderlying171 w) (fun w => Try.sizeOf178 w) (fun w => Try.zeroValue178 w) rfl rfl rfl rfl rfl rfl rfl rfl (fun L h37 => ?_)
       refine ju (hsE [0, 1, 2, 3, 4, 5] [] 0 rfl rfl rfl rfl) (jK rfl ?_)
       obtain ⟨t67, h38, hm⟩ := bindO hm
       refine y4 RCh 1 h38 Try.underlying171 Y8 rfl rfl rfl rfl rfl h27 rfl rfl (vlen RCh h37 rfl) (AOK.q (vne h37)) (fun w hh => (hh.vsegA 0 rfl h37)) rfl (fun L_1 h39 h39n => ?_)
       refine jS (S' := [_, _, _, _, _, _]) (vs' := [_, _, _]) [0, 1, 2, 3, 4, 5] [0, 1, 2] 0 rfl rfl rfl rfl (ju (hsE [0, 1, 2, 3, 4, 5] [] 0 rfl rfl rfl rfl) (jK rfl ?_))
       obtain ⟨t73, h40, hm⟩ := bindO hm
       refine jS (S' := [_, _, _, _, _, _]) (vs' := [_, _, _]) [0, 1, 2, 3, 4, 5] [2, 0, 1] 0 rfl rfl rfl rfl ?_
       refine jd [] [_] rfl rfl rfl rfl rfl rfl rfl Try.call119 (fun w hh => Yy s_1 t67 t72 l.1 ⟨l.2.q, l.2.n, l.2.cap, l.2.sp⟩ (qA L_1.q) L_1.n L_1.cap w (HV.callee (S0 := []) (vs0 := [_]) hh (roC (hh.bsepH 3 rfl) (roC (hh.vsepA 1 rfl h39) roN))) h18 (vlen RCh h39 rfl) (AOK.q (vne h39)) (h39).hle h40) (fun l_5 h41 => ?_)
       have h42 := h41
       refine jS (S' := [_, _, _, _, _, _]) (vs' := [_, _, _]) [0, 1, 2, 3, 4, 5] [0, 1, 2] 0 rfl rfl rfl rfl (ju (hsE [0, 1, 2, 3, 4, 5] [] 0 rfl rfl rfl rfl) (jI (js ?_)))
       obtain rfl := sj hm
       refine jb ?_
       exact jy _ () rfl (h42) (sE rfl) (hsE [2, 3, 4, 5] [0] 0 rfl rfl rfl rfl)
     ·replace hm := ifE h22 hm
      refine jM (ji (ji (jz ?_)))
      obtain rfl := sj hm
      have hbo := h19 _ rfl
      subst hbo
      exact jg s_1 (⟨rfl, h18⟩) (sE rfl) (fun w hh => hh)
    ·intro j_1 hj
     obtain ⟨h43, h17⟩ := hj
     subst h43
     replace hm := ocL h16
     refine js (jb (jh ?_))
     obtain ⟨t74, h44, hm⟩ := bindO hm
     refine kt h44 rfl rfl rfl (jf rfl rfl (jv ?_))
     obtain rfl := sj hm
     refine jb ?_
     exact jy _ () rfl (h17) (sE rfl) (fun w hh => hh)
   ·replace hm := ifE h14 hm
    refine jM (ji (ji (jz ?_)))
    obtain rfl := sj hm
    have hbo := h13 _ rfl
    subst hbo
    exact jg s.t12 (⟨rfl, h12⟩) (sE rfl) (fun w hh => hh)
  ·intro j hj
   obtain ⟨h45, h11⟩ := hj
   subst h45
   replace hm := ocL h10
   refine jb (jj (jaS (jb (jj ?_))))
   obtain ⟨o_2, h46, h47⟩ := bindO hm
   refine jC (ι := Unit) (fun l_6 => VOK 6 l.2.n l.2.cap (RWay.enc o_2) l.2.sp l.2.q) (fun l_6 => [(5, ptr b_1 0), (6, ptr l.1 0)]) (fun l_6 => [(pb, gobj (kR RPr) kB d02), (l.1, .cells #[slv l.2.q l.2.n l.2.cap] 168 (0, 0)), (b_1, .cells #[.bool false, slv none 0 0] 61 (0, 0)), (b, .cells #[.func (.func f_c1_0) fs_c1_0 cs_c1_0] 123 (0, 0))]) (fun l_6 => [⟨170, RWay.enc o_2, l.2.sp, l.2.q, []⟩]) ?_ ?_
   ·replace hm := h46
    refine jl ?_
    refine jF (ι := Unit) hm (fun s_2 l_7 => VOK 6 l.2.n l.2.cap (RWay.enc s_2) l.2.sp l.2.q) (fun s_2 l_7 => [(5, ptr b_1 0), (6, ptr l.1 0)]) (fun s_2 l_7 => [(pb, gobj (kR RPr) kB d02), (l.1, .cells #[slv l.2.q l.2.n l.2.cap] 168 (0, 0)), (b_1, .cells #[.bool false, slv none 0 0] 61 (0, 0)), (b, .cells #[.func (.func f_c1_0) fs_c1_0 cs_c1_0] 123 (0, 0))]) (fun s_2 l_7 => [⟨170, RWay.enc s_2, l.2.sp, l.2.q, []⟩]) () (h11) (sE rfl) (fun w hh => hh) (fun s_2 l_7 r_3 hpl hm h50 => ?_)
    have h49 := hpl
    unfold qC at hm
    refine jl (jp (jf rfl rfl ?_))
    obtain ⟨t76, h51, hm⟩ := bindO hm
    refine jd [] [] rfl rfl rfl rfl rfl rfl rfl Try.call120 (fun w hh => Ze s_2 l.1 (qA l.2.q) l.2.n l.2.cap w (HV.callee (S0 := []) (vs0 := []) hh (roC (bsep (hh.bseg 1 rfl)) (roC (hh.vsepA 0 rfl h49) roN))) (vlen RWay h49 rfl) (AOK.q (vne h49)) (h49).hle h51) (fun l_8 h52 => ?_)
    obtain ⟨h53, h54⟩ := h52
    refine jS (S' := [_, _, _, _]) (vs' := [_, _]) [0, 1, 2, 3] [0, 1] 0 rfl rfl rfl rfl (jm rfl rfl (jo (jj (jp (jf rfl rfl (jc rfl rfl rfl (fun w _ => ZG h54 (Try.runUnderlying171 w) rfl rfl) (jo ?_)))))))
    refine jq rfl (fun h55 => ?_) (fun h55 => ?_)
    ·replace hm := ifT (h55) hm
     refine jM (ji (Z5 rfl (ji (jz ?_))))
     obtain rfl := sj hm
     have hbo := h50 _ rfl
     subst hbo
     exact jg () (h49) (sE rfl) (hsE [0, 1, 2, 3] [1] 0 rfl rfl rfl rfl)
    ·replace hm := ifN h55 hm
     refine jr (jb (jh (jf rfl rfl (jf rfl rfl ?_))))
     obtain ⟨t81, h56, hm⟩ := bindO hm
     refine jS (S' := [_, _, _, _]) (vs' := [_, _]) [0, 1, 2, 3] [1, 0] 0 rfl rfl rfl rfl ?_
     refine jd [] [_] rfl rfl rfl rfl rfl rfl rfl Try.call119 (fun w hh => Yy s_2 t76 1000000 l.1 ⟨l.2.q, l.2.n, l.2.cap, l.2.sp⟩ (qA l_8.q) l_8.n l_8.cap w (HV.callee (S0 := []) (vs0 := [_]) hh (roC (hh.bsepH 1 rfl) (roC (hh.vsepA 0 rfl h53) roN))) h49 (vlen RCh h53 rfl) (AOK.q (vne h53)) (h53).hle h56) (fun l_9 h57 => ?_)
     have h58 := h57
     refine jS (S' := [_, _, _, _]) (vs' := [_, _]) [0, 1, 2, 3] [0, 1] 0 rfl rfl rfl rfl (jv (js ?_))
     obtain rfl := sj hm
     refine jb ?_
     exact jy _ () rfl (h58) (sE rfl) (hsE [0, 1, 2, 3] [0] 0 rfl rfl rfl rfl)
   ·intro l_6 hj
    have h48 := hj
    replace hm := h47
    refine jb (jp (jf rfl rfl (jc rfl rfl rfl (fun _ _ => jG (vs := []) (cells := [_, _]) rfl rfl) (jm rfl rfl (jE (us := #[_, _]) (cs' := [_, _]) (S' := [_, _, _, _]) 2 (fun w => Try.sizeOf61 w) rfl rfl rfl rfl rfl rfl rfl (jo (jw ?_)))))))
    refine jag (kr 3 ?_)
    obtain rfl := sj hm
    refine jn rfl (fun w hh => (.tmp rfl (.cell rfl (loadVar_agg (vs := [_, _]) (Try.isAgg61 _) (Try.sizeOf61 _) (hh.cells 2 rfl rfl)) .nil))) (fun w hh => ⟨(l.1, ⟨none, 0, 0, []⟩, l.2), rfl, ⟨VOK.nil, h48⟩, hh.selN [0, 1] [0, 1] (by decide) (by decide) rfl rfl⟩)
structure zH where
  t18 : Int
  out5 : (List (List Int))
def qJ (t15 : (List (List Int))) (d10 : (List Strip)) (s : zH) : Option (zH ⊕ (List (List Int))) :=
 if s.t18 < (t15.length : Int) then
 ((makec 8 0 (d10.length : Int) (d10.length : Int)).bind fun t29 =>
 (ix s.out5 s.t18).bind fun t30 =>
 (some (s.out5.set (Int.toNat s.t18) t29)).bind fun out5 =>
 (addc s.t18 1).bind fun t31 =>
 some (.inl (⟨t31, out5⟩ : zH))) else
 (some (.inr s.out5))
structure yx where
  t37 : Int
  out5 : (List (List Int))
def yq (n00 : (List Wy)) (s_1 : yx) : Option (yx ⊕ (List (List Int))) :=
 if s_1.t37 < (n00.length : Int) then
 (((ix n00 s_1.t37).bind fun t39 =>
 (if t39.fr = 0 then
 (some false) else
 (some (!decide (t39.dst = 0)))).bind fun o_3 =>
 if o_3 = true then
 ((subc t39.dst 1).bind fun t52 =>
 (subc t52 6).bind fun t53 =>
 (ix s_1.out5 t53).bind fun t54 =>
 (subc t39.fr 1).bind fun t58 =>
 (ix t54 t58).bind fun t61 =>
 (some (t54.set (Int.toNat t58) t39.goes)).bind fun row =>
 (some (s_1.out5.set (Int.toNat t53) row)).bind fun out5_1 =>
 some out5_1) else
 (some s_1.out5)).bind fun o_2 =>
 (addc s_1.t37 1).bind fun t62 =>
 some (.inl (⟨t62, o_2⟩ : yx))) else
 (some (.inr s_1.out5))
def qU (n00 : (List Wy)) (d10 : (List Strip)) (d11 : (List Span)) : Option (List (List Int)) :=
 (makec 24 ([] : (List Int)) (d11.length : Int) (d11.length : Int)).bind fun t15 =>
 (iterM FU (qJ t15 d10) (⟨0, t15⟩ : zH)).bind fun o =>
 (iterM FU (yq n00) (⟨0, o⟩ : yx)).bind fun o_1 =>
 some o_1
theorem Yt (n00 : (List Wy)) (d10 : (List Strip)) (d11 : (List Span)) (rb : Nat) (qa1 : Option Addr) (na1 ca1 : Nat) (rb_1 : Nat) (qa3 : Option Addr) (na3 ca3 : Nat) (qa4 : Option Addr) (na4 ca4 : Nat) (mv : Value) (w : World) (hw : HV w (keys [] []) [] [] [(rb, 0, [.slice qa1 na1 ca1]), (aB qa1, aO qa1, RWay.enc n00), (rb_1, 0, [.slice qa3 na3 ca3, .slice qa4 na4 ca4, mv]), (aB qa3, aO qa3, RSt.enc d10), (aB qa4, aO qa4, RSp.enc d11)] w)  (hna1 : n00.length = na1) (hqa1 : AOK na1 qa1) (hla1 : na1 ≤ ca1)  (hna3 : d10.length = na3) (hqa3 : AOK na3 qa3) (hla3 : na3 ≤ ca3) (hna4 : d11.length = na4) (hqa4 : AOK na4 qa4) (hla4 : na4 ≤ ca4) {res : (List (List Int))} (hm : qU n00 d10 d11 = some res) :
    Calls Try.prog 68 #[ptr rb 0, ptr rb_1 0] w (fun en w' => ∃ l : DL, en = .returned (slv l.v.q l.v.n l.v.cap) ∧ (VOK 1 l.v.n l.v.cap (RwH.enc l.rs) l.v.sp l.v.q ∧ DOK RI res l.rs) ∧ HV w (keys [] []) [] [⟨32, RwH.enc l.rs, l.v.sp, l.v.q, dbl 3 RI res l.rs⟩] [] w') := by
  unfold qU at hm
  refine kb Try.func68 rfl Try.ntmps68 rfl (e := [(0, _), (1, _)]) rfl hw (jp (jc rfl rfl rfl (fun _ _ => qj rfl) (j1 (jf rfl rfl (jc rfl rfl rfl (fun _ _ => jJ rfl) (jL 0 Try.runUnderlying163 rfl Try.sizeOf28 rfl rfl (jL 1 Try.runUnderlying28 rfl Try.sizeOf26 rfl rfl ?_)))))))
  refine jc rfl rfl rfl (fun w hh => jY (Try.isAgg26 w) rfl (segCell (hh.seg 2 rfl) 1 rfl)) (jc rfl rfl rfl (fun w _ => jB hna4 (Try.runUnderlying26 w) rfl) ?_)
  obtain ⟨t15, h3, hm⟩ := bindO hm
  refine km RwH vl0 (makecL vl0 h3) Try.underlying29 jaW rfl rfl rfl rfl rfl (fun L h4 => ?_)
  refine jaz (E2 := 3) RI (Int.toNat (d11.length : Int)) (makecO h3).1.symm (fun h5 => ?_)
  refine jm rfl rfl (jo (jj (jp (jf rfl rfl (jc rfl rfl rfl (fun w _ => JI (Eq.trans (h5).len (vlen RwH h4 rfl)) (Try.runUnderlying29 w) rfl) (jf rfl rfl (jo ?_)))))))
  obtain ⟨o, h6, h7⟩ := bindO hm
  refine jC (ι := DL) (fun l => VOK 1 l.v.n l.v.cap (RwH.enc l.rs) l.v.sp l.v.q ∧ DOK RI o l.rs) (fun l => [(0, ptr rb 0), (5, slv l.v.q l.v.n l.v.cap)]) (fun l => []) (fun l => [⟨32, RwH.enc l.rs, l.v.sp, l.v.q, dbl 3 RI o l.rs⟩]) ?_ ?_
  ·replace hm := h6
   refine jl ?_
   refine jF (ι := DL) hm (fun s l_1 => VOK 1 l_1.v.n l_1.v.cap (RwH.enc l_1.rs) l_1.v.sp l_1.v.q ∧ DOK RI s.out5 l_1.rs) (fun s l_1 => [(0, ptr rb 0), (1, ptr rb_1 0), (5, slv l_1.v.q l_1.v.n l_1.v.cap), (17, .int .i64 (t15.length : Int)), (18, .int .i64 s.t18)]) (fun s l_1 => []) (fun s l_1 => [⟨32, RwH.enc l_1.rs, l_1.v.sp, l_1.v.q, dbl 3 RI s.out5 l_1.rs⟩]) (⟨⟨L.q, L.n, L.cap, L.sp⟩, (List.replicate (Int.toNat (d11.length : Int)) vl0)⟩) (⟨h4, h5⟩) (sE rfl) (fun w hh => hh) (fun s l_1 r hpl hm h12 => ?_)
   obtain ⟨h10, h11⟩ := hpl
   unfold qJ at hm
   refine jp (qv rfl rfl rfl (jo (jj ?_)))
   refine jq rfl (fun h13 => ?_) (fun h13 => ?_)
   ·replace hm := ifD h13 hm
    refine jr (jb (jj (jl (jp (jf rfl rfl (jm rfl rfl (jo ?_)))))))
    refine jh (jf rfl rfl (jf rfl rfl (jf rfl rfl (jc rfl rfl rfl (fun _ _ => jJ rfl) (jL 0 Try.runUnderlying163 rfl Try.sizeOf28 rfl rfl (jL 0 Try.runUnderlying28 rfl Try.sizeOf25 rfl rfl (jc rfl rfl rfl (fun w hh => jY (Try.isAgg25 w) rfl (segCell (hh.seg 2 rfl) 0 rfl)) ?_)))))))
    refine jc rfl rfl rfl (fun w _ => jB hna3 (Try.runUnderlying25 w) rfl) ?_
    obtain ⟨t29, h14, hm⟩ := bindO hm
    refine km RI 0 h14 Try.underlying32 JJ rfl rfl rfl rfl rfl (fun L_1 h15 => ?_)
    obtain ⟨t30, h16, hm⟩ := bindO hm
    obtain ⟨L_2, h17, h18⟩ := (h11).row h16
    refine jc rfl rfl rfl (fun w _ => qe h17 (Try.runUnderlying29 w) (Try.sizeOf32 w) rfl rfl (vlen RwH h10 rfl) (vne h10)) ?_
    obtain ⟨out5, hout5, hm⟩ := bindO hm
    refine KU RwH 1 0 (⟨L_1.q, L_1.n, L_1.cap, L_1.sp⟩ : VL) (fun w => Try.sizeOf32 w) rfl rfl rfl rfl h10 rfl (Nat.add_zero _).symm rfl h17 rfl rfl rfl (fun h19 => ?_)
    refine jS (S' := []) (vs' := [_, _]) [] [0, 1] 0 rfl rfl rfl rfl (jS (S' := []) (vs' := [_, _]) [] [1, 0] 0 rfl rfl rfl rfl ?_)
    refine jay RI s.t18 L_1.n L_1.cap h11 h15 h16 (Option.some.inj hout5) (fun h20 => ?_)
    refine jv (js (jb (jh ?_)))
    obtain ⟨t31, h21, hm⟩ := bindO hm
    refine kt h21 rfl rfl rfl (jf rfl rfl (jv ?_))
    obtain rfl := sj hm
    refine jb ?_
    exact jy _ (⟨⟨l_1.v.q, l_1.v.n, l_1.v.cap, l_1.v.sp⟩, (l_1.rs.set (Int.toNat s.t18) (⟨L_1.q, L_1.n, L_1.cap, L_1.sp⟩ : VL))⟩) rfl (⟨h19, h20⟩) (sE rfl) (fun w hh => hh)
   ·replace hm := ifE h13 hm
    refine jM (ji (ji (jz ?_)))
    obtain rfl := sj hm
    have hbo := h12 _ rfl
    subst hbo
    exact jg l_1 (⟨h10, h11⟩) (sE rfl) (fun w hh => hh)
  ·intro l hj
   obtain ⟨h8, h9⟩ := hj
   replace hm := h7
   refine jb (jj (jp (jf rfl rfl (jc rfl rfl rfl (fun _ _ => jJ rfl) (jL 0 Try.runUnderlying168 rfl Try.sizeOf166 rfl rfl (jc rfl rfl rfl (fun w hh => jY (Try.isAgg166 w) rfl (segCell (hh.seg 0 rfl) 0 rfl)) (jc rfl rfl rfl (fun w _ => jB hna1 (Try.runUnderlying166 w) rfl) ?_)))))))
   refine jf rfl rfl (jo ?_)
   obtain ⟨o_1, h22, h23⟩ := bindO hm
   refine jC (ι := Unit) (fun l_2 => DOK RI o_1 l.rs) (fun l_2 => [(5, slv l.v.q l.v.n l.v.cap)]) (fun l_2 => []) (fun l_2 => [⟨32, RwH.enc l.rs, l.v.sp, l.v.q, dbl 3 RI o_1 l.rs⟩]) ?_ ?_
   ·replace hm := h22
    refine jl ?_
    refine jF (ι := Unit) hm (fun s_1 l_3 => DOK RI s_1.out5 l.rs) (fun s_1 l_3 => [(5, slv l.v.q l.v.n l.v.cap), (35, .slice qa1 na1 ca1), (36, .int .i64 (n00.length : Int)), (37, .int .i64 s_1.t37)]) (fun s_1 l_3 => []) (fun s_1 l_3 => [⟨32, RwH.enc l.rs, l.v.sp, l.v.q, dbl 3 RI s_1.out5 l.rs⟩]) () (h9) (sE rfl) (fun w hh => hh) (fun s_1 l_3 r_1 hpl hm h26 => ?_)
    have h25 := hpl
    unfold yq at hm
    refine jp (qv rfl rfl rfl (jo (jj ?_)))
    refine jq rfl (fun h27 => ?_) (fun h27 => ?_)
    ·replace hm := ifD h27 hm
     refine jr (jb (jj ?_))
     obtain ⟨o_2, h28, h29⟩ := bindO hm
     refine jC (ι := Unit) (fun l_4 => DOK RI o_2 l.rs) (fun l_4 => [(5, slv l.v.q l.v.n l.v.cap), (35, .slice qa1 na1 ca1), (36, .int .i64 (n00.length : Int)), (37, .int .i64 s_1.t37)]) (fun l_4 => []) (fun l_4 => [⟨32, RwH.enc l.rs, l.v.sp, l.v.q, dbl 3 RI o_2 l.rs⟩]) ?_ ?_
     ·replace hm := h28
      refine jl (jp ?_)
      obtain ⟨t39, h31, hm⟩ := bindO hm
      refine jc rfl rfl rfl (fun w _ => jW h31 (Try.runUnderlying166 w) (Try.sizeOf170 w) rfl rfl hna1 hqa1) ?_
      refine jc rfl rfl rfl (fun w hh => kk RWay 0 [.int .i64 t39.fr, .int .i64 t39.dst, .int .i64 t39.lo, .int .i64 t39.hi, .int .i64 t39.cost, .int .i64 t39.goes] h31 (Try.isAgg170 w) (Try.sizeOf170 w) rfl (hh.seg 1 rfl) rfl (Nat.add_zero _).symm) ?_
      refine jt (fun w => Try.zeroValue170 w) rfl (fun b h32 => ?_)
      refine jE (us := #[_, _, _, _, _, _]) (cs' := [_, _, _, _, _, _]) (S' := [_]) 0 (fun w => Try.sizeOf170 w) rfl rfl rfl rfl rfl rfl rfl (jo (jj ?_))
      obtain ⟨o_3, h33, h34⟩ := bindO hm
      refine jC (ι := Unit) (fun l_5 => True) (fun l_5 => [(5, slv l.v.q l.v.n l.v.cap), (8, ptr b 0), (35, .slice qa1 na1 ca1), (36, .int .i64 (n00.length : Int)), (37, .int .i64 s_1.t37), (48, .bool o_3)]) (fun l_5 => [(b, .cells #[.int .i64 t39.fr, .int .i64 t39.dst, .int .i64 t39.lo, .int .i64 t39.hi, .int .i64 t39.cost, .int .i64 t39.goes] 170 (0, 0))]) (fun l_5 => [⟨32, RwH.enc l.rs, l.v.sp, l.v.q, dbl 3 RI s_1.out5 l.rs⟩]) ?_ ?_
      ·replace hm := h33
       refine jh (jL 0 Try.runUnderlying170 rfl Try.sizeOf3 rfl rfl (jU 0 Try.isAgg3 rfl rfl rfl rfl (jc rfl rfl rfl (fun _ _ => kv rfl rfl) (jf rfl rfl ?_))))
       refine jD 44 rfl (fun h35 => ?_) (fun h35 => ?_)
       ·replace hm := ifF (of_ndec_true h35) hm
        refine ja rfl rfl (jL 1 Try.runUnderlying170 rfl Try.sizeOf3 rfl rfl (ja rfl rfl (jU 0 Try.isAgg3 rfl rfl rfl rfl (ja rfl rfl (jc rfl rfl rfl (fun _ _ => kv rfl rfl) (j3 rfl rfl rfl (jv ?_)))))))
        obtain rfl := sj hm
        exact jg () (trivial) (sE rfl) (fun w hh => hh)
       ·replace hm := ifT (of_ndec_false h35) hm
        refine g_k rfl rfl rfl rfl (g_k rfl rfl rfl rfl (g_k rfl rfl rfl rfl (ki rfl rfl rfl (jv ?_))))
        obtain rfl := sj hm
        exact jg () (trivial) (sE rfl) (fun w hh => hh)
      ·intro l_5 hj
       replace hm := h34
       refine jb ?_
       refine jq rfl (fun h36 => ?_) (fun h36 => ?_)
       ·replace hm := ifT (h36) hm
        refine jX (some 13) (.free 0 (.free 1 (.hoist 2 (.free 3 (.free 4 (.free 5 (.hoist 6 (.free 7 (.hoist 8 (.free 9 (.free 10 (.hoist 11 (.free 12 (.last 13 .done)))))))))))))) _ rfl (by decide +kernel) (fun w k hh => hh.draw k) (fun w hh => hh) ?_
        refine kg rfl rfl rfl (kO 1 Try.runUnderlying170 Try.sizeOf3 rfl rfl rfl rfl (qq 0 Try.isAgg3 rfl rfl rfl rfl rfl ?_))
        obtain ⟨t52, h37, hm⟩ := bindO hm
        refine jk rfl rfl rfl rfl (fun _ _ => k9 h37 rfl rfl) ?_
        obtain ⟨t53, h38, hm⟩ := bindO hm
        refine jk rfl rfl rfl rfl (fun _ _ => k9 h38 rfl rfl) ?_
        obtain ⟨t54, h39, hm⟩ := bindO hm
        obtain ⟨L_3, h40, h41⟩ := (h25).row h39
        refine jk rfl rfl rfl rfl (fun w _ => qe h40 (Try.runUnderlying29 w) (Try.sizeOf32 w) rfl rfl (vlen RwH h8 rfl) (vne h8)) (jA rfl rfl rfl rfl (fun w hh => jV RwH 0 h40 (Try.isAgg32 w) rfl (hh.vseg 0 rfl h8) rfl (Nat.add_zero _).symm) (kO 0 Try.runUnderlying170 Try.sizeOf3 rfl rfl rfl rfl (qq 0 Try.isAgg3 rfl rfl rfl rfl rfl ?_)))
        obtain ⟨t58, h42, hm⟩ := bindO hm
        refine jk rfl rfl rfl rfl (fun _ _ => k9 h42 rfl rfl) (kO 5 Try.runUnderlying170 Try.sizeOf3 rfl rfl rfl rfl (qq 0 Try.isAgg3 rfl rfl rfl rfl rfl ?_))
        obtain ⟨t61, h43, hm⟩ := bindO hm
        refine jk rfl rfl rfl rfl (fun w _ => qe h43 (Try.runUnderlying32 w) (Try.sizeOf3 w) rfl rfl (vlen RI h41 rfl) (vne h41)) (Q8 rfl ?_)
        obtain ⟨row, hrow, hm⟩ := bindO hm
        obtain ⟨out5_1, hout5_1, hm⟩ := bindO hm
        refine jS (S' := [_]) (vs' := [_]) [0] [0] 0 rfl rfl rfl rfl ?_
        refine jaX RI t53 h25 h39 h40 (fun _ => ?_)
        refine KU RI 1 0 t39.goes (fun w => Try.sizeOf3 w) rfl rfl rfl rfl h41 rfl (Nat.add_zero _).symm rfl h43 rfl rfl (Option.some.inj hrow) (fun h44 => ?_)
        refine jS (S' := [_]) (vs' := [_, _]) [0] [0, 1] 0 rfl rfl rfl rfl ?_
        refine jaM RI t53 h25 h39 h40 h44 (Option.some.inj hout5_1) (fun h45 => ?_)
        refine K4 (jI (js ?_))
        obtain rfl := sj hm
        exact jg () (h45) (sE rfl) (hsE [] [0] 0 rfl rfl rfl rfl)
       ·replace hm := ifN h36 hm
        refine jr (js ?_)
        obtain rfl := sj hm
        exact jg () (h25) (sE rfl) (hsE [] [0] 0 rfl rfl rfl rfl)
     ·intro l_4 hj
      have h30 := hj
      replace hm := h29
      refine jb (jh ?_)
      obtain ⟨t62, h46, hm⟩ := bindO hm
      refine kt h46 rfl rfl rfl (jf rfl rfl (jv ?_))
      obtain rfl := sj hm
      refine jb ?_
      exact jy _ () rfl (h30) (sE rfl) (fun w hh => hh)
    ·replace hm := ifE h27 hm
     refine jM (ji (ji (jz ?_)))
     obtain rfl := sj hm
     have hbo := h26 _ rfl
     subst hbo
     exact jg () (h25) (sE rfl) (fun w hh => hh)
   ·intro l_2 hj
    have h24 := hj
    replace hm := h23
    refine jb (jp (jf rfl rfl (jm rfl rfl (jo (jw ?_)))))
    obtain rfl := sj hm
    refine jn rfl (fun w hh => (.tmp rfl .nil)) (fun w hh => ⟨l, rfl, ⟨h8, h24⟩, hh.se [] [0] 5 rfl rfl rfl rfl⟩)
end Go.Proofs.Ws

