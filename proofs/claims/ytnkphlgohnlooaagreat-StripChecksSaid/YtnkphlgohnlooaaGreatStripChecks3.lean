/- What the functions that the law StripChecks reaches come to, and why it holds: part 3. -/
import Derived.Test.YtnkphlgohnlooaaGreatStripChecks2
import Derived.Shelf.Slices.CompactI
namespace Go.Proofs
open Go.Shelf
def laysCompact_ren : Go.Shelf.Ren := ⟨fun | 20 => 70 | n => n, fun | 0 => 0 | 3 => 3 | 4 => 4 | 22 => 26 | n => n, fun | n => n⟩
theorem laysCompact : Go.Proofs.Lays2.n20 Tryz.prog laysCompact_ren := {
  mixed := by kernel_rfl,
  f20 := Tryz.func70.trans (congrArg some (by kernel_rfl)),
  t0 := Tryz.underlying0,
  a0 := Tryz.isAgg0,
  z0 := Tryz.sizeOf0,
  v0 := Tryz.zeroValue0,
  t3 := Tryz.underlying3,
  a3 := Tryz.isAgg3,
  z3 := Tryz.sizeOf3,
  v3 := Tryz.zeroValue3,
  t4 := Tryz.underlying4,
  a4 := Tryz.isAgg4,
  z4 := Tryz.sizeOf4,
  v4 := Tryz.zeroValue4,
  t22 := Tryz.underlying26,
  a22 := Tryz.isAgg26,
  z22 := Tryz.sizeOf26,
  v22 := Tryz.zeroValue26,
  i3 := by kernel_rfl }
end Go.Proofs
namespace Go.Proofs.Ws
open Go Go.Fw Go.Gx Go.Sp
theorem RI_len (l : List Int) : (RI.enc l).length = l.length := by rw [RI.enc_len]; exact Nat.mul_one _
theorem RI_get {l : List Int} {j : Nat} (h : j < l.length) : (RI.enc l)[j]? = some (.int .i64 l[j]!) := by
  have := RI.enc_get l j 0 l[j]! (by simp [h]) (by decide)
  simpa [RI] using this
def x_slices_Compact (l : List Int) : Option (List Int) := if l.length ≤ 4611686018427387903 then some (Go.Lib.compact l) else none
theorem compact_le (l : List Int) : (Go.Lib.compact l).length ≤ l.length := by
  unfold Go.Lib.compact Go.Lib.compactUpTo
  rw [List.length_map]
  exact Nat.le_trans (List.length_filter_le _ _) (by simp)
theorem put_cells {l s : List Int} {sp : List Value} (hs : s.length = l.length) : Go.Sort.putCells (Value.int .i64) 0 s.toArray (RI.enc l ++ sp).toArray = (RI.enc s ++ sp).toArray := by
  apply Array.toList_inj.1
  apply List.ext_getElem?
  intro k
  unfold Go.Sort.putCells
  rw [Array.getElem?_toList, Array.getElem?_mapIdx]
  simp only [List.getElem?_toArray, Nat.zero_le, true_and, Nat.zero_add, List.size_toArray, Nat.sub_zero]
  by_cases hk : k < s.length
  · rw [List.getElem?_append_left (by rw [RI_len]; omega), List.getElem?_append_left (by rw [RI_len]; omega), RI_get (by omega), RI_get hk]
    simp [hk]
  · rw [List.getElem?_append_right (by rw [RI_len]; omega), List.getElem?_append_right (by rw [RI_len]; omega), RI_len, RI_len, hs]
    have h2 : ¬ k < l.length := by omega
    simp [hk, h2]
theorem cx_slices_Compact (l : List Int) (V : VL) (w : World) (hw : HV w (keys [] [⟨3, RI.enc l, V.sp, V.q, []⟩]) [] [⟨3, RI.enc l, V.sp, V.q, []⟩] [] w) (hv : VOK 1 V.n V.cap (RI.enc l) V.sp V.q) {res : List Int} (hm : x_slices_Compact l = some res) :
    Calls Tryz.prog 70 #[slv V.q V.n V.cap] w (fun en w' => ∃ l' : VL, en = .returned (slv l'.q l'.n l'.cap) ∧ (VOK 1 l'.n l'.cap (RI.enc res) l'.sp l'.q) ∧ HV w (keys [] [⟨3, RI.enc l, V.sp, V.q, []⟩]) [] [⟨3, RI.enc res, l'.sp, l'.q, []⟩] [] w') := by
  unfold x_slices_Compact at hm
  obtain ⟨hl, hm⟩ := ifO hm
  obtain rfl := Option.some.inj hm
  have hn := vlen RI hv rfl
  obtain ⟨q, n, cap, sp⟩ := V
  simp only at hw hv hn ⊢
  subst hn
  have hle := compact_le l
  generalize hc : Go.Lib.compact l = r at *
  have hv' : VOK 1 r.length cap (RI.enc r) (RI.enc (List.replicate (l.length - r.length) 0) ++ sp) q := ⟨by rw [RI_len, Nat.mul_one], by
      have := hv.hcap
      rw [List.length_append, RI_len] at this
      rw [List.length_append, List.length_append, RI_len, RI_len, List.length_replicate]
      omega, by have := hv.hle; omega, hv.hmax, fun h => by
        have h1 := hv.hnone h
        have h2 : l.length = 0 := h1.1
        exact ⟨by omega, h1.2⟩, hv.hoff⟩
  cases q with
  | none =>
    have h0 := (hv.hnone rfl).1
    have e : l = [] := List.length_eq_zero_iff.1 h0
    subst e
    have er : r = [] := by rw [← hc]; rfl
    subst er
    refine Calls.mono (Any.slices_Compact_int_empty laysCompact none cap w) ?_
    rintro en w' ⟨rfl, rfl⟩
    exact ⟨⟨none, 0, cap, sp⟩, rfl, hv', by simpa using hw⟩
  | some p =>
    have ho := hv.hoff p rfl
    have hb : w.heap[p.1]? = some (.cells (RI.enc l ++ sp).toArray 3 (0, 0)) := hw.hs.ownOK (p.1, _) (by simp [vbl, VR.bl, vown])
    have hlt : p.1 < w.heap.size := (Array.getElem?_eq_some_iff.1 hb).1
    have hH : Go.Sort.Holds (Value.int .i64) w p.1 0 l.toArray := fun j hj => by
      have hj' : j < l.length := by simpa using hj
      refine ⟨?_, by simp [World.frozen?, hb]⟩
      have : (RI.enc l ++ sp)[j]? = some (.int .i64 l[j]!) := by rw [List.getElem?_append_left (by rw [RI_len]; exact hj')]; exact RI_get hj'
      simp [World.cell?, hb, this]
    have e1 : slv (some p) l.length cap = Value.slice (some ⟨p.1, 0, none⟩) l.length cap := by simp [slv, ho]
    rw [e1]
    refine Calls.mono (Any.slices_Compact_int laysCompact p.1 0 cap l w hH (by omega) hv.hle) ?_
    rw [hc]
    rintro en w' ⟨rfl, k, rfl⟩
    have e2 : Value.slice (some ⟨p.1, 0, none⟩) r.length cap = slv (some p) r.length cap := by simp [slv, ho]
    refine ⟨⟨some p, r.length, cap, RI.enc (List.replicate (l.length - r.length) 0) ++ sp⟩, by rw [e2], hv', ?_⟩
    have hput := put_cells (l := l) (s := r ++ List.replicate (l.length - r.length) 0) (sp := sp) (by simp; omega)
    have henc : RI.enc (r ++ List.replicate (l.length - r.length) 0) ++ sp = RI.enc r ++ (RI.enc (List.replicate (l.length - r.length) 0) ++ sp) := by rw [RI.enc_append, List.append_assoc]
    rw [henc] at hput
    have hmod : ∀ i : Nat, (Go.Sort.putRow (Value.int .i64) (Go.Sort.ahead w k) p.1 0 (r ++ List.replicate (l.length - r.length) 0).toArray).heap[i]? = if i = p.1 then some (.cells (RI.enc r ++ (RI.enc (List.replicate (l.length - r.length) 0) ++ sp)).toArray 3 (0, 0)) else w.heap[i]? := fun i => by
      simp only [Go.Sort.putRow, Go.Sort.mapBlock, Go.Sort.ahead]
      rw [Array.getElem?_modify]
      by_cases h : p.1 = i
      · subst h
        rw [if_pos rfl, if_pos rfl, hb]
        simp only [Option.map_some, Go.Sort.onCells, hput]
      · rw [if_neg h, if_neg (fun e => h e.symm)]
    have hhs := hw.hs
    refine ⟨rfl, rfl, rfl, ?_, fun i hi hM => ?_, fun x hx => ?_, fun x hx => ?_, ?_, fun x hx => by simp at hx, fun x hx => by simp at hx⟩
    · simp [Go.Sort.putRow, Go.Sort.mapBlock, Go.Sort.ahead]
    · have : i ≠ p.1 := fun e => hM (by simp [keys, vbl, VR.bl, vown, e])
      exact (hmod i).trans (if_neg this)
    · simp only [vbl, VR.bl, vown, List.nil_append, List.append_nil, List.mem_singleton] at hx
      subst hx
      exact (hmod p.1).trans (if_pos rfl)
    · simp only [vbl, VR.bl, vown, List.nil_append, List.append_nil, List.mem_singleton] at hx
      subst hx
      exact .inr (by simp [keys, vbl, VR.bl, vown])
    · simp [vbl, VR.bl, vown]
end Go.Proofs.Ws

namespace Go.Gx
open Go Go.Fw
section
variable {P : Program}
inductive EqG (P : Program) (xs ys : Array Value) : List Field → Bool → Prop
  | nil : EqG P xs ys [] true
  | int {f : Field} {fs : List Field} {k : IntKind} {a c : Int} {b : Bool} (hn : (f.name == "_") = false) (hg : ∀ w, (isAgg f.type).run P w = .ok false w) (hu : ∃ k', P.underlying f.type = some (.int k')) (hx : xs[f.offset]? = some (.int k a)) (hy : ys[f.offset]? = some (.int k c)) (h : EqG P xs ys fs b) : EqG P xs ys (f :: fs) (decide (a = c) && b)
  | bool {f : Field} {fs : List Field} {a c : Bool} {b : Bool} (hn : (f.name == "_") = false) (hg : ∀ w, (isAgg f.type).run P w = .ok false w) (hu : P.underlying f.type = some .bool) (hx : xs[f.offset]? = some (.bool a)) (hy : ys[f.offset]? = some (.bool c)) (h : EqG P xs ys fs b) : EqG P xs ys (f :: fs) (decide (a = c) && b)
  | sub {f : Field} {fs : List Field} {us vs : List Value} {k : Nat} {fs' : Array Field} {b b' : Bool} (hn : (f.name == "_") = false) (hg : ∀ w, (isAgg f.type).run P w = .ok true w) (hz : ∀ w, (sizeOf f.type).run P w = .ok k w) (hlx : us.length = k) (hly : vs.length = k) (hx : (xs.toList.drop f.offset).take k = us) (hy : (ys.toList.drop f.offset).take k = vs)
      (hu : P.underlying f.type = some (.struct fs')) (hp : P.stoodInHeld f.type = false) (h' : EqF P us.toArray vs.toArray fs'.toList b') (h : EqG P xs ys fs b) : EqG P xs ys (f :: fs) (b' && b)
theorem part_agg {T : TypeId} {cs : Array Value} {o : Nat} {us : List Value} {w : World} (hg : (isAgg T).run P w = .ok true w) (hz : (sizeOf T).run P w = .ok us.length w) (hv : (cs.toList.drop o).take us.length = us) : (part T cs o).run P w = .ok (.agg us.toArray) w := by
  have hsub : cs.extract o (o + us.length) = us.toArray := by
    apply Array.toList_inj.1
    rw [Array.toList_extract, List.extract_eq_take_drop]
    simpa using hv
  simp [part, hg, hz, hsub]
theorem EqG.run {xs ys : Array Value} {fs : List Field} {b : Bool} (h : EqG P xs ys fs b) (d : Nat) (w : World) : (Op.eqFields (d + 2) xs ys fs).run P w = .ok b w := by
  induction h with
  | nil => rfl
  | @int f fs k a c b hn hg hu hx hy h ih =>
    obtain ⟨k', hu⟩ := hu
    have hn' : f.name ≠ "_" := by simpa using hn
    simp only [Op.eqFields, hn', ne_eq, not_false_eq_true, if_true, Sem.run_bind, part_one (hg w) hx, part_one (hg w) hy, Result.andThen_ok, Go.run_equalIn_int w (d + 1) f.type k k' a c hu, Sem.run_ite]
    by_cases he : a = c
    · subst he; simp [ih]
    · simp [he]
  | @bool f fs a c b hn hg hu hx hy h ih =>
    have hn' : f.name ≠ "_" := by simpa using hn
    simp only [Op.eqFields, hn', ne_eq, not_false_eq_true, if_true, Sem.run_bind, part_one (hg w) hx, part_one (hg w) hy, Result.andThen_ok, run_equalIn_bool' w (d + 1) f.type a c hu, Sem.run_ite]
    by_cases he : a = c
    · subst he; simp [ih]
    · simp [he]
  | @sub f fs us vs k fs' b b' hn hg hz hlx hly hx hy hu hp h' h ih =>
    have hn' : f.name ≠ "_" := by simpa using hn
    have hf : P.fieldsOf f.type = fs' := by simp [Program.fieldsOf, hu]
    have he : (Op.equalIn (d + 2) f.type (.agg us.toArray) (.agg vs.toArray)).run P w = .ok b' w := by
      rw [run_equalIn_agg w (d + 1) f.type us.toArray vs.toArray (by rw [hf]; exact hu) hp, hf]
      exact h'.run d w
    simp only [Op.eqFields, hn', ne_eq, not_false_eq_true, if_true, Sem.run_bind, part_agg (us := us) (hg w) (by rw [hlx]; exact hz w) (by rw [hlx]; exact hx), part_agg (us := vs) (hg w) (by rw [hly]; exact hz w) (by rw [hly]; exact hy), Result.andThen_ok, he, Sem.run_ite]
    cases b' with
    | true => simp [ih]
    | false => simp
theorem equal_structG {t : TypeId} {fs : Array Field} {xs ys : Array Value} {b : Bool} (hu : P.underlying t = some (.struct fs)) (hp : P.stoodInHeld t = false) (h : EqG P xs ys fs.toList b) (w : World) : (Op.equalIn 10000 t (.agg xs) (.agg ys)).run P w = .ok b w := by
  have hf : P.fieldsOf t = fs := by simp [Program.fieldsOf, hu]
  rw [show (10000 : Nat) = 9999 + 1 from rfl, run_equalIn_agg w 9999 t xs ys (by rw [hf]; exact hu) hp, hf]
  exact h.run 9997 w
end
end Go.Gx

namespace Go.Fw
open Go Go.Gx
section
variable {n : Nat} {ds : List Deferred} {e : EnvL} {H : World → Prop} {P : Program} {F : Fence} {Q : Exit → Act → World → Prop} {r : Option Nat} {ops : Array Oper} {rest : List Oper} {d : Nat} {v : Value} {ty : TypeId} {pos : String} {after : Array Edge}
theorem g_nt {ops : Array Oper} {K : Act → World → Prop} (h : G n ds e H K) : G n ds e H (wpListIn F 0 P ops (thenQ K Q) []) := g_nil (g_n_then h)
theorem g_sr {id : Nat} {l : List Oper} {y : Code} (h : G n ds e H (wpListIn F 0 P l.toArray (thenQ (y.wpIn F 0 P Q) Q) l)) : G n ds e H ((Code.seq (Code.region id l.toArray false) y).wpIn F 0 P Q) := g_seq (g_region h)
theorem g_nx {ops : Array Oper} {id : Nat} {l : List Oper} {y : Code} {Q' : Exit → Act → World → Prop} (h : G n ds e H (wpListIn F 0 P l.toArray (thenQ (y.wpIn F 0 P Q) Q) l)) : G n ds e H (wpListIn F 0 P ops (thenQ ((Code.seq (Code.region id l.toArray false) y).wpIn F 0 P Q) Q') []) := g_nil (g_n_then (g_seq (g_region h)))
theorem g_mv {x : Operand} (hn : Nat.blt d n = true) (hx : ev e x = some v) (h : G n ds ((d, v) :: e) H (wpListIn (fw r) 0 P ops Q rest)) : G n ds e H (wpListIn (fw r) 0 P ops Q (⟨some d, .move x, ty, pos, after, none⟩ :: rest)) := g_val rfl rfl hn (fun _ _ => v_move hx) h
theorem g_as {x : Operand} (hn : Nat.blt d n = true) (hx : ev e x = some v) (h : G n ds ((d, v) :: e) H (wpListIn (fw r) 0 P ops Q rest)) : G n ds e H (wpListIn (fw r) 0 P ops Q (⟨some d, .assign x, ty, pos, after, none⟩ :: rest)) := g_val rfl rfl hn (fun _ _ => v_assign hx) h
theorem g_xt {x : Operand} {i : Nat} {vs : Array Value} (hn : Nat.blt d n = true) (hx : ev e x = some (.tuple vs)) (hi : vs.toList[i]? = some v) (h : G n ds ((d, v) :: e) H (wpListIn (fw r) 0 P ops Q rest)) : G n ds e H (wpListIn (fw r) 0 P ops Q (⟨some d, .extract x i, ty, pos, after, none⟩ :: rest)) := g_val rfl rfl hn (fun _ _ => v_extract hx hi) h
theorem g_pt {c x y : Operand} (hn : Nat.blt d n = true) (hc : ev e c = some (.bool true)) (hx : ev e x = some v) (h : G n ds ((d, v) :: e) H (wpListIn (fw r) 0 P ops Q rest)) : G n ds e H (wpListIn (fw r) 0 P ops Q (⟨some d, .pick c x y, ty, pos, after, none⟩ :: rest)) := g_val rfl rfl hn (fun _ _ => v_pickT hc hx) h
theorem g_pf {c x y : Operand} (hn : Nat.blt d n = true) (hc : ev e c = some (.bool false)) (hy : ev e y = some v) (h : G n ds ((d, v) :: e) H (wpListIn (fw r) 0 P ops Q rest)) : G n ds e H (wpListIn (fw r) 0 P ops Q (⟨some d, .pick c x y, ty, pos, after, none⟩ :: rest)) := g_val rfl rfl hn (fun _ _ => v_pickF hc hy) h
theorem g_ac {t u : TypeId} {x y : Operand} {a b c : Int} (hm : addc a b = some c) (hn : Nat.blt d n = true) (hx : ev e x = some (.int .i64 a)) (hy : ev e y = some (.int .i64 b)) (h : G n ds ((d, .int .i64 c) :: e) H (wpListIn (fw r) 0 P ops Q rest)) : G n ds e H (wpListIn (fw r) 0 P ops Q (⟨some d, .binOp .add t x y u, ty, pos, after, none⟩ :: rest)) := g_val rfl rfl hn (fun _ _ => v_addc hm hx hy) h
theorem g_ls {t u : TypeId} {x y : Operand} {k : IntKind} {m m' : Int} (hn : Nat.blt d n = true) (hx : ev e x = some (.int k m)) (hy : ev e y = some (.int k m')) (h : G n ds ((d, .bool (decide (m < m'))) :: e) H (wpListIn (fw r) 0 P ops Q rest)) : G n ds e H (wpListIn (fw r) 0 P ops Q (⟨some d, .binOp .lss t x y u, ty, pos, after, none⟩ :: rest)) := g_val rfl rfl hn (fun _ _ => v_lss hx hy) h
theorem g_fa {s T : TypeId} {x : Operand} {f b o sz : Nat} {fs : Array Field} (k : Nat) (hu : ∀ w, (underlying s).run P w = .ok (.struct fs) w) (hf : (fs[f]?).map (fun fd => (fd.type, fd.offset)) = some (T, k)) (hz : ∀ w, (sizeOf T).run P w = .ok (sz + 1) w) (hx : ev e x = some (ptr b o)) (hn : Nat.blt d n = true) (h : G n ds ((d, ptr b (o + k)) :: e) H (wpListIn (fw r) 0 P ops Q rest)) : G n ds e H (wpListIn (fw r) 0 P ops Q (⟨some d, .fieldAddr s x f, ty, pos, after, none⟩ :: rest)) := g_val rfl rfl hn (fun w _ => v_fieldAddr k (hu w) hf (hz w) hx) h
end
end Go.Fw
namespace Go.Gx
open Go Go.Fw
theorem g_lc {n : Nat} {ds : List Deferred} {e : EnvL} {w0 : World} {M : List Nat} {S : List (Nat × Obj)} {vs : List VR} {ro : List (Nat × Nat × List Value)} {P : Program} {Q : Exit → Act → World → Prop} {r : Option Nat} {ops : Array Oper} {rest : List Oper} {d : Nat} {v : Value} {ty : TypeId} {pos : String} {after : Array Edge} {t T : TypeId} {x : Operand} {b o : Nat} {cs : Array Value} {fr : Nat × Nat} (i : Nat) (hg' : ∀ w, (isAgg t).run P w = .ok false w) (hx : ev e x = some (ptr b o)) (hn : Nat.blt d n = true) (hi : S[i]? = some (b, .cells cs T fr)) (hv : cs.toList[o]? = some v) (h : G n ds ((d, v) :: e) (HV w0 M S vs ro) (wpListIn (fw r) 0 P ops Q rest)) : G n ds e (HV w0 M S vs ro) (wpListIn (fw r) 0 P ops Q (⟨some d, .load t x, ty, pos, after, none⟩ :: rest)) := g_val rfl rfl hn (fun w hh => v_load (hg' w) hx (hh.cell i hi hv)) h
theorem sE {e : EnvL} : ∀ {e' : EnvL}, e'.map (fun p => lk e p.1) = e'.map (fun p => some p.2) → Sub e e'
  | [], _ => .nil
  | (t, v) :: l, h => by
    simp only [List.map_cons, List.cons.injEq] at h
    exact .cons h.1 (sE h.2)
def ndB : List Nat → Bool
  | [] => true
  | x :: l => !(l.any (Nat.beq x)) && ndB l
theorem ndB_ok : ∀ {l : List Nat}, ndB l = true → l.Nodup
  | [], _ => List.nodup_nil
  | x :: l, h => by
    unfold ndB at h
    rw [Bool.and_eq_true, Bool.not_eq_true'] at h
    refine List.nodup_cons.2 ⟨fun hx => ?_, ndB_ok h.2⟩
    rw [List.any_eq_false] at h
    exact h.1 x hx (Nat.beq_refl x)
section
variable {w0 w : World} {M : List Nat} {S S' : List (Nat × Obj)} {vs vs' : List VR} {ro ro' : List Sg}
theorem HV.se (h : HV w0 M S vs ro w) (iS iV : List Nat) (k : Nat) (hn : (ndB iS && ndB iV) = true) (hS : iS.map (fun i => S[i]?) = S'.map some) (hV : iV.map (fun i => vs[i]?) = vs'.map some) (hr : ro.drop k = ro') : HV w0 M S' vs' ro' w :=
  h.sel iS iV k (ndB_ok (Bool.and_eq_true_iff.1 hn).1) (ndB_ok (Bool.and_eq_true_iff.1 hn).2) hS hV hr
theorem g_se {n : Nat} {ds : List Deferred} {e : EnvL} {X : Act → World → Prop} (iS iV : List Nat) (k : Nat) (hn : (ndB iS && ndB iV) = true) (hS : iS.map (fun i => S[i]?) = S'.map some) (hV : iV.map (fun i => vs[i]?) = vs'.map some) (hr : ro.drop k = ro') (h : G n ds e (HV w0 M S' vs' ro') X) : G n ds e (HV w0 M S vs ro) X :=
  h.pre fun _ hh => hh.se iS iV k hn hS hV hr
theorem g_en {n : Nat} {P : Program} {f : FuncId} {fn : Func} {c : Code} {args : List Value} {R : Ending → World → Prop} {e : EnvL}
    (hf : P.funcs[f]? = some fn) (hb : fn.body = some c) (hn : fn.ntmps = n) (hl : Nat.ble args.length n = true) (he : argEnv 0 args = e) (hw : HV w M S vs ro w)
    (h : G n [] e (HV w M S vs ro) (c.wpIn (fw none) 0 P (bodyPost P fn R))) : Calls P f args.toArray w R := g_enter hf hb hn hl he hw h
theorem g_k {n : Nat} {ds : List Deferred} {e : EnvL} {H : World → Prop} {P : Program} {Q : Exit → Act → World → Prop} {r : Option Nat} {ops : Array Oper} {rest : List Oper} {d : Nat} {op : Op} {ty : TypeId} {pos : String} {after : Array Edge} {j t : Nat} {want b : Bool} (hj : (ops[j]?).bind (·.dst) = some t) (ht : lk e t = some (.bool b)) (hb : (b == want) = false) (hn : Nat.blt d n = true)
    (h : G n ds ((d, undef) :: e) H (wpListIn (fw r) 0 P ops Q rest)) : G n ds e H (wpListIn (fw r) 0 P ops Q (⟨some d, op, ty, pos, after, some (j, want)⟩ :: rest)) := g_skipG rfl rfl hj ht hb hn h
end
section
variable {n : Nat} {ds : List Deferred} {e : EnvL} {w0 : World} {M : List Nat} {S : List (Nat × Obj)} {vs : List VR} {ro : List Sg} {P : Program} {Q : Exit → Act → World → Prop} {r : Option Nat} {ops : Array Oper} {rest : List Oper} {d : Nat} {v : Value} {ty : TypeId} {pos : String} {after : Array Edge} {t T : TypeId} {x : Operand} {b o : Nat} {cs : Array Value} {fr : Nat × Nat} {us : List Value}
theorem g_la (us : List Value) (i : Nat) (hg' : ∀ w, (isAgg t).run P w = .ok true w) (hz : ∀ w, (sizeOf t).run P w = .ok us.length w) (hx : ev e x = some (ptr b o)) (hn : Nat.blt d n = true) (hi : S[i]? = some (b, .cells cs T fr)) (hv : (cs.toList.drop o).take us.length = us) (h : G n ds ((d, .agg us.toArray) :: e) (HV w0 M S vs ro) (wpListIn (fw r) 0 P ops Q rest)) : G n ds e (HV w0 M S vs ro) (wpListIn (fw r) 0 P ops Q (⟨some d, .load t x, ty, pos, after, none⟩ :: rest)) := g_val rfl rfl hn (fun w hh => v_loadAgg (vs := us) (hg' w) (hz w) hx (hh.cells i hi hv)) h
theorem roR {w : World} {S0 : List (Nat × Obj)} {vs0 : List VR} {s : Sg} {ro' : List Sg} (h : HV w0 M (S0 ++ S) (vs0 ++ vs) ro w) (i : Nat) (hi : ro[i]? = some s) (hr : ∀ t, t ∈ ro' → segOK w t ∧ (t.2.2 ≠ [] → t.1 ∉ keys S0 vs0)) : ∀ t, t ∈ s :: ro' → segOK w t ∧ (t.2.2 ≠ [] → t.1 ∉ keys S0 vs0) := roC (h.rsep i hi) hr
end
theorem hsE {w0 : World} {M : List Nat} {S S' : List (Nat × Obj)} {vs vs' : List VR} {ro ro' : List Sg} (iS iV : List Nat) (k : Nat) (hn : (ndB iS && ndB iV) = true) (hS : iS.map (fun i => S[i]?) = S'.map some) (hV : iV.map (fun i => vs[i]?) = vs'.map some) (hr : ro.drop k = ro') : ∀ w, HV w0 M S vs ro w → HV w0 M S' vs' ro' w := fun _ h => h.se iS iV k hn hS hV hr
section
variable {n : Nat} {ds : List Deferred} {e : EnvL} {P : Program} {r : Option Nat} {ops : Array Oper} {C : World → Prop} {X : Act → World → Prop} {i d : Nat} {p : Plan} {v : Value} {ty : TypeId} {pos : String} {after : Array Edge} {H : World → Prop}
theorem p_mv {x : Operand} (ho : ops[i]? = some ⟨some d, .move x, ty, pos, after, none⟩) (hn : Nat.blt d n = true) (hx : ev e x = some v) (h : G n ds ((d, v) :: e) H (walk r P ops C X p)) : G n ds e H (walk r P ops C X (.free i p)) := p_free ho rfl rfl hn (fun _ _ => v_move hx) h
theorem p_fa {s T : TypeId} {x : Operand} {f b o sz : Nat} {fs : Array Field} (k : Nat) (hu : ∀ w, (underlying s).run P w = .ok (.struct fs) w) (hz : ∀ w, (sizeOf T).run P w = .ok (sz + 1) w) (ho : ops[i]? = some ⟨some d, .fieldAddr s x f, ty, pos, after, none⟩) (hf : (fs[f]?).map (fun fd => (fd.type, fd.offset)) = some (T, k)) (hn : Nat.blt d n = true) (hx : ev e x = some (ptr b o)) (h : G n ds ((d, ptr b (o + k)) :: e) H (walk r P ops C X p)) : G n ds e H (walk r P ops C X (.free i p)) := p_free ho rfl rfl hn (fun w _ => v_fieldAddr k (hu w) hf (hz w) hx) h
theorem p_lc {w0 : World} {M : List Nat} {S : List (Nat × Obj)} {vs : List VR} {ro : List Sg} {t T : TypeId} {x : Operand} {b o : Nat} {cs : Array Value} {fr : Nat × Nat} (j : Nat) (hg' : ∀ w, (isAgg t).run P w = .ok false w) (ho : ops[i]? = some ⟨some d, .load t x, ty, pos, after, none⟩) (hx : ev e x = some (ptr b o)) (hn : Nat.blt d n = true) (hi : S[j]? = some (b, .cells cs T fr)) (hv : cs.toList[o]? = some v) (h : G n ds ((d, v) :: e) H (walk r P ops (HV w0 M S vs ro) X p)) : G n ds e H (walk r P ops (HV w0 M S vs ro) X (.hoist i p)) := p_hoist ho rfl rfl hn (fun w hh => v_load (hg' w) hx (hh.cell j hi hv)) h
end
theorem sj {α : Type} {a b : α} (h : some a = some b) : a = b := Option.some.inj h
theorem ifN {α : Type} {x : Bool} {a b r : α} (hx : x = false) (h : (if x = true then a else b) = r) : b = r := ifF (fun hh => Bool.noConfusion (hx.symm.trans hh)) h
theorem ifE {α : Type} {c : Prop} [Decidable c] {a b r : α} (hc : decide c = false) (h : (if c then a else b) = r) : b = r := ifF (of_decide_eq_false hc) h
theorem ifD {α : Type} {c : Prop} [Decidable c] {a b r : α} (hc : decide c = true) (h : (if c then a else b) = r) : a = r := ifT (of_decide_eq_true hc) h
end Go.Gx

namespace Go.Proofs.Ws
set_option maxHeartbeats 4000000
set_option maxRecDepth 100000
open Go Go.Fw Go.Gx Go.Sp
set_option linter.unusedVariables false
theorem gxinf3 : (Tryz.prog.info? 3).map (fun i => (i.zero, i.size, i.bytes)) = some (some (.int .i64 0), 1, 8) := by kernel_rfl
theorem gxinf26 : (Tryz.prog.info? 26).map (fun i => (i.zero, i.size, i.bytes)) = some (some (.slice none 0 0), 1, 24) := by kernel_rfl
theorem gxinf32 : (Tryz.prog.info? 32).map (fun i => (i.zero, i.size, i.bytes)) = some (some (.agg #[.int .i64 0, .int .i64 0]), 2, 16) := by kernel_rfl
theorem gxinf62 : (Tryz.prog.info? 62).map (fun i => (i.zero, i.size, i.bytes)) = some (some (.int .i64 0), 1, 8) := by kernel_rfl
theorem gxinf85 : (Tryz.prog.info? 85).map (fun i => (i.zero, i.size, i.bytes)) = some (some (.agg #[.int .i64 0, .int .i64 0, .int .i64 0, .int .i64 0, .int .i64 0, .int .i64 0, .int .i64 0]), 7, 56) := by kernel_rfl
theorem gxinf156 : (Tryz.prog.info? 156).map (fun i => (i.zero, i.size, i.bytes)) = some (some (.agg #[.int .i64 0, .int .i64 0, .int .i64 0, .int .i64 0, .int .i64 0, .int .i64 0]), 6, 48) := by kernel_rfl
theorem gxinf164 : (Tryz.prog.info? 164).map (fun i => (i.zero, i.size, i.bytes)) = some (some (.agg #[.int .i64 0, .bool false]), 2, 16) := by kernel_rfl
theorem gxsz32 : (Tryz.prog.info? 32).map (fun i => i.size) = some 2 := by kernel_rfl
theorem gxeqg158 : Tryz.prog.eqGuardType Tryz.prog.depth 158 = false := by decide +kernel
theorem gxeqg32 : Tryz.prog.eqGuardType Tryz.prog.depth 32 = false := by decide +kernel
theorem gxsth32 : Tryz.prog.stoodInHeld 32 = false := by decide +kernel
theorem gxeq32 (x y : Span) (w : World) : (Op.equalIn 10000 32 (.agg (RSp.cells x).toArray) (.agg (RSp.cells y).toArray)).run Tryz.prog w = .ok (decide (x = y)) w := by
  have h := equal_struct (xs := (RSp.cells x).toArray) (ys := (RSp.cells y).toArray) Tryz.underlying32 gxsth32 (.int rfl (fun w => Tryz.isAgg3 w) ⟨_, Tryz.underlying3⟩ rfl rfl (.int rfl (fun w => Tryz.isAgg3 w) ⟨_, Tryz.underlying3⟩ rfl rfl .nil)) w
  rw [h]
  congr 1
  cases x; cases y
  rw [Bool.eq_iff_iff]
  simp only [Bool.and_eq_true, decide_eq_true_eq, Span.mk.injEq, and_true]
theorem gxsth126 : Tryz.prog.stoodInHeld 126 = false := by decide +kernel
theorem gxeq126 (x y : Pair) (w : World) : (Op.equalIn 10000 126 (.agg (RPr.cells x).toArray) (.agg (RPr.cells y).toArray)).run Tryz.prog w = .ok (decide (x = y)) w := by
  have h := equal_struct (xs := (RPr.cells x).toArray) (ys := (RPr.cells y).toArray) Tryz.underlying126 gxsth126 (.int rfl (fun w => Tryz.isAgg3 w) ⟨_, Tryz.underlying3⟩ rfl rfl (.int rfl (fun w => Tryz.isAgg3 w) ⟨_, Tryz.underlying3⟩ rfl rfl .nil)) w
  rw [h]
  congr 1
  cases x; cases y
  rw [Bool.eq_iff_iff]
  simp only [Bool.and_eq_true, decide_eq_true_eq, Pair.mk.injEq, and_true]
theorem gxkey126 : KeyOK Tryz.prog 126 (kR RPr) := KeyOK.row RPr (fun w => Tryz.runUnderlying126 w) (fun x => (.int (fun w => Tryz.isAgg3 w) (fun w => Tryz.runUnderlying3 w) rfl (.int (fun w => Tryz.isAgg3 w) (fun w => Tryz.runUnderlying3 w) rfl .nil))) gxeq126 (fun x => by cases x; simp [RPr, Instr.sameBits])
def m_laurellaw09_Three (lo0 : Int) (hi1 : Int) : Option Scalps :=
 some (⟨[(⟨0, (⟨10, 10⟩ : Span), (⟨0, 0⟩ : Span), (⟨0, 0⟩ : Span)⟩ : Strip), (⟨1, (⟨10, 10⟩ : Span), (⟨0, 0⟩ : Span), (⟨4, 6⟩ : Span)⟩ : Strip), (⟨0, (⟨10, 10⟩ : Span), (⟨0, 0⟩ : Span), (⟨0, 0⟩ : Span)⟩ : Strip)], [(⟨lo0, hi1⟩ : Span), (⟨0, 3⟩ : Span)]⟩ : Scalps)
theorem c_laurellaw09_Three (lo0 : Int) (hi1 : Int)  (w : World) (hw : HV w (keys [] []) [] [] [] w)  {res : Scalps} (hm : m_laurellaw09_Three lo0 hi1 = some res) :
    Calls Tryz.prog 46 #[.int .i64 lo0, .int .i64 hi1] w (fun en w' => ∃ l : VL × VL, en = .returned (.agg #[slv l.1.q l.1.n l.1.cap, slv l.2.q l.2.n l.2.cap]) ∧ (VOK 7 l.1.n l.1.cap (RSt.enc res.strips) l.1.sp l.1.q ∧ VOK 2 l.2.n l.2.cap (RSp.enc res.carried) l.2.sp l.2.q) ∧ HV w (keys [] []) [] [⟨85, RSt.enc res.strips, l.1.sp, l.1.q, []⟩, ⟨32, RSp.enc res.carried, l.2.sp, l.2.q, []⟩] [] w') := by
  unfold m_laurellaw09_Three at hm
  refine g_en Tryz.func46 rfl Tryz.ntmps46 rfl (e := [(0, _), (1, _)]) rfl hw (g_sr ?_)
  refine g_allocV (fun w => Tryz.zeroValue25 w) rfl (fun b h3 => ?_)
  refine g_nx (g_val rfl rfl rfl (fun _ _ => v_build (vs := [(0, _), (1, _)]) (cells := [_, _]) rfl rfl) ?_)
  refine g_allocV (fun w => Tryz.zeroValue32 w) rfl (fun b_1 h4 => ?_)
  refine g_stSA (us := #[_, _]) (cs' := [_, _]) (S' := [_, _]) 0 (fun w => Tryz.sizeOf32 w) rfl rfl rfl rfl rfl rfl rfl (g_nx (g_la [_, _] 0 Tryz.isAgg32 Tryz.sizeOf32 rfl rfl rfl rfl (g_val rfl rfl rfl (fun _ _ => v_build (vs := [(1, _)]) (cells := [_, _, _, _, _, _, _]) rfl rfl) (g_la [_, _] 0 Tryz.isAgg32 Tryz.sizeOf32 rfl rfl rfl rfl (g_val rfl rfl rfl (fun _ _ => v_build (vs := [(0, _), (1, _)]) (cells := [_, _]) rfl rfl) (g_val rfl rfl rfl (fun _ _ => v_build (vs := [(0, _), (1, _), (3, _)]) (cells := [_, _, _, _, _, _, _]) rfl rfl) (g_la [_, _] 0 Tryz.isAgg32 Tryz.sizeOf32 rfl rfl rfl rfl ?_)))))))
  refine g_val rfl rfl rfl (fun _ _ => v_build (vs := [(1, _)]) (cells := [_, _, _, _, _, _, _]) rfl rfl) ?_
  refine g_vlit RSt [(⟨0, (⟨10, 10⟩ : Span), (⟨0, 0⟩ : Span), (⟨0, 0⟩ : Span)⟩ : Strip), (⟨1, (⟨10, 10⟩ : Span), (⟨0, 0⟩ : Span), (⟨4, 6⟩ : Span)⟩ : Strip), (⟨0, (⟨10, 10⟩ : Span), (⟨0, 0⟩ : Span), (⟨0, 0⟩ : Span)⟩ : Strip)] (ps := [(0, _), (1, _), (2, _)]) (cells := [_, _, _, _, _, _, _, _, _, _, _, _, _, _, _, _, _, _, _, _, _]) (fun w => Tryz.runUnderlying22 w) (fun w => Tryz.sizeOf85 w) (fun w => Tryz.zeroValue85 w) rfl rfl rfl rfl rfl rfl rfl rfl (fun L h5 => ?_)
  refine g_mv rfl rfl (g_mv rfl rfl (g_val rfl rfl rfl (fun _ _ => v_build (vs := [(0, _), (1, _)]) (cells := [_, _]) rfl rfl) (g_val rfl rfl rfl (fun _ _ => v_build (vs := [(1, _)]) (cells := [_, _]) rfl rfl) ?_)))
  refine g_vlit RSp [(⟨lo0, hi1⟩ : Span), (⟨0, 3⟩ : Span)] (ps := [(0, _), (1, _)]) (cells := [_, _, _, _]) (fun w => Tryz.runUnderlying23 w) (fun w => Tryz.sizeOf32 w) (fun w => Tryz.zeroValue32 w) rfl rfl rfl rfl rfl rfl rfl rfl (fun L_1 h6 => ?_)
  refine g_val rfl rfl rfl (fun _ _ => v_build (vs := [(0, _), (1, _)]) (cells := [_, _]) rfl rfl) (g_stSA (us := #[_, _]) (cs' := [_, _]) (S' := [_, _]) 1 (fun w => Tryz.sizeOf25 w) rfl rfl rfl rfl rfl rfl rfl (g_nt (g_ret ?_)))
  obtain rfl := sj hm
  refine g_done rfl (fun w hh => (.cell rfl (loadVar_agg (vs := [_, _]) (Tryz.isAgg25 _) (Tryz.sizeOf25 _) (hh.cells 1 rfl rfl)) .nil)) (fun w hh => ⟨(L, L_1), rfl, ⟨h5, h6⟩, hh.se [] [1, 0] 0 rfl rfl rfl rfl⟩)
def m_strip_in (n0 : Int) (lo1 : Int) (hi2 : Int) : Option Bool :=
 (if lo1 ≤ n0 then
 (some (decide (n0 ≤ hi2))) else
 (some false)).bind fun o =>
 some o
theorem c_strip_in (n0 : Int) (lo1 : Int) (hi2 : Int)  (w : World) (hw : HV w (keys [] []) [] [] [] w)  {res : Bool} (hm : m_strip_in n0 lo1 hi2 = some res) :
    Calls Tryz.prog 62 #[.int .i64 n0, .int .i64 lo1, .int .i64 hi2] w (fun en w' => ∃ l : Unit, en = .returned (.bool res) ∧ (True) ∧ HV w (keys [] []) [] [] [] w') := by
  unfold m_strip_in at hm
  refine g_en Tryz.func62 rfl Tryz.ntmps62 rfl (e := [(0, _), (1, _), (2, _)]) rfl hw (g_sr (g_as rfl rfl (g_nt (g_seq ?_))))
  obtain ⟨o, h1, h2⟩ := bindO hm
  refine g_cut (ι := Unit) (fun l => True) (fun l => [(6, .bool o)]) (fun l => []) (fun l => []) ?_ ?_
  ·replace hm := h1
   refine g_region (g_mv rfl rfl (g_mv rfl rfl (g_val rfl rfl rfl (fun _ _ => v_geq rfl rfl) (g_mv rfl rfl ?_))))
   refine g_case 10 rfl (fun h3 => ?_) (fun h3 => ?_)
   ·replace hm := ifD h3 hm
    refine v_unguard rfl rfl (g_mv rfl rfl (v_unguard rfl rfl (g_mv rfl rfl (v_unguard rfl rfl (g_val rfl rfl rfl (fun _ _ => v_leq rfl rfl) (g_pt rfl rfl rfl (g_as rfl rfl ?_)))))))
    refine g_nil ?_
    obtain rfl := sj hm
    exact g_leaf () (trivial) (sE rfl) (fun w hh => hh)
   ·replace hm := ifE h3 hm
    refine g_k rfl rfl rfl rfl (g_k rfl rfl rfl rfl (g_k rfl rfl rfl rfl (g_pf rfl rfl rfl (g_as rfl rfl (g_nil ?_)))))
    obtain rfl := sj hm
    exact g_leaf () (trivial) (sE rfl) (fun w hh => hh)
  ·intro l hj
   replace hm := h2
   refine g_n_then (g_ret ?_)
   obtain rfl := sj hm
   refine g_done rfl (fun w hh => (.tmp rfl .nil)) (fun w hh => ⟨(), rfl, trivial, hh⟩)
def m_slices_Clone_apiSpanapiSpan (s0 : (List Span)) : Option (List Span) :=
 if 0 < (s0.length : Int) then ((appc 16 [] s0).bind fun t7 =>
 some t7) else none
theorem c_slices_Clone_apiSpanapiSpan (s0 : (List Span)) (qa0 : Option Addr) (na0 ca0 : Nat) (w : World) (hw : HV w (keys [] []) [] [] [(aB qa0, aO qa0, RSp.enc s0)] w) (hna0 : s0.length = na0) (hqa0 : AOK na0 qa0) (hla0 : na0 ≤ ca0) {res : (List Span)} (hm : m_slices_Clone_apiSpanapiSpan s0 = some res) :
    Calls Tryz.prog 123 #[.slice qa0 na0 ca0] w (fun en w' => ∃ l : VL, en = .returned (slv l.q l.n l.cap) ∧ (VOK 2 l.n l.cap (RSp.enc res) l.sp l.q) ∧ HV w (keys [] []) [] [⟨32, RSp.enc res, l.sp, l.q, []⟩] [] w') := by
  unfold m_slices_Clone_apiSpanapiSpan at hm
  refine g_en Tryz.func123 rfl Tryz.ntmps123 rfl (e := [(0, _)]) rfl hw (g_sr (g_val rfl rfl rfl (fun _ _ => v_nilS rfl) (g_nt (g_seq (g_sr (g_mv rfl rfl ?_))))))
  obtain ⟨h2, hm⟩ := ifO hm
  refine g_val rfl rfl rfl (fun w _ => v_eqlNe hqa0 (len_posN hna0 h2) (Tryz.runUnderlying23 w) rfl rfl) (g_nt (g_condF rfl rfl (g_skip (g_n_then (g_sr ?_)))))
  refine g_vlit0 RSp (fun w => Tryz.runUnderlying23 w) (fun w => Tryz.sizeOf32 w) rfl rfl (fun L h3 => ?_)
  refine g_mv rfl rfl ?_
  obtain ⟨t7, h4, hm⟩ := bindO hm
  refine g_vapp RSp 0 h4 Tryz.underlying23 gxinf32 rfl rfl rfl rfl rfl h3 rfl rfl hna0 hqa0 (fun w hh => (hh.seg 0 rfl)) rfl (fun L_1 h5 h5n => ?_)
  refine g_se (S' := []) (vs' := [_]) [] [0] 0 rfl rfl rfl rfl (g_as rfl rfl (g_nt (g_ret ?_)))
  obtain rfl := sj hm
  refine g_done rfl (fun w hh => (.tmp rfl .nil)) (fun w hh => ⟨L_1, rfl, h5, hh.se [] [0] 1 rfl rfl rfl rfl⟩)
structure m_strip_Scalps_spans_S0 where
  t12 : Int
  out3 : (List Span)
def m_strip_Scalps_spans_L0 (s0 : Scalps) (s : m_strip_Scalps_spans_S0) : Option (m_strip_Scalps_spans_S0 ⊕ (List Span)) :=
 if s.t12 < (s0.strips.length : Int) then
 ((ix s0.strips s.t12).bind fun t14 =>
 (appc 16 s.out3 [(⟨t14.lay.lo, t14.lay.hi⟩ : Span), (⟨t14.seeded.lo, t14.seeded.hi⟩ : Span), (⟨t14.left.lo, t14.left.hi⟩ : Span)]).bind fun t24 =>
 (addc s.t12 1).bind fun t25 =>
 some (.inl (⟨t25, t24⟩ : m_strip_Scalps_spans_S0))) else
 (some (.inr s.out3))
def m_strip_Scalps_spans (s0 : Scalps) : Option (List Span) :=
 (m_slices_Clone_apiSpanapiSpan s0.carried).bind fun t8 =>
 (iterM FU (m_strip_Scalps_spans_L0 s0) (⟨0, t8⟩ : m_strip_Scalps_spans_S0)).bind fun o =>
 some o
theorem c_strip_Scalps_spans (s0 : Scalps) (qa0 : Option Addr) (na0 ca0 : Nat) (qa1 : Option Addr) (na1 ca1 : Nat) (w : World) (hw : HV w (keys [] []) [] [] [(aB qa0, aO qa0, RSt.enc s0.strips), (aB qa1, aO qa1, RSp.enc s0.carried)] w) (hna0 : s0.strips.length = na0) (hqa0 : AOK na0 qa0) (hla0 : na0 ≤ ca0) (hna1 : s0.carried.length = na1) (hqa1 : AOK na1 qa1) (hla1 : na1 ≤ ca1) {res : (List Span)} (hm : m_strip_Scalps_spans s0 = some res) :
    Calls Tryz.prog 88 #[.agg #[.slice qa0 na0 ca0, .slice qa1 na1 ca1]] w (fun en w' => ∃ l : VL, en = .returned (slv l.q l.n l.cap) ∧ (VOK 2 l.n l.cap (RSp.enc res) l.sp l.q) ∧ HV w (keys [] []) [] [⟨32, RSp.enc res, l.sp, l.q, []⟩] [] w') := by
  unfold m_strip_Scalps_spans at hm
  refine g_en Tryz.func88 rfl Tryz.ntmps88 rfl (e := [(0, _)]) rfl hw (g_sr ?_)
  refine g_boxV rfl rfl (fun b h2 => ?_)
  refine g_val rfl rfl rfl (fun _ _ => v_nilS rfl) (g_nx (g_fa 1 Tryz.runUnderlying25 rfl Tryz.sizeOf23 rfl rfl (g_lc 0 Tryz.isAgg23 rfl rfl rfl rfl ?_)))
  obtain ⟨t8, h3, hm⟩ := bindO hm
  refine g_callH [] [] rfl rfl rfl rfl rfl rfl rfl Tryz.call123 (fun w hh => c_slices_Clone_apiSpanapiSpan s0.carried qa1 na1 ca1 w (HV.callee (S0 := []) (vs0 := []) hh (roR hh 1 rfl roN)) hna1 hqa1 hla1 h3) (fun l h4 => ?_)
  have h5 := h4
  refine g_se (S' := [_]) (vs' := [_]) [0] [0] 0 rfl rfl rfl rfl (g_as rfl rfl (g_nt (g_seq (g_sr (g_fa 0 Tryz.runUnderlying25 rfl Tryz.sizeOf22 rfl rfl (g_lc 0 Tryz.isAgg22 rfl rfl rfl rfl (g_val rfl rfl rfl (fun w _ => v_lenR hna0 (Tryz.runUnderlying22 w) rfl) ?_)))))))
  refine g_mv rfl rfl (g_nt ?_)
  obtain ⟨o, h6, h7⟩ := bindO hm
  refine g_cut (ι := VL) (fun l_1 => VOK 2 l_1.n l_1.cap (RSp.enc o) l_1.sp l_1.q) (fun l_1 => [(3, slv l_1.q l_1.n l_1.cap)]) (fun l_1 => [(b, .cells #[.slice qa0 na0 ca0, .slice qa1 na1 ca1] 25 (0, 0))]) (fun l_1 => [⟨32, RSp.enc o, l_1.sp, l_1.q, []⟩]) ?_ ?_
  ·replace hm := h6
   refine g_block ?_
   refine g_loopF (ι := VL) hm (fun s l_2 => VOK 2 l_2.n l_2.cap (RSp.enc s.out3) l_2.sp l_2.q) (fun s l_2 => [(3, slv l_2.q l_2.n l_2.cap), (10, .slice qa0 na0 ca0), (11, .int .i64 (s0.strips.length : Int)), (12, .int .i64 s.t12)]) (fun s l_2 => [(b, .cells #[.slice qa0 na0 ca0, .slice qa1 na1 ca1] 25 (0, 0))]) (fun s l_2 => [⟨32, RSp.enc s.out3, l_2.sp, l_2.q, []⟩]) l (h5) (sE rfl) (fun w hh => hh) (fun s l_2 r hpl hm h10 => ?_)
   have h9 := hpl
   unfold m_strip_Scalps_spans_L0 at hm
   refine g_sr (g_ls rfl rfl rfl (g_nt (g_seq ?_)))
   refine g_cond rfl (fun h11 => ?_) (fun h11 => ?_)
   ·replace hm := ifD h11 hm
    refine g_skip (g_n_then (g_seq (g_block (g_sr ?_))))
    obtain ⟨t14, h12, hm⟩ := bindO hm
    refine g_val rfl rfl rfl (fun w _ => v_ixR h12 (Tryz.runUnderlying22 w) (Tryz.sizeOf85 w) rfl rfl hna0 hqa0) ?_
    refine g_val rfl rfl rfl (fun w hh => v_ldEA RSt 0 [.int .i64 t14.tenant, .int .i64 t14.lay.lo, .int .i64 t14.lay.hi, .int .i64 t14.seeded.lo, .int .i64 t14.seeded.hi, .int .i64 t14.left.lo, .int .i64 t14.left.hi] h12 (Tryz.isAgg85 w) (Tryz.sizeOf85 w) rfl (hh.seg 0 rfl) rfl (Nat.add_zero _).symm) ?_
    refine g_allocV (fun w => Tryz.zeroValue85 w) rfl (fun b_1 h13 => ?_)
    refine g_stSA (us := #[_, _, _, _, _, _, _]) (cs' := [_, _, _, _, _, _, _]) (S' := [_, _]) 0 (fun w => Tryz.sizeOf85 w) rfl rfl rfl rfl rfl rfl rfl (g_nt (g_region (g_mv rfl rfl (g_fa 1 Tryz.runUnderlying85 rfl Tryz.sizeOf32 rfl rfl (g_la [_, _] 0 Tryz.isAgg32 Tryz.sizeOf32 rfl rfl rfl rfl (g_fa 3 Tryz.runUnderlying85 rfl Tryz.sizeOf32 rfl rfl (g_la [_, _] 0 Tryz.isAgg32 Tryz.sizeOf32 rfl rfl rfl rfl ?_)))))))
    refine g_fa 5 Tryz.runUnderlying85 rfl Tryz.sizeOf32 rfl rfl (g_la [_, _] 0 Tryz.isAgg32 Tryz.sizeOf32 rfl rfl rfl rfl ?_)
    refine g_vlit RSp [(⟨t14.lay.lo, t14.lay.hi⟩ : Span), (⟨t14.seeded.lo, t14.seeded.hi⟩ : Span), (⟨t14.left.lo, t14.left.hi⟩ : Span)] (ps := [(0, _), (1, _), (2, _)]) (cells := [_, _, _, _, _, _]) (fun w => Tryz.runUnderlying23 w) (fun w => Tryz.sizeOf32 w) (fun w => Tryz.zeroValue32 w) rfl rfl rfl rfl rfl rfl rfl rfl (fun L h14 => ?_)
    obtain ⟨t24, h15, hm⟩ := bindO hm
    refine g_vapp RSp 1 h15 Tryz.underlying23 gxinf32 rfl rfl rfl rfl rfl h9 rfl rfl (vlen RSp h14 rfl) (AOK.q (vne h14)) (fun w hh => (hh.vsegA 0 rfl h14)) rfl (fun L_1 h16 h16n => ?_)
    refine g_se (S' := [_, _]) (vs' := [_, _]) [0, 1] [0, 1] 0 rfl rfl rfl rfl (g_as rfl rfl (g_nil (g_n_blk (g_n_then (g_region ?_)))))
    obtain ⟨t25, h17, hm⟩ := bindO hm
    refine g_ac h17 rfl rfl rfl (g_mv rfl rfl (g_nil ?_))
    obtain rfl := sj hm
    refine g_n_then ?_
    exact g_again' _ L_1 rfl (h16) (sE rfl) (hsE [1] [1] 0 rfl rfl rfl rfl)
   ·replace hm := ifE h11 hm
    refine g_exit (g_x_then (g_x_then (g_x_blk ?_)))
    obtain rfl := sj hm
    have hbo := h10 _ rfl
    subst hbo
    exact g_leaf l_2 (h9) (sE rfl) (fun w hh => hh)
  ·intro l_1 hj
   have h8 := hj
   replace hm := h7
   refine g_n_then (g_sr (g_mv rfl rfl (g_as rfl rfl (g_nt (g_ret ?_)))))
   obtain rfl := sj hm
   refine g_done rfl (fun w hh => (.tmp rfl .nil)) (fun w hh => ⟨l_1, rfl, h8, hh.se [] [0] 2 rfl rfl rfl rfl⟩)
def m_strip_allowed (x0 : Span) : Option Bool :=
 ((m_strip_in x0.lo 0 30).bind fun t5 =>
 if t5 = true then
 ((m_strip_in x0.hi 0 30).bind fun t9 =>
 some t9) else
 (some false)).bind fun o =>
 some o
theorem c_strip_allowed (x0 : Span)  (w : World) (hw : HV w (keys [] []) [] [] [] w)  {res : Bool} (hm : m_strip_allowed x0 = some res) :
    Calls Tryz.prog 73 #[.agg #[.int .i64 x0.lo, .int .i64 x0.hi]] w (fun en w' => ∃ l : Unit, en = .returned (.bool res) ∧ (True) ∧ HV w (keys [] []) [] [] [] w') := by
  unfold m_strip_allowed at hm
  refine g_en Tryz.func73 rfl Tryz.ntmps73 rfl (e := [(0, _)]) rfl hw (g_sr ?_)
  refine g_boxV rfl rfl (fun b h1 => ?_)
  refine g_as rfl rfl (g_nt (g_seq ?_))
  obtain ⟨o, h2, h3⟩ := bindO hm
  refine g_cut (ι := Unit) (fun l => True) (fun l => [(2, .bool o)]) (fun l => [(b, .cells #[.int .i64 x0.lo, .int .i64 x0.hi] 32 (0, 0))]) (fun l => []) ?_ ?_
  ·replace hm := h2
   refine g_region (g_fa 0 Tryz.runUnderlying32 rfl Tryz.sizeOf3 rfl rfl (g_lc 0 Tryz.isAgg3 rfl rfl rfl rfl ?_))
   obtain ⟨t5, h4, hm⟩ := bindO hm
   refine g_callH [] [] rfl rfl rfl rfl rfl rfl rfl Tryz.call62 (fun w hh => c_strip_in x0.lo 0 30 w (HV.callee (S0 := []) (vs0 := []) hh roN)  h4) (fun l_1 h5 => ?_)
   refine g_mv rfl rfl ?_
   refine g_case 6 rfl (fun h6 => ?_) (fun h6 => ?_)
   ·replace hm := ifT (h6) hm
    refine v_unguard rfl rfl (g_fa 1 Tryz.runUnderlying32 rfl Tryz.sizeOf3 rfl rfl (v_unguard rfl rfl (g_lc 0 Tryz.isAgg3 rfl rfl rfl rfl (v_unguard rfl rfl ?_))))
    obtain ⟨t9, h7, hm⟩ := bindO hm
    refine g_callH [] [] rfl rfl rfl rfl rfl rfl rfl Tryz.call62 (fun w hh => c_strip_in x0.hi 0 30 w (HV.callee (S0 := []) (vs0 := []) hh roN)  h7) (fun l_2 h8 => ?_)
    refine g_pt rfl rfl rfl (g_as rfl rfl (g_nil ?_))
    obtain rfl := sj hm
    exact g_leaf () (trivial) (sE rfl) (fun w hh => hh)
   ·replace hm := ifN h6 hm
    refine g_k rfl rfl rfl rfl (g_k rfl rfl rfl rfl (g_k rfl rfl rfl rfl (g_pf rfl rfl rfl (g_as rfl rfl (g_nil ?_)))))
    obtain rfl := sj hm
    exact g_leaf () (trivial) (sE rfl) (fun w hh => hh)
  ·intro l hj
   replace hm := h3
   refine g_n_then (g_ret ?_)
   obtain rfl := sj hm
   refine g_done rfl (fun w hh => (.tmp rfl .nil)) (fun w hh => ⟨(), rfl, trivial, hh.se [] [] 0 rfl rfl rfl rfl⟩)
def m_strip_every_api_Span_1 (x0 : Span) : Option Bool :=
 (m_strip_allowed x0).bind fun t6 =>
 some (!t6)
theorem c_strip_every_api_Span_1 (x0 : Span) (rb : Nat) (w : World) (hw : HV w (keys [] []) [] [] [(rb, 0, [.func (.func 73) #[] #[]])] w)  {res : Bool} (hm : m_strip_every_api_Span_1 x0 = some res) :
    Calls Tryz.prog 122 #[.agg #[.int .i64 x0.lo, .int .i64 x0.hi], ptr rb 0] w (fun en w' => ∃ l : Unit, en = .returned (.bool res) ∧ (True) ∧ HV w (keys [] []) [] [] [] w') := by
  unfold m_strip_every_api_Span_1 at hm
  refine g_en Tryz.func122 rfl Tryz.ntmps122 rfl (e := [(0, _), (1, _)]) rfl hw (g_sr ?_)
  refine g_boxV rfl rfl (fun b h1 => ?_)
  refine g_as rfl rfl (g_nx (g_val rfl rfl rfl (fun w hh => v_load (Tryz.isAgg100 w) rfl (segCell (hh.seg 0 rfl) 0 rfl)) (g_la [_, _] 0 Tryz.isAgg32 Tryz.sizeOf32 rfl rfl rfl rfl ?_)))
  obtain ⟨t6, h2, hm⟩ := bindO hm
  refine g_callH [] [] rfl rfl rfl rfl rfl rfl rfl Tryz.call73 (fun w hh => c_strip_allowed x0 w (HV.callee (S0 := []) (vs0 := []) hh roN)  h2) (fun l h3 => ?_)
  refine g_val rfl rfl rfl (fun _ _ => v_not rfl) (g_as rfl rfl (g_nt (g_ret ?_)))
  obtain rfl := sj hm
  refine g_done rfl (fun w hh => (.tmp rfl .nil)) (fun w hh => ⟨(), rfl, trivial, hh.se [] [] 1 rfl rfl rfl rfl⟩)
def m_slices_IndexFunc_apiSpanapiSpan_L0 (s0 : (List Span)) (s : Int) : Option (Int ⊕ (Unit ⊕ Int)) :=
 if s < (s0.length : Int) then
 ((ix s0 s).bind fun t14 =>
 (m_strip_every_api_Span_1 t14).bind fun t16 =>
 if t16 = true then
 (some (.inr (.inr s))) else
 ((addc s 1).bind fun t18 =>
 some (.inl t18))) else
 (some (.inr (.inl ())))
def m_slices_IndexFunc_apiSpanapiSpan (s0 : (List Span)) : Option Int :=
 (iterM FU (m_slices_IndexFunc_apiSpanapiSpan_L0 s0) 0).bind fun o =>
 oc o (fun j => some (-1)) (fun r_1 => some r_1)
theorem c_slices_IndexFunc_apiSpanapiSpan (s0 : (List Span)) (qa0 : Option Addr) (na0 ca0 : Nat) (rb : Nat) (w : World) (hw : HV w (keys [] []) [] [] [(aB qa0, aO qa0, RSp.enc s0), (rb, 0, [.func (.func 73) #[] #[]])] w) (hna0 : s0.length = na0) (hqa0 : AOK na0 qa0) (hla0 : na0 ≤ ca0)  {res : Int} (hm : m_slices_IndexFunc_apiSpanapiSpan s0 = some res) :
    Calls Tryz.prog 135 #[.slice qa0 na0 ca0, .func (.func 122) #[] #[ptr rb 0]] w (fun en w' => ∃ l : Unit, en = .returned (.int .i64 res) ∧ (True) ∧ HV w (keys [] []) [] [] [] w') := by
  unfold m_slices_IndexFunc_apiSpanapiSpan at hm
  refine g_en Tryz.func135 rfl Tryz.ntmps135 rfl (e := [(0, _), (1, _)]) rfl hw (g_sr (g_as rfl rfl (g_nt (g_seq (g_sr (g_mv rfl rfl (g_val rfl rfl rfl (fun w _ => v_lenR hna0 (Tryz.runUnderlying23 w) rfl) ?_)))))))
  refine g_mv rfl rfl (g_nt ?_)
  obtain ⟨o, h1, h2⟩ := bindO hm
  refine g_cut (ι := Unit) (fun j => o = .inl j) (fun j => []) (fun j => []) (fun j => []) ?_ ?_
  ·replace hm := h1
   refine g_block ?_
   refine g_loopF (ι := Unit) hm (fun s l => True) (fun s l => [(0, .slice qa0 na0 ca0), (1, .func (.func 122) #[] #[ptr rb 0]), (7, .int .i64 (s0.length : Int)), (8, .int .i64 s)]) (fun s l => []) (fun s l => []) () (trivial) (sE rfl) (fun w hh => hh) (fun s l r hpl hm h3 => ?_)
   unfold m_slices_IndexFunc_apiSpanapiSpan_L0 at hm
   refine g_sr (g_ls rfl rfl rfl (g_nt (g_seq ?_)))
   refine g_cond rfl (fun h4 => ?_) (fun h4 => ?_)
   ·replace hm := ifD h4 hm
    refine g_skip (g_n_then (g_seq (g_block (g_sr (g_mv rfl rfl (g_as rfl rfl (g_nx ?_)))))))
    refine g_mv rfl rfl (g_mv rfl rfl (g_mv rfl rfl ?_))
    obtain ⟨t14, h5, hm⟩ := bindO hm
    refine g_val rfl rfl rfl (fun w _ => v_ixR h5 (Tryz.runUnderlying23 w) (Tryz.sizeOf32 w) rfl rfl hna0 hqa0) ?_
    refine g_val rfl rfl rfl (fun w hh => v_ldEA RSp 0 [.int .i64 t14.lo, .int .i64 t14.hi] h5 (Tryz.isAgg32 w) (Tryz.sizeOf32 w) rfl (hh.seg 0 rfl) rfl (Nat.add_zero _).symm) ?_
    obtain ⟨t16, h6, hm⟩ := bindO hm
    refine g_callH [] [] rfl rfl rfl rfl rfl rfl rfl Tryz.call122 (fun w hh => c_strip_every_api_Span_1 t14 rb w (HV.callee (S0 := []) (vs0 := []) hh (roR hh 1 rfl roN))  h6) (fun l_1 h7 => ?_)
    refine g_nt ?_
    refine g_cond rfl (fun h8 => ?_) (fun h8 => ?_)
    ·replace hm := ifT (h8) hm
     refine g_sr (g_mv rfl rfl (g_as rfl rfl (g_nt (g_ret (g_r_blk (g_r_then (g_r_then ?_)))))))
     refine g_r_blk ?_
     obtain rfl := sj hm
     have hbo := h3 _ rfl
     subst hbo
     refine g_r_then ?_
     replace hm := ocR h2
     refine g_r_then ?_
     obtain rfl := sj hm
     refine g_done rfl (fun w hh => (.tmp rfl .nil)) (fun w hh => ⟨(), rfl, trivial, hh.se [] [] 2 rfl rfl rfl rfl⟩)
    ·replace hm := ifN h8 hm
     refine g_skip (g_n_blk (g_n_then (g_region ?_)))
     obtain ⟨t18, h9, hm⟩ := bindO hm
     refine g_ac h9 rfl rfl rfl (g_mv rfl rfl (g_nil ?_))
     obtain rfl := sj hm
     refine g_n_then ?_
     exact g_again' _ () rfl (trivial) (sE rfl) (fun w hh => hh)
   ·replace hm := ifE h4 hm
    refine g_exit (g_x_then (g_x_then (g_x_blk ?_)))
    obtain rfl := sj hm
    have hbo := h3 _ rfl
    subst hbo
    exact g_leaf () (rfl) (.nil) (fun w hh => hh)
  ·intro j hj
   have h10 := hj
   subst h10
   replace hm := ocL h2
   refine g_n_then (g_sr (g_as rfl rfl (g_nt (g_ret ?_))))
   obtain rfl := sj hm
   refine g_done rfl (fun w hh => (.tmp rfl .nil)) (fun w hh => ⟨(), rfl, trivial, hh.se [] [] 2 rfl rfl rfl rfl⟩)
def m_slices_ContainsFunc_apiSpanapiSpan (s0 : (List Span)) : Option Bool :=
 (m_slices_IndexFunc_apiSpanapiSpan s0).bind fun t7 =>
 some (decide (0 ≤ t7))
theorem c_slices_ContainsFunc_apiSpanapiSpan (s0 : (List Span)) (qa0 : Option Addr) (na0 ca0 : Nat) (rb : Nat) (w : World) (hw : HV w (keys [] []) [] [] [(aB qa0, aO qa0, RSp.enc s0), (rb, 0, [.func (.func 73) #[] #[]])] w) (hna0 : s0.length = na0) (hqa0 : AOK na0 qa0) (hla0 : na0 ≤ ca0)  {res : Bool} (hm : m_slices_ContainsFunc_apiSpanapiSpan s0 = some res) :
    Calls Tryz.prog 121 #[.slice qa0 na0 ca0, .func (.func 122) #[] #[ptr rb 0]] w (fun en w' => ∃ l : Unit, en = .returned (.bool res) ∧ (True) ∧ HV w (keys [] []) [] [] [] w') := by
  unfold m_slices_ContainsFunc_apiSpanapiSpan at hm
  refine g_en Tryz.func121 rfl Tryz.ntmps121 rfl (e := [(0, _), (1, _)]) rfl hw (g_sr (g_as rfl rfl (g_nx (g_mv rfl rfl (g_mv rfl rfl ?_)))))
  obtain ⟨t7, h1, hm⟩ := bindO hm
  refine g_callH [] [] rfl rfl rfl rfl rfl rfl rfl Tryz.call135 (fun w hh => c_slices_IndexFunc_apiSpanapiSpan s0 qa0 na0 ca0 rb w (HV.callee (S0 := []) (vs0 := []) hh (roR hh 0 rfl (roR hh 1 rfl roN))) hna0 hqa0 hla0 h1) (fun l h2 => ?_)
  refine g_val rfl rfl rfl (fun _ _ => v_geq rfl rfl) (g_as rfl rfl (g_nt (g_ret ?_)))
  obtain rfl := sj hm
  refine g_done rfl (fun w hh => (.tmp rfl .nil)) (fun w hh => ⟨(), rfl, trivial, hh.se [] [] 2 rfl rfl rfl rfl⟩)
def m_strip_every_apiSpan (l0 : (List Span)) : Option Bool :=
 (m_slices_ContainsFunc_apiSpanapiSpan l0).bind fun t7 =>
 some (!t7)
theorem c_strip_every_apiSpan (l0 : (List Span)) (qa0 : Option Addr) (na0 ca0 : Nat) (w : World) (hw : HV w (keys [] []) [] [] [(aB qa0, aO qa0, RSp.enc l0)] w) (hna0 : l0.length = na0) (hqa0 : AOK na0 qa0) (hla0 : na0 ≤ ca0) {res : Bool} (hm : m_strip_every_apiSpan l0 = some res) :
    Calls Tryz.prog 87 #[.slice qa0 na0 ca0, .func (.func 73) #[] #[]] w (fun en w' => ∃ l : Unit, en = .returned (.bool res) ∧ (True) ∧ HV w (keys [] []) [] [] [] w') := by
  unfold m_strip_every_apiSpan at hm
  refine g_en Tryz.func87 rfl Tryz.ntmps87 rfl (e := [(0, _), (1, _)]) rfl hw (g_sr ?_)
  refine g_boxV rfl rfl (fun b h1 => ?_)
  refine g_as rfl rfl (g_nx (g_mv rfl rfl (g_val rfl rfl rfl (fun _ _ => v_makeFunc (u := #[]) (u' := #[_]) rfl rfl) ?_)))
  obtain ⟨t7, h2, hm⟩ := bindO hm
  refine g_callH [] [] rfl rfl rfl rfl rfl rfl rfl Tryz.call121 (fun w hh => c_slices_ContainsFunc_apiSpanapiSpan l0 qa0 na0 ca0 b w (HV.callee (S0 := []) (vs0 := []) hh (roR hh 0 rfl (roC (bsep (hh.bseg 0 rfl)) roN))) hna0 hqa0 hla0 h2) (fun l h3 => ?_)
  refine g_val rfl rfl rfl (fun _ _ => v_not rfl) (g_as rfl rfl (g_nt (g_ret ?_)))
  obtain rfl := sj hm
  refine g_done rfl (fun w hh => (.tmp rfl .nil)) (fun w hh => ⟨(), rfl, trivial, hh.se [] [] 1 rfl rfl rfl rfl⟩)
def m_strip_Scalps_tenant (s0 : Scalps) (n1 : Int) : Option Bool :=
 (subc (s0.carried.length : Int) 1).bind fun t9 =>
 (m_strip_in n1 0 t9).bind fun t10 =>
 some t10
theorem c_strip_Scalps_tenant (s0 : Scalps) (n1 : Int) (qa0 : Option Addr) (na0 ca0 : Nat) (qa1 : Option Addr) (na1 ca1 : Nat) (w : World) (hw : HV w (keys [] []) [] [] [(aB qa0, aO qa0, RSt.enc s0.strips), (aB qa1, aO qa1, RSp.enc s0.carried)] w) (hna0 : s0.strips.length = na0) (hqa0 : AOK na0 qa0) (hla0 : na0 ≤ ca0) (hna1 : s0.carried.length = na1) (hqa1 : AOK na1 qa1) (hla1 : na1 ≤ ca1) {res : Bool} (hm : m_strip_Scalps_tenant s0 n1 = some res) :
    Calls Tryz.prog 68 #[.agg #[.slice qa0 na0 ca0, .slice qa1 na1 ca1], .int .i64 n1] w (fun en w' => ∃ l : Unit, en = .returned (.bool res) ∧ (True) ∧ HV w (keys [] []) [] [] [] w') := by
  unfold m_strip_Scalps_tenant at hm
  refine g_en Tryz.func68 rfl Tryz.ntmps68 rfl (e := [(0, _), (1, _)]) rfl hw (g_sr ?_)
  refine g_boxV rfl rfl (fun b h1 => ?_)
  refine g_as rfl rfl (g_nx (g_mv rfl rfl (g_fa 1 Tryz.runUnderlying25 rfl Tryz.sizeOf23 rfl rfl (g_lc 0 Tryz.isAgg23 rfl rfl rfl rfl (g_val rfl rfl rfl (fun w _ => v_lenR hna1 (Tryz.runUnderlying23 w) rfl) ?_)))))
  obtain ⟨t9, h2, hm⟩ := bindO hm
  refine g_val rfl rfl rfl (fun _ _ => v_subc h2 rfl rfl) ?_
  obtain ⟨t10, h3, hm⟩ := bindO hm
  refine g_callH [] [] rfl rfl rfl rfl rfl rfl rfl Tryz.call62 (fun w hh => c_strip_in n1 0 t9 w (HV.callee (S0 := []) (vs0 := []) hh roN)  h3) (fun l h4 => ?_)
  refine g_as rfl rfl (g_nt (g_ret ?_))
  obtain rfl := sj hm
  refine g_done rfl (fun w hh => (.tmp rfl .nil)) (fun w hh => ⟨(), rfl, trivial, hh.se [] [] 2 rfl rfl rfl rfl⟩)
def m_strip_Check_1 (x0 : Strip) (a11_f0 : Scalps) : Option Bool :=
 (m_strip_Scalps_tenant a11_f0 x0.tenant).bind fun t7 =>
 some t7
theorem c_strip_Check_1 (x0 : Strip) (a11_f0 : Scalps) (rb : Nat) (qa1 : Option Addr) (na1 ca1 : Nat) (qa2 : Option Addr) (na2 ca2 : Nat) (w : World) (hw : HV w (keys [] []) [] [] [(rb, 0, [.func (.func 68) #[.agg #[.slice qa1 na1 ca1, .slice qa2 na2 ca2]] #[]]), (aB qa1, aO qa1, RSt.enc a11_f0.strips), (aB qa2, aO qa2, RSp.enc a11_f0.carried)] w)  (hna1 : a11_f0.strips.length = na1) (hqa1 : AOK na1 qa1) (hla1 : na1 ≤ ca1) (hna2 : a11_f0.carried.length = na2) (hqa2 : AOK na2 qa2) (hla2 : na2 ≤ ca2) {res : Bool} (hm : m_strip_Check_1 x0 a11_f0 = some res) :
    Calls Tryz.prog 90 #[.agg #[.int .i64 x0.tenant, .int .i64 x0.lay.lo, .int .i64 x0.lay.hi, .int .i64 x0.seeded.lo, .int .i64 x0.seeded.hi, .int .i64 x0.left.lo, .int .i64 x0.left.hi], ptr rb 0] w (fun en w' => ∃ l : Unit, en = .returned (.bool res) ∧ (True) ∧ HV w (keys [] []) [] [] [] w') := by
  unfold m_strip_Check_1 at hm
  refine g_en Tryz.func90 rfl Tryz.ntmps90 rfl (e := [(0, _), (1, _)]) rfl hw (g_sr ?_)
  refine g_boxV rfl rfl (fun b h1 => ?_)
  refine g_as rfl rfl (g_nx (g_val rfl rfl rfl (fun w hh => v_load (Tryz.isAgg120 w) rfl (segCell (hh.seg 0 rfl) 0 rfl)) (g_fa 0 Tryz.runUnderlying85 rfl Tryz.sizeOf3 rfl rfl (g_lc 0 Tryz.isAgg3 rfl rfl rfl rfl ?_))))
  obtain ⟨t7, h2, hm⟩ := bindO hm
  refine g_callH [] [] rfl rfl rfl rfl rfl rfl rfl Tryz.call68 (fun w hh => c_strip_Scalps_tenant a11_f0 x0.tenant qa1 na1 ca1 qa2 na2 ca2 w (HV.callee (S0 := []) (vs0 := []) hh (roR hh 1 rfl (roR hh 2 rfl roN))) hna1 hqa1 hla1 hna2 hqa2 hla2 h2) (fun l h3 => ?_)
  refine g_as rfl rfl (g_nt (g_ret ?_))
  obtain rfl := sj hm
  refine g_done rfl (fun w hh => (.tmp rfl .nil)) (fun w hh => ⟨(), rfl, trivial, hh.se [] [] 3 rfl rfl rfl rfl⟩)
def m_strip_every_strip_Strip_1 (x0 : Strip) (a11_c0_f0 : Scalps) : Option Bool :=
 (m_strip_Check_1 x0 a11_c0_f0).bind fun t6 =>
 some (!t6)
theorem c_strip_every_strip_Strip_1 (x0 : Strip) (a11_c0_f0 : Scalps) (rb : Nat) (rb_1 : Nat) (qa2 : Option Addr) (na2 ca2 : Nat) (qa3 : Option Addr) (na3 ca3 : Nat) (w : World) (hw : HV w (keys [] []) [] [] [(rb, 0, [.func (.func 90) #[] #[ptr rb_1 0]]), (rb_1, 0, [.func (.func 68) #[.agg #[.slice qa2 na2 ca2, .slice qa3 na3 ca3]] #[]]), (aB qa2, aO qa2, RSt.enc a11_c0_f0.strips), (aB qa3, aO qa3, RSp.enc a11_c0_f0.carried)] w)   (hna2 : a11_c0_f0.strips.length = na2) (hqa2 : AOK na2 qa2) (hla2 : na2 ≤ ca2) (hna3 : a11_c0_f0.carried.length = na3) (hqa3 : AOK na3 qa3) (hla3 : na3 ≤ ca3) {res : Bool} (hm : m_strip_every_strip_Strip_1 x0 a11_c0_f0 = some res) :
    Calls Tryz.prog 125 #[.agg #[.int .i64 x0.tenant, .int .i64 x0.lay.lo, .int .i64 x0.lay.hi, .int .i64 x0.seeded.lo, .int .i64 x0.seeded.hi, .int .i64 x0.left.lo, .int .i64 x0.left.hi], ptr rb 0] w (fun en w' => ∃ l : Unit, en = .returned (.bool res) ∧ (True) ∧ HV w (keys [] []) [] [] [] w') := by
  unfold m_strip_every_strip_Strip_1 at hm
  refine g_en Tryz.func125 rfl Tryz.ntmps125 rfl (e := [(0, _), (1, _)]) rfl hw (g_sr ?_)
  refine g_boxV rfl rfl (fun b h1 => ?_)
  refine g_as rfl rfl (g_nx (g_val rfl rfl rfl (fun w hh => v_load (Tryz.isAgg139 w) rfl (segCell (hh.seg 0 rfl) 0 rfl)) (g_la [_, _, _, _, _, _, _] 0 Tryz.isAgg85 Tryz.sizeOf85 rfl rfl rfl rfl ?_)))
  obtain ⟨t6, h2, hm⟩ := bindO hm
  refine g_callH [] [] rfl rfl rfl rfl rfl rfl rfl Tryz.call90 (fun w hh => c_strip_Check_1 x0 a11_c0_f0 rb_1 qa2 na2 ca2 qa3 na3 ca3 w (HV.callee (S0 := []) (vs0 := []) hh (roR hh 1 rfl (roR hh 2 rfl (roR hh 3 rfl roN)))) hna2 hqa2 hla2 hna3 hqa3 hla3 h2) (fun l h3 => ?_)
  refine g_val rfl rfl rfl (fun _ _ => v_not rfl) (g_as rfl rfl (g_nt (g_ret ?_)))
  obtain rfl := sj hm
  refine g_done rfl (fun w hh => (.tmp rfl .nil)) (fun w hh => ⟨(), rfl, trivial, hh.se [] [] 4 rfl rfl rfl rfl⟩)
def m_slices_IndexFunc_stripStripstripStrip_L0 (s0 : (List Strip)) (f1_c0_c0_f0 : Scalps) (s : Int) : Option (Int ⊕ (Unit ⊕ Int)) :=
 if s < (s0.length : Int) then
 ((ix s0 s).bind fun t14 =>
 (m_strip_every_strip_Strip_1 (⟨t14.tenant, (⟨t14.lay.lo, t14.lay.hi⟩ : Span), (⟨t14.seeded.lo, t14.seeded.hi⟩ : Span), (⟨t14.left.lo, t14.left.hi⟩ : Span)⟩ : Strip) f1_c0_c0_f0).bind fun t16 =>
 if t16 = true then
 (some (.inr (.inr s))) else
 ((addc s 1).bind fun t18 =>
 some (.inl t18))) else
 (some (.inr (.inl ())))
def m_slices_IndexFunc_stripStripstripStrip (s0 : (List Strip)) (f1_c0_c0_f0 : Scalps) : Option Int :=
 (iterM FU (m_slices_IndexFunc_stripStripstripStrip_L0 s0 f1_c0_c0_f0) 0).bind fun o =>
 oc o (fun j => some (-1)) (fun r_1 => some r_1)
theorem c_slices_IndexFunc_stripStripstripStrip (s0 : (List Strip)) (f1_c0_c0_f0 : Scalps) (qa0 : Option Addr) (na0 ca0 : Nat) (rb : Nat) (rb_1 : Nat) (qa3 : Option Addr) (na3 ca3 : Nat) (qa4 : Option Addr) (na4 ca4 : Nat) (w : World) (hw : HV w (keys [] []) [] [] [(aB qa0, aO qa0, RSt.enc s0), (rb, 0, [.func (.func 90) #[] #[ptr rb_1 0]]), (rb_1, 0, [.func (.func 68) #[.agg #[.slice qa3 na3 ca3, .slice qa4 na4 ca4]] #[]]), (aB qa3, aO qa3, RSt.enc f1_c0_c0_f0.strips), (aB qa4, aO qa4, RSp.enc f1_c0_c0_f0.carried)] w) (hna0 : s0.length = na0) (hqa0 : AOK na0 qa0) (hla0 : na0 ≤ ca0)   (hna3 : f1_c0_c0_f0.strips.length = na3) (hqa3 : AOK na3 qa3) (hla3 : na3 ≤ ca3) (hna4 : f1_c0_c0_f0.carried.length = na4) (hqa4 : AOK na4 qa4) (hla4 : na4 ≤ ca4) {res : Int} (hm : m_slices_IndexFunc_stripStripstripStrip s0 f1_c0_c0_f0 = some res) :
    Calls Tryz.prog 136 #[.slice qa0 na0 ca0, .func (.func 125) #[] #[ptr rb 0]] w (fun en w' => ∃ l : Unit, en = .returned (.int .i64 res) ∧ (True) ∧ HV w (keys [] []) [] [] [] w') := by
  unfold m_slices_IndexFunc_stripStripstripStrip at hm
  refine g_en Tryz.func136 rfl Tryz.ntmps136 rfl (e := [(0, _), (1, _)]) rfl hw (g_sr (g_as rfl rfl (g_nt (g_seq (g_sr (g_mv rfl rfl (g_val rfl rfl rfl (fun w _ => v_lenR hna0 (Tryz.runUnderlying22 w) rfl) ?_)))))))
  refine g_mv rfl rfl (g_nt ?_)
  obtain ⟨o, h1, h2⟩ := bindO hm
  refine g_cut (ι := Unit) (fun j => o = .inl j) (fun j => []) (fun j => []) (fun j => []) ?_ ?_
  ·replace hm := h1
   refine g_block ?_
   refine g_loopF (ι := Unit) hm (fun s l => True) (fun s l => [(0, .slice qa0 na0 ca0), (1, .func (.func 125) #[] #[ptr rb 0]), (7, .int .i64 (s0.length : Int)), (8, .int .i64 s)]) (fun s l => []) (fun s l => []) () (trivial) (sE rfl) (fun w hh => hh) (fun s l r hpl hm h3 => ?_)
   unfold m_slices_IndexFunc_stripStripstripStrip_L0 at hm
   refine g_sr (g_ls rfl rfl rfl (g_nt (g_seq ?_)))
   refine g_cond rfl (fun h4 => ?_) (fun h4 => ?_)
   ·replace hm := ifD h4 hm
    refine g_skip (g_n_then (g_seq (g_block (g_sr (g_mv rfl rfl (g_as rfl rfl (g_nx ?_)))))))
    refine g_mv rfl rfl (g_mv rfl rfl (g_mv rfl rfl ?_))
    obtain ⟨t14, h5, hm⟩ := bindO hm
    refine g_val rfl rfl rfl (fun w _ => v_ixR h5 (Tryz.runUnderlying22 w) (Tryz.sizeOf85 w) rfl rfl hna0 hqa0) ?_
    refine g_val rfl rfl rfl (fun w hh => v_ldEA RSt 0 [.int .i64 t14.tenant, .int .i64 t14.lay.lo, .int .i64 t14.lay.hi, .int .i64 t14.seeded.lo, .int .i64 t14.seeded.hi, .int .i64 t14.left.lo, .int .i64 t14.left.hi] h5 (Tryz.isAgg85 w) (Tryz.sizeOf85 w) rfl (hh.seg 0 rfl) rfl (Nat.add_zero _).symm) ?_
    obtain ⟨t16, h6, hm⟩ := bindO hm
    refine g_callH [] [] rfl rfl rfl rfl rfl rfl rfl Tryz.call125 (fun w hh => c_strip_every_strip_Strip_1 (⟨t14.tenant, (⟨t14.lay.lo, t14.lay.hi⟩ : Span), (⟨t14.seeded.lo, t14.seeded.hi⟩ : Span), (⟨t14.left.lo, t14.left.hi⟩ : Span)⟩ : Strip) f1_c0_c0_f0 rb rb_1 qa3 na3 ca3 qa4 na4 ca4 w (HV.callee (S0 := []) (vs0 := []) hh (roR hh 1 rfl (roR hh 2 rfl (roR hh 3 rfl (roR hh 4 rfl roN))))) hna3 hqa3 hla3 hna4 hqa4 hla4 h6) (fun l_1 h7 => ?_)
    refine g_nt ?_
    refine g_cond rfl (fun h8 => ?_) (fun h8 => ?_)
    ·replace hm := ifT (h8) hm
     refine g_sr (g_mv rfl rfl (g_as rfl rfl (g_nt (g_ret (g_r_blk (g_r_then (g_r_then ?_)))))))
     refine g_r_blk ?_
     obtain rfl := sj hm
     have hbo := h3 _ rfl
     subst hbo
     refine g_r_then ?_
     replace hm := ocR h2
     refine g_r_then ?_
     obtain rfl := sj hm
     refine g_done rfl (fun w hh => (.tmp rfl .nil)) (fun w hh => ⟨(), rfl, trivial, hh.se [] [] 5 rfl rfl rfl rfl⟩)
    ·replace hm := ifN h8 hm
     refine g_skip (g_n_blk (g_n_then (g_region ?_)))
     obtain ⟨t18, h9, hm⟩ := bindO hm
     refine g_ac h9 rfl rfl rfl (g_mv rfl rfl (g_nil ?_))
     obtain rfl := sj hm
     refine g_n_then ?_
     exact g_again' _ () rfl (trivial) (sE rfl) (fun w hh => hh)
   ·replace hm := ifE h4 hm
    refine g_exit (g_x_then (g_x_then (g_x_blk ?_)))
    obtain rfl := sj hm
    have hbo := h3 _ rfl
    subst hbo
    exact g_leaf () (rfl) (.nil) (fun w hh => hh)
  ·intro j hj
   have h10 := hj
   subst h10
   replace hm := ocL h2
   refine g_n_then (g_sr (g_as rfl rfl (g_nt (g_ret ?_))))
   obtain rfl := sj hm
   refine g_done rfl (fun w hh => (.tmp rfl .nil)) (fun w hh => ⟨(), rfl, trivial, hh.se [] [] 5 rfl rfl rfl rfl⟩)
def m_slices_ContainsFunc_stripStripstripStrip (s0 : (List Strip)) (f1_c0_c0_f0 : Scalps) : Option Bool :=
 (m_slices_IndexFunc_stripStripstripStrip s0 f1_c0_c0_f0).bind fun t7 =>
 some (decide (0 ≤ t7))
theorem c_slices_ContainsFunc_stripStripstripStrip (s0 : (List Strip)) (f1_c0_c0_f0 : Scalps) (qa0 : Option Addr) (na0 ca0 : Nat) (rb : Nat) (rb_1 : Nat) (qa3 : Option Addr) (na3 ca3 : Nat) (qa4 : Option Addr) (na4 ca4 : Nat) (w : World) (hw : HV w (keys [] []) [] [] [(aB qa0, aO qa0, RSt.enc s0), (rb, 0, [.func (.func 90) #[] #[ptr rb_1 0]]), (rb_1, 0, [.func (.func 68) #[.agg #[.slice qa3 na3 ca3, .slice qa4 na4 ca4]] #[]]), (aB qa3, aO qa3, RSt.enc f1_c0_c0_f0.strips), (aB qa4, aO qa4, RSp.enc f1_c0_c0_f0.carried)] w) (hna0 : s0.length = na0) (hqa0 : AOK na0 qa0) (hla0 : na0 ≤ ca0)   (hna3 : f1_c0_c0_f0.strips.length = na3) (hqa3 : AOK na3 qa3) (hla3 : na3 ≤ ca3) (hna4 : f1_c0_c0_f0.carried.length = na4) (hqa4 : AOK na4 qa4) (hla4 : na4 ≤ ca4) {res : Bool} (hm : m_slices_ContainsFunc_stripStripstripStrip s0 f1_c0_c0_f0 = some res) :
    Calls Tryz.prog 124 #[.slice qa0 na0 ca0, .func (.func 125) #[] #[ptr rb 0]] w (fun en w' => ∃ l : Unit, en = .returned (.bool res) ∧ (True) ∧ HV w (keys [] []) [] [] [] w') := by
  unfold m_slices_ContainsFunc_stripStripstripStrip at hm
  refine g_en Tryz.func124 rfl Tryz.ntmps124 rfl (e := [(0, _), (1, _)]) rfl hw (g_sr (g_as rfl rfl (g_nx (g_mv rfl rfl (g_mv rfl rfl ?_)))))
  obtain ⟨t7, h1, hm⟩ := bindO hm
  refine g_callH [] [] rfl rfl rfl rfl rfl rfl rfl Tryz.call136 (fun w hh => c_slices_IndexFunc_stripStripstripStrip s0 f1_c0_c0_f0 qa0 na0 ca0 rb rb_1 qa3 na3 ca3 qa4 na4 ca4 w (HV.callee (S0 := []) (vs0 := []) hh (roR hh 0 rfl (roR hh 1 rfl (roR hh 2 rfl (roR hh 3 rfl (roR hh 4 rfl roN)))))) hna0 hqa0 hla0 hna3 hqa3 hla3 hna4 hqa4 hla4 h1) (fun l h2 => ?_)
  refine g_val rfl rfl rfl (fun _ _ => v_geq rfl rfl) (g_as rfl rfl (g_nt (g_ret ?_)))
  obtain rfl := sj hm
  refine g_done rfl (fun w hh => (.tmp rfl .nil)) (fun w hh => ⟨(), rfl, trivial, hh.se [] [] 5 rfl rfl rfl rfl⟩)
def m_strip_every_stripStrip (l0 : (List Strip)) (holds1_c0_f0 : Scalps) : Option Bool :=
 (m_slices_ContainsFunc_stripStripstripStrip l0 holds1_c0_f0).bind fun t7 =>
 some (!t7)
theorem c_strip_every_stripStrip (l0 : (List Strip)) (holds1_c0_f0 : Scalps) (qa0 : Option Addr) (na0 ca0 : Nat) (rb : Nat) (qa2 : Option Addr) (na2 ca2 : Nat) (qa3 : Option Addr) (na3 ca3 : Nat) (w : World) (hw : HV w (keys [] []) [] [] [(aB qa0, aO qa0, RSt.enc l0), (rb, 0, [.func (.func 68) #[.agg #[.slice qa2 na2 ca2, .slice qa3 na3 ca3]] #[]]), (aB qa2, aO qa2, RSt.enc holds1_c0_f0.strips), (aB qa3, aO qa3, RSp.enc holds1_c0_f0.carried)] w) (hna0 : l0.length = na0) (hqa0 : AOK na0 qa0) (hla0 : na0 ≤ ca0)  (hna2 : holds1_c0_f0.strips.length = na2) (hqa2 : AOK na2 qa2) (hla2 : na2 ≤ ca2) (hna3 : holds1_c0_f0.carried.length = na3) (hqa3 : AOK na3 qa3) (hla3 : na3 ≤ ca3) {res : Bool} (hm : m_strip_every_stripStrip l0 holds1_c0_f0 = some res) :
    Calls Tryz.prog 89 #[.slice qa0 na0 ca0, .func (.func 90) #[] #[ptr rb 0]] w (fun en w' => ∃ l : Unit, en = .returned (.bool res) ∧ (True) ∧ HV w (keys [] []) [] [] [] w') := by
  unfold m_strip_every_stripStrip at hm
  refine g_en Tryz.func89 rfl Tryz.ntmps89 rfl (e := [(0, _), (1, _)]) rfl hw (g_sr ?_)
  refine g_boxV rfl rfl (fun b h1 => ?_)
  refine g_as rfl rfl (g_nx (g_mv rfl rfl (g_val rfl rfl rfl (fun _ _ => v_makeFunc (u := #[]) (u' := #[_]) rfl rfl) ?_)))
  obtain ⟨t7, h2, hm⟩ := bindO hm
  refine g_callH [] [] rfl rfl rfl rfl rfl rfl rfl Tryz.call124 (fun w hh => c_slices_ContainsFunc_stripStripstripStrip l0 holds1_c0_f0 qa0 na0 ca0 b rb qa2 na2 ca2 qa3 na3 ca3 w (HV.callee (S0 := []) (vs0 := []) hh (roR hh 0 rfl (roC (bsep (hh.bseg 0 rfl)) (roR hh 1 rfl (roR hh 2 rfl (roR hh 3 rfl roN)))))) hna0 hqa0 hla0 hna2 hqa2 hla2 hna3 hqa3 hla3 h2) (fun l h3 => ?_)
  refine g_val rfl rfl rfl (fun _ _ => v_not rfl) (g_as rfl rfl (g_nt (g_ret ?_)))
  obtain rfl := sj hm
  refine g_done rfl (fun w hh => (.tmp rfl .nil)) (fun w hh => ⟨(), rfl, trivial, hh.se [] [] 4 rfl rfl rfl rfl⟩)
def m_strip_Check_2 (x0 : Span) : Option Bool :=
 some (decide (x0.lo ≤ x0.hi))
theorem c_strip_Check_2 (x0 : Span)  (w : World) (hw : HV w (keys [] []) [] [] [] w)  {res : Bool} (hm : m_strip_Check_2 x0 = some res) :
    Calls Tryz.prog 91 #[.agg #[.int .i64 x0.lo, .int .i64 x0.hi]] w (fun en w' => ∃ l : Unit, en = .returned (.bool res) ∧ (True) ∧ HV w (keys [] []) [] [] [] w') := by
  unfold m_strip_Check_2 at hm
  refine g_en Tryz.func91 rfl Tryz.ntmps91 rfl (e := [(0, _)]) rfl hw (g_sr ?_)
  refine g_boxV rfl rfl (fun b h1 => ?_)
  refine g_as rfl rfl (g_nx (g_fa 0 Tryz.runUnderlying32 rfl Tryz.sizeOf3 rfl rfl (g_lc 0 Tryz.isAgg3 rfl rfl rfl rfl (g_fa 1 Tryz.runUnderlying32 rfl Tryz.sizeOf3 rfl rfl (g_lc 0 Tryz.isAgg3 rfl rfl rfl rfl (g_val rfl rfl rfl (fun _ _ => v_leq rfl rfl) (g_as rfl rfl ?_)))))))
  refine g_nt (g_ret ?_)
  obtain rfl := sj hm
  refine g_done rfl (fun w hh => (.tmp rfl .nil)) (fun w hh => ⟨(), rfl, trivial, hh.se [] [] 0 rfl rfl rfl rfl⟩)
def m_strip_every_api_Span_1_1 (x0 : Span) : Option Bool :=
 (m_strip_Check_2 x0).bind fun t6 =>
 some (!t6)
theorem c_strip_every_api_Span_1_1 (x0 : Span) (rb : Nat) (w : World) (hw : HV w (keys [] []) [] [] [(rb, 0, [.func (.func 91) #[] #[]])] w)  {res : Bool} (hm : m_strip_every_api_Span_1_1 x0 = some res) :
    Calls Tryz.prog 122 #[.agg #[.int .i64 x0.lo, .int .i64 x0.hi], ptr rb 0] w (fun en w' => ∃ l : Unit, en = .returned (.bool res) ∧ (True) ∧ HV w (keys [] []) [] [] [] w') := by
  unfold m_strip_every_api_Span_1_1 at hm
  refine g_en Tryz.func122 rfl Tryz.ntmps122 rfl (e := [(0, _), (1, _)]) rfl hw (g_sr ?_)
  refine g_boxV rfl rfl (fun b h1 => ?_)
  refine g_as rfl rfl (g_nx (g_val rfl rfl rfl (fun w hh => v_load (Tryz.isAgg100 w) rfl (segCell (hh.seg 0 rfl) 0 rfl)) (g_la [_, _] 0 Tryz.isAgg32 Tryz.sizeOf32 rfl rfl rfl rfl ?_)))
  obtain ⟨t6, h2, hm⟩ := bindO hm
  refine g_callH [] [] rfl rfl rfl rfl rfl rfl rfl Tryz.call91 (fun w hh => c_strip_Check_2 x0 w (HV.callee (S0 := []) (vs0 := []) hh roN)  h2) (fun l h3 => ?_)
  refine g_val rfl rfl rfl (fun _ _ => v_not rfl) (g_as rfl rfl (g_nt (g_ret ?_)))
  obtain rfl := sj hm
  refine g_done rfl (fun w hh => (.tmp rfl .nil)) (fun w hh => ⟨(), rfl, trivial, hh.se [] [] 1 rfl rfl rfl rfl⟩)
def m_slices_IndexFunc_apiSpanapiSpan_1_L0 (s0 : (List Span)) (s : Int) : Option (Int ⊕ (Unit ⊕ Int)) :=
 if s < (s0.length : Int) then
 ((ix s0 s).bind fun t14 =>
 (m_strip_every_api_Span_1_1 t14).bind fun t16 =>
 if t16 = true then
 (some (.inr (.inr s))) else
 ((addc s 1).bind fun t18 =>
 some (.inl t18))) else
 (some (.inr (.inl ())))
def m_slices_IndexFunc_apiSpanapiSpan_1 (s0 : (List Span)) : Option Int :=
 (iterM FU (m_slices_IndexFunc_apiSpanapiSpan_1_L0 s0) 0).bind fun o =>
 oc o (fun j => some (-1)) (fun r_1 => some r_1)
theorem c_slices_IndexFunc_apiSpanapiSpan_1 (s0 : (List Span)) (qa0 : Option Addr) (na0 ca0 : Nat) (rb : Nat) (w : World) (hw : HV w (keys [] []) [] [] [(aB qa0, aO qa0, RSp.enc s0), (rb, 0, [.func (.func 91) #[] #[]])] w) (hna0 : s0.length = na0) (hqa0 : AOK na0 qa0) (hla0 : na0 ≤ ca0)  {res : Int} (hm : m_slices_IndexFunc_apiSpanapiSpan_1 s0 = some res) :
    Calls Tryz.prog 135 #[.slice qa0 na0 ca0, .func (.func 122) #[] #[ptr rb 0]] w (fun en w' => ∃ l : Unit, en = .returned (.int .i64 res) ∧ (True) ∧ HV w (keys [] []) [] [] [] w') := by
  unfold m_slices_IndexFunc_apiSpanapiSpan_1 at hm
  refine g_en Tryz.func135 rfl Tryz.ntmps135 rfl (e := [(0, _), (1, _)]) rfl hw (g_sr (g_as rfl rfl (g_nt (g_seq (g_sr (g_mv rfl rfl (g_val rfl rfl rfl (fun w _ => v_lenR hna0 (Tryz.runUnderlying23 w) rfl) ?_)))))))
  refine g_mv rfl rfl (g_nt ?_)
  obtain ⟨o, h1, h2⟩ := bindO hm
  refine g_cut (ι := Unit) (fun j => o = .inl j) (fun j => []) (fun j => []) (fun j => []) ?_ ?_
  ·replace hm := h1
   refine g_block ?_
   refine g_loopF (ι := Unit) hm (fun s l => True) (fun s l => [(0, .slice qa0 na0 ca0), (1, .func (.func 122) #[] #[ptr rb 0]), (7, .int .i64 (s0.length : Int)), (8, .int .i64 s)]) (fun s l => []) (fun s l => []) () (trivial) (sE rfl) (fun w hh => hh) (fun s l r hpl hm h3 => ?_)
   unfold m_slices_IndexFunc_apiSpanapiSpan_1_L0 at hm
   refine g_sr (g_ls rfl rfl rfl (g_nt (g_seq ?_)))
   refine g_cond rfl (fun h4 => ?_) (fun h4 => ?_)
   ·replace hm := ifD h4 hm
    refine g_skip (g_n_then (g_seq (g_block (g_sr (g_mv rfl rfl (g_as rfl rfl (g_nx ?_)))))))
    refine g_mv rfl rfl (g_mv rfl rfl (g_mv rfl rfl ?_))
    obtain ⟨t14, h5, hm⟩ := bindO hm
    refine g_val rfl rfl rfl (fun w _ => v_ixR h5 (Tryz.runUnderlying23 w) (Tryz.sizeOf32 w) rfl rfl hna0 hqa0) ?_
    refine g_val rfl rfl rfl (fun w hh => v_ldEA RSp 0 [.int .i64 t14.lo, .int .i64 t14.hi] h5 (Tryz.isAgg32 w) (Tryz.sizeOf32 w) rfl (hh.seg 0 rfl) rfl (Nat.add_zero _).symm) ?_
    obtain ⟨t16, h6, hm⟩ := bindO hm
    refine g_callH [] [] rfl rfl rfl rfl rfl rfl rfl Tryz.call122 (fun w hh => c_strip_every_api_Span_1_1 t14 rb w (HV.callee (S0 := []) (vs0 := []) hh (roR hh 1 rfl roN))  h6) (fun l_1 h7 => ?_)
    refine g_nt ?_
    refine g_cond rfl (fun h8 => ?_) (fun h8 => ?_)
    ·replace hm := ifT (h8) hm
     refine g_sr (g_mv rfl rfl (g_as rfl rfl (g_nt (g_ret (g_r_blk (g_r_then (g_r_then ?_)))))))
     refine g_r_blk ?_
     obtain rfl := sj hm
     have hbo := h3 _ rfl
     subst hbo
     refine g_r_then ?_
     replace hm := ocR h2
     refine g_r_then ?_
     obtain rfl := sj hm
     refine g_done rfl (fun w hh => (.tmp rfl .nil)) (fun w hh => ⟨(), rfl, trivial, hh.se [] [] 2 rfl rfl rfl rfl⟩)
    ·replace hm := ifN h8 hm
     refine g_skip (g_n_blk (g_n_then (g_region ?_)))
     obtain ⟨t18, h9, hm⟩ := bindO hm
     refine g_ac h9 rfl rfl rfl (g_mv rfl rfl (g_nil ?_))
     obtain rfl := sj hm
     refine g_n_then ?_
     exact g_again' _ () rfl (trivial) (sE rfl) (fun w hh => hh)
   ·replace hm := ifE h4 hm
    refine g_exit (g_x_then (g_x_then (g_x_blk ?_)))
    obtain rfl := sj hm
    have hbo := h3 _ rfl
    subst hbo
    exact g_leaf () (rfl) (.nil) (fun w hh => hh)
  ·intro j hj
   have h10 := hj
   subst h10
   replace hm := ocL h2
   refine g_n_then (g_sr (g_as rfl rfl (g_nt (g_ret ?_))))
   obtain rfl := sj hm
   refine g_done rfl (fun w hh => (.tmp rfl .nil)) (fun w hh => ⟨(), rfl, trivial, hh.se [] [] 2 rfl rfl rfl rfl⟩)
def m_slices_ContainsFunc_apiSpanapiSpan_1 (s0 : (List Span)) : Option Bool :=
 (m_slices_IndexFunc_apiSpanapiSpan_1 s0).bind fun t7 =>
 some (decide (0 ≤ t7))
theorem c_slices_ContainsFunc_apiSpanapiSpan_1 (s0 : (List Span)) (qa0 : Option Addr) (na0 ca0 : Nat) (rb : Nat) (w : World) (hw : HV w (keys [] []) [] [] [(aB qa0, aO qa0, RSp.enc s0), (rb, 0, [.func (.func 91) #[] #[]])] w) (hna0 : s0.length = na0) (hqa0 : AOK na0 qa0) (hla0 : na0 ≤ ca0)  {res : Bool} (hm : m_slices_ContainsFunc_apiSpanapiSpan_1 s0 = some res) :
    Calls Tryz.prog 121 #[.slice qa0 na0 ca0, .func (.func 122) #[] #[ptr rb 0]] w (fun en w' => ∃ l : Unit, en = .returned (.bool res) ∧ (True) ∧ HV w (keys [] []) [] [] [] w') := by
  unfold m_slices_ContainsFunc_apiSpanapiSpan_1 at hm
  refine g_en Tryz.func121 rfl Tryz.ntmps121 rfl (e := [(0, _), (1, _)]) rfl hw (g_sr (g_as rfl rfl (g_nx (g_mv rfl rfl (g_mv rfl rfl ?_)))))
  obtain ⟨t7, h1, hm⟩ := bindO hm
  refine g_callH [] [] rfl rfl rfl rfl rfl rfl rfl Tryz.call135 (fun w hh => c_slices_IndexFunc_apiSpanapiSpan_1 s0 qa0 na0 ca0 rb w (HV.callee (S0 := []) (vs0 := []) hh (roR hh 0 rfl (roR hh 1 rfl roN))) hna0 hqa0 hla0 h1) (fun l h2 => ?_)
  refine g_val rfl rfl rfl (fun _ _ => v_geq rfl rfl) (g_as rfl rfl (g_nt (g_ret ?_)))
  obtain rfl := sj hm
  refine g_done rfl (fun w hh => (.tmp rfl .nil)) (fun w hh => ⟨(), rfl, trivial, hh.se [] [] 2 rfl rfl rfl rfl⟩)
def m_strip_every_apiSpan_1 (l0 : (List Span)) : Option Bool :=
 (m_slices_ContainsFunc_apiSpanapiSpan_1 l0).bind fun t7 =>
 some (!t7)
theorem c_strip_every_apiSpan_1 (l0 : (List Span)) (qa0 : Option Addr) (na0 ca0 : Nat) (w : World) (hw : HV w (keys [] []) [] [] [(aB qa0, aO qa0, RSp.enc l0)] w) (hna0 : l0.length = na0) (hqa0 : AOK na0 qa0) (hla0 : na0 ≤ ca0) {res : Bool} (hm : m_strip_every_apiSpan_1 l0 = some res) :
    Calls Tryz.prog 87 #[.slice qa0 na0 ca0, .func (.func 91) #[] #[]] w (fun en w' => ∃ l : Unit, en = .returned (.bool res) ∧ (True) ∧ HV w (keys [] []) [] [] [] w') := by
  unfold m_strip_every_apiSpan_1 at hm
  refine g_en Tryz.func87 rfl Tryz.ntmps87 rfl (e := [(0, _), (1, _)]) rfl hw (g_sr ?_)
  refine g_boxV rfl rfl (fun b h1 => ?_)
  refine g_as rfl rfl (g_nx (g_mv rfl rfl (g_val rfl rfl rfl (fun _ _ => v_makeFunc (u := #[]) (u' := #[_]) rfl rfl) ?_)))
  obtain ⟨t7, h2, hm⟩ := bindO hm
  refine g_callH [] [] rfl rfl rfl rfl rfl rfl rfl Tryz.call121 (fun w hh => c_slices_ContainsFunc_apiSpanapiSpan_1 l0 qa0 na0 ca0 b w (HV.callee (S0 := []) (vs0 := []) hh (roR hh 0 rfl (roC (bsep (hh.bseg 0 rfl)) roN))) hna0 hqa0 hla0 h2) (fun l h3 => ?_)
  refine g_val rfl rfl rfl (fun _ _ => v_not rfl) (g_as rfl rfl (g_nt (g_ret ?_)))
  obtain rfl := sj hm
  refine g_done rfl (fun w hh => (.tmp rfl .nil)) (fun w hh => ⟨(), rfl, trivial, hh.se [] [] 1 rfl rfl rfl rfl⟩)
def m_strip_Strip_gone (x0 : Strip) : Option Span :=
 (addc x0.lay.lo x0.seeded.lo).bind fun t9 =>
 (subc t9 x0.left.hi).bind fun t13 =>
 (addc x0.lay.hi x0.seeded.hi).bind fun t21 =>
 (subc t21 x0.left.lo).bind fun t25 =>
 some (⟨(max 0 t13), t25⟩ : Span)
theorem c_strip_Strip_gone (x0 : Strip)  (w : World) (hw : HV w (keys [] []) [] [] [] w)  {res : Span} (hm : m_strip_Strip_gone x0 = some res) :
    Calls Tryz.prog 66 #[.agg #[.int .i64 x0.tenant, .int .i64 x0.lay.lo, .int .i64 x0.lay.hi, .int .i64 x0.seeded.lo, .int .i64 x0.seeded.hi, .int .i64 x0.left.lo, .int .i64 x0.left.hi]] w (fun en w' => ∃ l : Unit, en = .returned (.agg #[.int .i64 res.lo, .int .i64 res.hi]) ∧ (True) ∧ HV w (keys [] []) [] [] [] w') := by
  unfold m_strip_Strip_gone at hm
  refine g_en Tryz.func66 rfl Tryz.ntmps66 rfl (e := [(0, _)]) rfl hw (g_sr ?_)
  refine g_boxV rfl rfl (fun b h1 => ?_)
  refine g_allocV (fun w => Tryz.zeroValue32 w) rfl (fun b_1 h2 => ?_)
  refine g_nx (g_fa 1 Tryz.runUnderlying85 rfl Tryz.sizeOf32 rfl rfl (g_fa 0 Tryz.runUnderlying32 rfl Tryz.sizeOf3 rfl rfl (g_lc 1 Tryz.isAgg3 rfl rfl rfl rfl (g_fa 3 Tryz.runUnderlying85 rfl Tryz.sizeOf32 rfl rfl (g_fa 0 Tryz.runUnderlying32 rfl Tryz.sizeOf3 rfl rfl (g_lc 1 Tryz.isAgg3 rfl rfl rfl rfl ?_))))))
  obtain ⟨t9, h3, hm⟩ := bindO hm
  refine g_ac h3 rfl rfl rfl (g_fa 5 Tryz.runUnderlying85 rfl Tryz.sizeOf32 rfl rfl (g_fa 1 Tryz.runUnderlying32 rfl Tryz.sizeOf3 rfl rfl (g_lc 1 Tryz.isAgg3 rfl rfl rfl rfl ?_)))
  obtain ⟨t13, h4, hm⟩ := bindO hm
  refine g_val rfl rfl rfl (fun _ _ => v_subc h4 rfl rfl) (g_val rfl rfl rfl (fun _ _ => v_max rfl rfl) (g_fa 1 Tryz.runUnderlying85 rfl Tryz.sizeOf32 rfl rfl (g_fa 1 Tryz.runUnderlying32 rfl Tryz.sizeOf3 rfl rfl (g_lc 1 Tryz.isAgg3 rfl rfl rfl rfl (g_fa 3 Tryz.runUnderlying85 rfl Tryz.sizeOf32 rfl rfl (g_fa 1 Tryz.runUnderlying32 rfl Tryz.sizeOf3 rfl rfl (g_lc 1 Tryz.isAgg3 rfl rfl rfl rfl ?_)))))))
  obtain ⟨t21, h5, hm⟩ := bindO hm
  refine g_ac h5 rfl rfl rfl (g_fa 5 Tryz.runUnderlying85 rfl Tryz.sizeOf32 rfl rfl (g_fa 0 Tryz.runUnderlying32 rfl Tryz.sizeOf3 rfl rfl (g_lc 1 Tryz.isAgg3 rfl rfl rfl rfl ?_)))
  obtain ⟨t25, h6, hm⟩ := bindO hm
  refine g_val rfl rfl rfl (fun _ _ => v_subc h6 rfl rfl) (g_val rfl rfl rfl (fun _ _ => v_build (vs := [(0, _), (1, _)]) (cells := [_, _]) rfl rfl) (g_stSA (us := #[_, _]) (cs' := [_, _]) (S' := [_, _]) 0 (fun w => Tryz.sizeOf32 w) rfl rfl rfl rfl rfl rfl rfl (g_nt (g_ret ?_))))
  obtain rfl := sj hm
  refine g_done rfl (fun w hh => (.cell rfl (loadVar_agg (vs := [_, _]) (Tryz.isAgg32 _) (Tryz.sizeOf32 _) (hh.cells 0 rfl rfl)) .nil)) (fun w hh => ⟨(), rfl, trivial, hh.se [] [] 0 rfl rfl rfl rfl⟩)
def m_strip_Check_3 (x0 : Strip) : Option Bool :=
 (m_strip_Strip_gone x0).bind fun t4 =>
 some (decide (0 ≤ t4.hi))
theorem c_strip_Check_3 (x0 : Strip)  (w : World) (hw : HV w (keys [] []) [] [] [] w)  {res : Bool} (hm : m_strip_Check_3 x0 = some res) :
    Calls Tryz.prog 92 #[.agg #[.int .i64 x0.tenant, .int .i64 x0.lay.lo, .int .i64 x0.lay.hi, .int .i64 x0.seeded.lo, .int .i64 x0.seeded.hi, .int .i64 x0.left.lo, .int .i64 x0.left.hi]] w (fun en w' => ∃ l : Unit, en = .returned (.bool res) ∧ (True) ∧ HV w (keys [] []) [] [] [] w') := by
  unfold m_strip_Check_3 at hm
  refine g_en Tryz.func92 rfl Tryz.ntmps92 rfl (e := [(0, _)]) rfl hw (g_sr ?_)
  refine g_boxV rfl rfl (fun b h1 => ?_)
  refine g_as rfl rfl (g_nx (g_la [_, _, _, _, _, _, _] 0 Tryz.isAgg85 Tryz.sizeOf85 rfl rfl rfl rfl ?_))
  obtain ⟨t4, h2, hm⟩ := bindO hm
  refine g_callH [] [] rfl rfl rfl rfl rfl rfl rfl Tryz.call66 (fun w hh => c_strip_Strip_gone x0 w (HV.callee (S0 := []) (vs0 := []) hh roN)  h2) (fun l h3 => ?_)
  refine g_val rfl rfl rfl (fun w _ => v_fld1 3 1 (Tryz.runUnderlying32 w) rfl (Tryz.isAgg3 w) rfl rfl) (g_val rfl rfl rfl (fun _ _ => v_geq rfl rfl) (g_as rfl rfl (g_nt (g_ret ?_))))
  obtain rfl := sj hm
  refine g_done rfl (fun w hh => (.tmp rfl .nil)) (fun w hh => ⟨(), rfl, trivial, hh.se [] [] 0 rfl rfl rfl rfl⟩)
def m_strip_every_strip_Strip_1_1 (x0 : Strip) : Option Bool :=
 (m_strip_Check_3 x0).bind fun t6 =>
 some (!t6)
theorem c_strip_every_strip_Strip_1_1 (x0 : Strip) (rb : Nat) (w : World) (hw : HV w (keys [] []) [] [] [(rb, 0, [.func (.func 92) #[] #[]])] w)  {res : Bool} (hm : m_strip_every_strip_Strip_1_1 x0 = some res) :
    Calls Tryz.prog 125 #[.agg #[.int .i64 x0.tenant, .int .i64 x0.lay.lo, .int .i64 x0.lay.hi, .int .i64 x0.seeded.lo, .int .i64 x0.seeded.hi, .int .i64 x0.left.lo, .int .i64 x0.left.hi], ptr rb 0] w (fun en w' => ∃ l : Unit, en = .returned (.bool res) ∧ (True) ∧ HV w (keys [] []) [] [] [] w') := by
  unfold m_strip_every_strip_Strip_1_1 at hm
  refine g_en Tryz.func125 rfl Tryz.ntmps125 rfl (e := [(0, _), (1, _)]) rfl hw (g_sr ?_)
  refine g_boxV rfl rfl (fun b h1 => ?_)
  refine g_as rfl rfl (g_nx (g_val rfl rfl rfl (fun w hh => v_load (Tryz.isAgg139 w) rfl (segCell (hh.seg 0 rfl) 0 rfl)) (g_la [_, _, _, _, _, _, _] 0 Tryz.isAgg85 Tryz.sizeOf85 rfl rfl rfl rfl ?_)))
  obtain ⟨t6, h2, hm⟩ := bindO hm
  refine g_callH [] [] rfl rfl rfl rfl rfl rfl rfl Tryz.call92 (fun w hh => c_strip_Check_3 x0 w (HV.callee (S0 := []) (vs0 := []) hh roN)  h2) (fun l h3 => ?_)
  refine g_val rfl rfl rfl (fun _ _ => v_not rfl) (g_as rfl rfl (g_nt (g_ret ?_)))
  obtain rfl := sj hm
  refine g_done rfl (fun w hh => (.tmp rfl .nil)) (fun w hh => ⟨(), rfl, trivial, hh.se [] [] 1 rfl rfl rfl rfl⟩)
def m_slices_IndexFunc_stripStripstripStrip_1_L0 (s0 : (List Strip)) (s : Int) : Option (Int ⊕ (Unit ⊕ Int)) :=
 if s < (s0.length : Int) then
 ((ix s0 s).bind fun t14 =>
 (m_strip_every_strip_Strip_1_1 (⟨t14.tenant, (⟨t14.lay.lo, t14.lay.hi⟩ : Span), (⟨t14.seeded.lo, t14.seeded.hi⟩ : Span), (⟨t14.left.lo, t14.left.hi⟩ : Span)⟩ : Strip)).bind fun t16 =>
 if t16 = true then
 (some (.inr (.inr s))) else
 ((addc s 1).bind fun t18 =>
 some (.inl t18))) else
 (some (.inr (.inl ())))
def m_slices_IndexFunc_stripStripstripStrip_1 (s0 : (List Strip)) : Option Int :=
 (iterM FU (m_slices_IndexFunc_stripStripstripStrip_1_L0 s0) 0).bind fun o =>
 oc o (fun j => some (-1)) (fun r_1 => some r_1)
theorem c_slices_IndexFunc_stripStripstripStrip_1 (s0 : (List Strip)) (qa0 : Option Addr) (na0 ca0 : Nat) (rb : Nat) (w : World) (hw : HV w (keys [] []) [] [] [(aB qa0, aO qa0, RSt.enc s0), (rb, 0, [.func (.func 92) #[] #[]])] w) (hna0 : s0.length = na0) (hqa0 : AOK na0 qa0) (hla0 : na0 ≤ ca0)  {res : Int} (hm : m_slices_IndexFunc_stripStripstripStrip_1 s0 = some res) :
    Calls Tryz.prog 136 #[.slice qa0 na0 ca0, .func (.func 125) #[] #[ptr rb 0]] w (fun en w' => ∃ l : Unit, en = .returned (.int .i64 res) ∧ (True) ∧ HV w (keys [] []) [] [] [] w') := by
  unfold m_slices_IndexFunc_stripStripstripStrip_1 at hm
  refine g_en Tryz.func136 rfl Tryz.ntmps136 rfl (e := [(0, _), (1, _)]) rfl hw (g_sr (g_as rfl rfl (g_nt (g_seq (g_sr (g_mv rfl rfl (g_val rfl rfl rfl (fun w _ => v_lenR hna0 (Tryz.runUnderlying22 w) rfl) ?_)))))))
  refine g_mv rfl rfl (g_nt ?_)
  obtain ⟨o, h1, h2⟩ := bindO hm
  refine g_cut (ι := Unit) (fun j => o = .inl j) (fun j => []) (fun j => []) (fun j => []) ?_ ?_
  ·replace hm := h1
   refine g_block ?_
   refine g_loopF (ι := Unit) hm (fun s l => True) (fun s l => [(0, .slice qa0 na0 ca0), (1, .func (.func 125) #[] #[ptr rb 0]), (7, .int .i64 (s0.length : Int)), (8, .int .i64 s)]) (fun s l => []) (fun s l => []) () (trivial) (sE rfl) (fun w hh => hh) (fun s l r hpl hm h3 => ?_)
   unfold m_slices_IndexFunc_stripStripstripStrip_1_L0 at hm
   refine g_sr (g_ls rfl rfl rfl (g_nt (g_seq ?_)))
   refine g_cond rfl (fun h4 => ?_) (fun h4 => ?_)
   ·replace hm := ifD h4 hm
    refine g_skip (g_n_then (g_seq (g_block (g_sr (g_mv rfl rfl (g_as rfl rfl (g_nx ?_)))))))
    refine g_mv rfl rfl (g_mv rfl rfl (g_mv rfl rfl ?_))
    obtain ⟨t14, h5, hm⟩ := bindO hm
    refine g_val rfl rfl rfl (fun w _ => v_ixR h5 (Tryz.runUnderlying22 w) (Tryz.sizeOf85 w) rfl rfl hna0 hqa0) ?_
    refine g_val rfl rfl rfl (fun w hh => v_ldEA RSt 0 [.int .i64 t14.tenant, .int .i64 t14.lay.lo, .int .i64 t14.lay.hi, .int .i64 t14.seeded.lo, .int .i64 t14.seeded.hi, .int .i64 t14.left.lo, .int .i64 t14.left.hi] h5 (Tryz.isAgg85 w) (Tryz.sizeOf85 w) rfl (hh.seg 0 rfl) rfl (Nat.add_zero _).symm) ?_
    obtain ⟨t16, h6, hm⟩ := bindO hm
    refine g_callH [] [] rfl rfl rfl rfl rfl rfl rfl Tryz.call125 (fun w hh => c_strip_every_strip_Strip_1_1 (⟨t14.tenant, (⟨t14.lay.lo, t14.lay.hi⟩ : Span), (⟨t14.seeded.lo, t14.seeded.hi⟩ : Span), (⟨t14.left.lo, t14.left.hi⟩ : Span)⟩ : Strip) rb w (HV.callee (S0 := []) (vs0 := []) hh (roR hh 1 rfl roN))  h6) (fun l_1 h7 => ?_)
    refine g_nt ?_
    refine g_cond rfl (fun h8 => ?_) (fun h8 => ?_)
    ·replace hm := ifT (h8) hm
     refine g_sr (g_mv rfl rfl (g_as rfl rfl (g_nt (g_ret (g_r_blk (g_r_then (g_r_then ?_)))))))
     refine g_r_blk ?_
     obtain rfl := sj hm
     have hbo := h3 _ rfl
     subst hbo
     refine g_r_then ?_
     replace hm := ocR h2
     refine g_r_then ?_
     obtain rfl := sj hm
     refine g_done rfl (fun w hh => (.tmp rfl .nil)) (fun w hh => ⟨(), rfl, trivial, hh.se [] [] 2 rfl rfl rfl rfl⟩)
    ·replace hm := ifN h8 hm
     refine g_skip (g_n_blk (g_n_then (g_region ?_)))
     obtain ⟨t18, h9, hm⟩ := bindO hm
     refine g_ac h9 rfl rfl rfl (g_mv rfl rfl (g_nil ?_))
     obtain rfl := sj hm
     refine g_n_then ?_
     exact g_again' _ () rfl (trivial) (sE rfl) (fun w hh => hh)
   ·replace hm := ifE h4 hm
    refine g_exit (g_x_then (g_x_then (g_x_blk ?_)))
    obtain rfl := sj hm
    have hbo := h3 _ rfl
    subst hbo
    exact g_leaf () (rfl) (.nil) (fun w hh => hh)
  ·intro j hj
   have h10 := hj
   subst h10
   replace hm := ocL h2
   refine g_n_then (g_sr (g_as rfl rfl (g_nt (g_ret ?_))))
   obtain rfl := sj hm
   refine g_done rfl (fun w hh => (.tmp rfl .nil)) (fun w hh => ⟨(), rfl, trivial, hh.se [] [] 2 rfl rfl rfl rfl⟩)
def m_slices_ContainsFunc_stripStripstripStrip_1 (s0 : (List Strip)) : Option Bool :=
 (m_slices_IndexFunc_stripStripstripStrip_1 s0).bind fun t7 =>
 some (decide (0 ≤ t7))
theorem c_slices_ContainsFunc_stripStripstripStrip_1 (s0 : (List Strip)) (qa0 : Option Addr) (na0 ca0 : Nat) (rb : Nat) (w : World) (hw : HV w (keys [] []) [] [] [(aB qa0, aO qa0, RSt.enc s0), (rb, 0, [.func (.func 92) #[] #[]])] w) (hna0 : s0.length = na0) (hqa0 : AOK na0 qa0) (hla0 : na0 ≤ ca0)  {res : Bool} (hm : m_slices_ContainsFunc_stripStripstripStrip_1 s0 = some res) :
    Calls Tryz.prog 124 #[.slice qa0 na0 ca0, .func (.func 125) #[] #[ptr rb 0]] w (fun en w' => ∃ l : Unit, en = .returned (.bool res) ∧ (True) ∧ HV w (keys [] []) [] [] [] w') := by
  unfold m_slices_ContainsFunc_stripStripstripStrip_1 at hm
  refine g_en Tryz.func124 rfl Tryz.ntmps124 rfl (e := [(0, _), (1, _)]) rfl hw (g_sr (g_as rfl rfl (g_nx (g_mv rfl rfl (g_mv rfl rfl ?_)))))
  obtain ⟨t7, h1, hm⟩ := bindO hm
  refine g_callH [] [] rfl rfl rfl rfl rfl rfl rfl Tryz.call136 (fun w hh => c_slices_IndexFunc_stripStripstripStrip_1 s0 qa0 na0 ca0 rb w (HV.callee (S0 := []) (vs0 := []) hh (roR hh 0 rfl (roR hh 1 rfl roN))) hna0 hqa0 hla0 h1) (fun l h2 => ?_)
  refine g_val rfl rfl rfl (fun _ _ => v_geq rfl rfl) (g_as rfl rfl (g_nt (g_ret ?_)))
  obtain rfl := sj hm
  refine g_done rfl (fun w hh => (.tmp rfl .nil)) (fun w hh => ⟨(), rfl, trivial, hh.se [] [] 2 rfl rfl rfl rfl⟩)
def m_strip_every_stripStrip_1 (l0 : (List Strip)) : Option Bool :=
 (m_slices_ContainsFunc_stripStripstripStrip_1 l0).bind fun t7 =>
 some (!t7)
theorem c_strip_every_stripStrip_1 (l0 : (List Strip)) (qa0 : Option Addr) (na0 ca0 : Nat) (w : World) (hw : HV w (keys [] []) [] [] [(aB qa0, aO qa0, RSt.enc l0)] w) (hna0 : l0.length = na0) (hqa0 : AOK na0 qa0) (hla0 : na0 ≤ ca0) {res : Bool} (hm : m_strip_every_stripStrip_1 l0 = some res) :
    Calls Tryz.prog 89 #[.slice qa0 na0 ca0, .func (.func 92) #[] #[]] w (fun en w' => ∃ l : Unit, en = .returned (.bool res) ∧ (True) ∧ HV w (keys [] []) [] [] [] w') := by
  unfold m_strip_every_stripStrip_1 at hm
  refine g_en Tryz.func89 rfl Tryz.ntmps89 rfl (e := [(0, _), (1, _)]) rfl hw (g_sr ?_)
  refine g_boxV rfl rfl (fun b h1 => ?_)
  refine g_as rfl rfl (g_nx (g_mv rfl rfl (g_val rfl rfl rfl (fun _ _ => v_makeFunc (u := #[]) (u' := #[_]) rfl rfl) ?_)))
  obtain ⟨t7, h2, hm⟩ := bindO hm
  refine g_callH [] [] rfl rfl rfl rfl rfl rfl rfl Tryz.call124 (fun w hh => c_slices_ContainsFunc_stripStripstripStrip_1 l0 qa0 na0 ca0 b w (HV.callee (S0 := []) (vs0 := []) hh (roR hh 0 rfl (roC (bsep (hh.bseg 0 rfl)) roN))) hna0 hqa0 hla0 h2) (fun l h3 => ?_)
  refine g_val rfl rfl rfl (fun _ _ => v_not rfl) (g_as rfl rfl (g_nt (g_ret ?_)))
  obtain rfl := sj hm
  refine g_done rfl (fun w hh => (.tmp rfl .nil)) (fun w hh => ⟨(), rfl, trivial, hh.se [] [] 1 rfl rfl rfl rfl⟩)
def m_strip_Check (s0 : Scalps) : Option Int :=
 ((m_strip_in (s0.strips.length : Int) 1 6).bind fun t10 =>
 if (!t10) = true then
 (some true) else
 ((m_strip_in (s0.carried.length : Int) 1 5).bind fun t16 =>
 some (!t16))).bind fun o =>
 if o = true then
 (some 2) else
 ((m_strip_Scalps_spans s0).bind fun t21 =>
 (m_strip_every_apiSpan t21).bind fun t22 =>
 if (!t22) = true then
 (some 3) else
 ((m_strip_every_stripStrip s0.strips s0).bind fun t28 =>
 if (!t28) = true then
 (some 1) else
 ((m_strip_Scalps_spans s0).bind fun t32 =>
 (m_strip_every_apiSpan_1 t32).bind fun t33 =>
 if (!t33) = true then
 (some 4) else
 ((m_strip_every_stripStrip_1 s0.strips).bind fun t38 =>
 if (!t38) = true then
 (some 8) else
 (some 0)))))
theorem c_strip_Check (s0 : Scalps) (qa0 : Option Addr) (na0 ca0 : Nat) (qa1 : Option Addr) (na1 ca1 : Nat) (w : World) (hw : HV w (keys [] []) [] [] [(aB qa0, aO qa0, RSt.enc s0.strips), (aB qa1, aO qa1, RSp.enc s0.carried)] w) (hna0 : s0.strips.length = na0) (hqa0 : AOK na0 qa0) (hla0 : na0 ≤ ca0) (hna1 : s0.carried.length = na1) (hqa1 : AOK na1 qa1) (hla1 : na1 ≤ ca1) {res : Int} (hm : m_strip_Check s0 = some res) :
    Calls Tryz.prog 32 #[.agg #[.slice qa0 na0 ca0, .slice qa1 na1 ca1]] w (fun en w' => ∃ l : Unit, en = .returned (.int .i64 res) ∧ (True) ∧ HV w (keys [] []) [] [] [] w') := by
  unfold m_strip_Check at hm
  refine g_en Tryz.func32 rfl Tryz.ntmps32 rfl (e := [(0, _)]) rfl hw (g_sr ?_)
  refine g_boxV rfl rfl (fun b h1 => ?_)
  refine g_as rfl rfl (g_nx (g_la [_, _] 0 Tryz.isAgg25 Tryz.sizeOf25 rfl rfl rfl rfl (g_val rfl rfl rfl (fun _ _ => v_makeFunc (u := #[_]) (u' := #[]) rfl rfl) ?_)))
  refine g_allocV (fun w => Tryz.zeroValue120 w) rfl (fun b_1 h2 => ?_)
  refine g_stS (cs' := #[_]) (S' := [_, _]) 0 (fun w => Tryz.sizeOf120 w) rfl rfl rfl rfl rfl rfl rfl (g_nt (g_seq (g_block (g_seq ?_))))
  obtain ⟨o, h3, h4⟩ := bindO hm
  refine g_cut (ι := Unit) (fun l => True) (fun l => [(1, ptr b 0), (3, ptr b_1 0), (6, .bool o)]) (fun l => [(b_1, .cells #[.func (.func 68) #[.agg #[.slice qa0 na0 ca0, .slice qa1 na1 ca1]] #[]] 120 (0, 0)), (b, .cells #[.slice qa0 na0 ca0, .slice qa1 na1 ca1] 25 (0, 0))]) (fun l => []) ?_ ?_
  ·replace hm := h3
   refine g_region (g_fa 0 Tryz.runUnderlying25 rfl Tryz.sizeOf22 rfl rfl (g_lc 1 Tryz.isAgg22 rfl rfl rfl rfl (g_val rfl rfl rfl (fun w _ => v_lenR hna0 (Tryz.runUnderlying22 w) rfl) ?_)))
   obtain ⟨t10, h5, hm⟩ := bindO hm
   refine g_callH [] [] rfl rfl rfl rfl rfl rfl rfl Tryz.call62 (fun w hh => c_strip_in (s0.strips.length : Int) 1 6 w (HV.callee (S0 := []) (vs0 := []) hh roN)  h5) (fun l_1 h6 => ?_)
   refine g_val rfl rfl rfl (fun _ _ => v_not rfl) (g_mv rfl rfl ?_)
   refine g_case 12 rfl (fun h7 => ?_) (fun h7 => ?_)
   ·replace hm := ifT (h7) hm
    refine g_k rfl rfl rfl rfl (g_k rfl rfl rfl rfl (g_k rfl rfl rfl rfl (g_k rfl rfl rfl rfl (g_k rfl rfl rfl rfl (g_pt rfl rfl rfl (g_as rfl rfl (g_nil ?_)))))))
    obtain rfl := sj hm
    exact g_leaf () (trivial) (sE rfl) (fun w hh => hh)
   ·replace hm := ifN h7 hm
    refine v_unguard rfl rfl (g_fa 1 Tryz.runUnderlying25 rfl Tryz.sizeOf23 rfl rfl (v_unguard rfl rfl (g_lc 1 Tryz.isAgg23 rfl rfl rfl rfl (v_unguard rfl rfl (g_val rfl rfl rfl (fun w _ => v_lenR hna1 (Tryz.runUnderlying23 w) rfl) (v_unguard rfl rfl ?_))))))
    obtain ⟨t16, h8, hm⟩ := bindO hm
    refine g_callH [] [] rfl rfl rfl rfl rfl rfl rfl Tryz.call62 (fun w hh => c_strip_in (s0.carried.length : Int) 1 5 w (HV.callee (S0 := []) (vs0 := []) hh roN)  h8) (fun l_2 h9 => ?_)
    refine v_unguard rfl rfl (g_val rfl rfl rfl (fun _ _ => v_not rfl) (g_pf rfl rfl rfl (g_as rfl rfl (g_nil ?_))))
    obtain rfl := sj hm
    exact g_leaf () (trivial) (sE rfl) (fun w hh => hh)
  ·intro l hj
   replace hm := h4
   refine g_n_then ?_
   refine g_cond rfl (fun h10 => ?_) (fun h10 => ?_)
   ·replace hm := ifT (h10) hm
    refine g_sr (g_as rfl rfl (g_nt (g_ret (g_r_blk (g_r_then ?_)))))
    obtain rfl := sj hm
    refine g_done rfl (fun w hh => (.tmp rfl .nil)) (fun w hh => ⟨(), rfl, trivial, hh.se [] [] 2 rfl rfl rfl rfl⟩)
   ·replace hm := ifN h10 hm
    refine g_sr (g_la [_, _] 1 Tryz.isAgg25 Tryz.sizeOf25 rfl rfl rfl rfl ?_)
    obtain ⟨t21, h11, hm⟩ := bindO hm
    refine g_callH [] [] rfl rfl rfl rfl rfl rfl rfl Tryz.call88 (fun w hh => c_strip_Scalps_spans s0 qa0 na0 ca0 qa1 na1 ca1 w (HV.callee (S0 := []) (vs0 := []) hh (roR hh 0 rfl (roR hh 1 rfl roN))) hna0 hqa0 hla0 hna1 hqa1 hla1 h11) (fun l_3 h12 => ?_)
    have h13 := h12
    refine g_se (S' := [_, _]) (vs' := [_]) [0, 1] [0] 0 rfl rfl rfl rfl ?_
    obtain ⟨t22, h14, hm⟩ := bindO hm
    refine g_callH [] [] rfl rfl rfl rfl rfl rfl rfl Tryz.call87 (fun w hh => c_strip_every_apiSpan t21 (qA l_3.q) l_3.n l_3.cap w (HV.callee (S0 := []) (vs0 := []) hh (roC (hh.vsepA 0 rfl h13) roN)) (vlen RSp h13 rfl) (AOK.q (vne h13)) (h13).hle h14) (fun l_4 h15 => ?_)
    refine g_val rfl rfl rfl (fun _ _ => v_not rfl) (g_as rfl rfl (g_nt ?_))
    refine g_cond rfl (fun h16 => ?_) (fun h16 => ?_)
    ·replace hm := ifT (h16) hm
     refine g_sr (g_as rfl rfl (g_nt (g_ret (g_r_blk (g_r_then ?_)))))
     obtain rfl := sj hm
     refine g_done rfl (fun w hh => (.tmp rfl .nil)) (fun w hh => ⟨(), rfl, trivial, hh.se [] [] 2 rfl rfl rfl rfl⟩)
    ·replace hm := ifN h16 hm
     refine g_sr (g_fa 0 Tryz.runUnderlying25 rfl Tryz.sizeOf22 rfl rfl (g_lc 1 Tryz.isAgg22 rfl rfl rfl rfl (g_val rfl rfl rfl (fun _ _ => v_makeFunc (u := #[]) (u' := #[_]) rfl rfl) ?_)))
     obtain ⟨t28, h17, hm⟩ := bindO hm
     refine g_callH [] [] rfl rfl rfl rfl rfl rfl rfl Tryz.call89 (fun w hh => c_strip_every_stripStrip s0.strips s0 qa0 na0 ca0 b_1 qa0 na0 ca0 qa1 na1 ca1 w (HV.callee (S0 := []) (vs0 := []) hh (roR hh 0 rfl (roC (bsep (hh.bseg 0 rfl)) (roR hh 0 rfl (roR hh 1 rfl roN))))) hna0 hqa0 hla0 hna0 hqa0 hla0 hna1 hqa1 hla1 h17) (fun l_5 h18 => ?_)
     refine g_val rfl rfl rfl (fun _ _ => v_not rfl) (g_as rfl rfl (g_nt ?_))
     refine g_cond rfl (fun h19 => ?_) (fun h19 => ?_)
     ·replace hm := ifT (h19) hm
      refine g_sr (g_as rfl rfl (g_nt (g_ret (g_r_blk (g_r_then ?_)))))
      obtain rfl := sj hm
      refine g_done rfl (fun w hh => (.tmp rfl .nil)) (fun w hh => ⟨(), rfl, trivial, hh.se [] [] 2 rfl rfl rfl rfl⟩)
     ·replace hm := ifN h19 hm
      refine g_sr (g_la [_, _] 1 Tryz.isAgg25 Tryz.sizeOf25 rfl rfl rfl rfl ?_)
      obtain ⟨t32, h20, hm⟩ := bindO hm
      refine g_callH [] [] rfl rfl rfl rfl rfl rfl rfl Tryz.call88 (fun w hh => c_strip_Scalps_spans s0 qa0 na0 ca0 qa1 na1 ca1 w (HV.callee (S0 := []) (vs0 := []) hh (roR hh 0 rfl (roR hh 1 rfl roN))) hna0 hqa0 hla0 hna1 hqa1 hla1 h20) (fun l_6 h21 => ?_)
      have h22 := h21
      refine g_se (S' := [_, _]) (vs' := [_, _]) [0, 1] [0, 1] 0 rfl rfl rfl rfl ?_
      obtain ⟨t33, h23, hm⟩ := bindO hm
      refine g_callH [] [] rfl rfl rfl rfl rfl rfl rfl Tryz.call87 (fun w hh => c_strip_every_apiSpan_1 t32 (qA l_6.q) l_6.n l_6.cap w (HV.callee (S0 := []) (vs0 := []) hh (roC (hh.vsepA 0 rfl h22) roN)) (vlen RSp h22 rfl) (AOK.q (vne h22)) (h22).hle h23) (fun l_7 h24 => ?_)
      refine g_val rfl rfl rfl (fun _ _ => v_not rfl) (g_as rfl rfl (g_nt ?_))
      refine g_cond rfl (fun h25 => ?_) (fun h25 => ?_)
      ·replace hm := ifT (h25) hm
       refine g_sr (g_as rfl rfl (g_nt (g_ret (g_r_blk (g_r_then ?_)))))
       obtain rfl := sj hm
       refine g_done rfl (fun w hh => (.tmp rfl .nil)) (fun w hh => ⟨(), rfl, trivial, hh.se [] [] 2 rfl rfl rfl rfl⟩)
      ·replace hm := ifN h25 hm
       refine g_sr (g_fa 0 Tryz.runUnderlying25 rfl Tryz.sizeOf22 rfl rfl (g_lc 1 Tryz.isAgg22 rfl rfl rfl rfl ?_))
       obtain ⟨t38, h26, hm⟩ := bindO hm
       refine g_callH [] [] rfl rfl rfl rfl rfl rfl rfl Tryz.call89 (fun w hh => c_strip_every_stripStrip_1 s0.strips qa0 na0 ca0 w (HV.callee (S0 := []) (vs0 := []) hh (roR hh 0 rfl roN)) hna0 hqa0 hla0 h26) (fun l_8 h27 => ?_)
       refine g_val rfl rfl rfl (fun _ _ => v_not rfl) (g_as rfl rfl (g_nt ?_))
       refine g_cond rfl (fun h28 => ?_) (fun h28 => ?_)
       ·replace hm := ifT (h28) hm
        refine g_sr (g_as rfl rfl (g_nt (g_ret (g_r_blk (g_r_then ?_)))))
        obtain rfl := sj hm
        refine g_done rfl (fun w hh => (.tmp rfl .nil)) (fun w hh => ⟨(), rfl, trivial, hh.se [] [] 2 rfl rfl rfl rfl⟩)
       ·replace hm := ifN h28 hm
        refine g_skip (g_n_blk (g_n_then (g_sr (g_as rfl rfl (g_nt (g_ret ?_))))))
        obtain rfl := sj hm
        refine g_done rfl (fun w hh => (.tmp rfl .nil)) (fun w hh => ⟨(), rfl, trivial, hh.se [] [] 2 rfl rfl rfl rfl⟩)
def m_strip_Scalps_strip (s0 : Scalps) (n1 : Int) : Option Bool :=
 (subc (s0.strips.length : Int) 1).bind fun t9 =>
 (m_strip_in n1 0 t9).bind fun t10 =>
 some t10
theorem c_strip_Scalps_strip (s0 : Scalps) (n1 : Int) (qa0 : Option Addr) (na0 ca0 : Nat) (qa1 : Option Addr) (na1 ca1 : Nat) (w : World) (hw : HV w (keys [] []) [] [] [(aB qa0, aO qa0, RSt.enc s0.strips), (aB qa1, aO qa1, RSp.enc s0.carried)] w) (hna0 : s0.strips.length = na0) (hqa0 : AOK na0 qa0) (hla0 : na0 ≤ ca0) (hna1 : s0.carried.length = na1) (hqa1 : AOK na1 qa1) (hla1 : na1 ≤ ca1) {res : Bool} (hm : m_strip_Scalps_strip s0 n1 = some res) :
    Calls Tryz.prog 67 #[.agg #[.slice qa0 na0 ca0, .slice qa1 na1 ca1], .int .i64 n1] w (fun en w' => ∃ l : Unit, en = .returned (.bool res) ∧ (True) ∧ HV w (keys [] []) [] [] [] w') := by
  unfold m_strip_Scalps_strip at hm
  refine g_en Tryz.func67 rfl Tryz.ntmps67 rfl (e := [(0, _), (1, _)]) rfl hw (g_sr ?_)
  refine g_boxV rfl rfl (fun b h1 => ?_)
  refine g_as rfl rfl (g_nx (g_mv rfl rfl (g_fa 0 Tryz.runUnderlying25 rfl Tryz.sizeOf22 rfl rfl (g_lc 0 Tryz.isAgg22 rfl rfl rfl rfl (g_val rfl rfl rfl (fun w _ => v_lenR hna0 (Tryz.runUnderlying22 w) rfl) ?_)))))
  obtain ⟨t9, h2, hm⟩ := bindO hm
  refine g_val rfl rfl rfl (fun _ _ => v_subc h2 rfl rfl) ?_
  obtain ⟨t10, h3, hm⟩ := bindO hm
  refine g_callH [] [] rfl rfl rfl rfl rfl rfl rfl Tryz.call62 (fun w hh => c_strip_in n1 0 t9 w (HV.callee (S0 := []) (vs0 := []) hh roN)  h3) (fun l h4 => ?_)
  refine g_as rfl rfl (g_nt (g_ret ?_))
  obtain rfl := sj hm
  refine g_done rfl (fun w hh => (.tmp rfl .nil)) (fun w hh => ⟨(), rfl, trivial, hh.se [] [] 2 rfl rfl rfl rfl⟩)
structure m_strip_opened_S0 where
  t21 : Int
  t15 : (List (Pair × Bool))
structure m_strip_opened_S1 where
  k8 : Int
  t15 : (List (Pair × Bool))
def m_strip_opened_L1 (s : m_strip_opened_S0) (s0 : Scalps) (t24 : Strip) (s_1 : m_strip_opened_S1) : Option (m_strip_opened_S1 ⊕ (List (Pair × Bool))) :=
 (addc s.t21 1).bind fun t30 =>
 if s_1.k8 ≤ t30 then
 (((m_strip_Scalps_strip s0 s_1.k8).bind fun t36 =>
 if t36 = true then
 ((some (aset s_1.t15 (⟨t24.tenant, s_1.k8⟩ : Pair) true)).bind fun t15 =>
 some t15) else
 (some s_1.t15)).bind fun o_2 =>
 (addc s_1.k8 1).bind fun t33 =>
 some (.inl (⟨t33, o_2⟩ : m_strip_opened_S1))) else
 (some (.inr s_1.t15))
def m_strip_opened_L0 (s0 : Scalps) (s : m_strip_opened_S0) : Option (m_strip_opened_S0 ⊕ (List (Pair × Bool))) :=
 if s.t21 < (s0.strips.length : Int) then
 ((ix s0.strips s.t21).bind fun t24 =>
 (subc s.t21 1).bind fun t27 =>
 (iterM FU (m_strip_opened_L1 s s0 t24) (⟨t27, s.t15⟩ : m_strip_opened_S1)).bind fun o_1 =>
 (addc s.t21 1).bind fun t45 =>
 some (.inl (⟨t45, o_1⟩ : m_strip_opened_S0))) else
 (some (.inr s.t15))
def m_strip_opened (s0 : Scalps) : Option (Int ⊕ (List (Pair × Bool))) :=
 (m_strip_Check s0).bind fun t10 =>
 if t10 = 0 then
 ((iterM FU (m_strip_opened_L0 s0) (⟨0, []⟩ : m_strip_opened_S0)).bind fun o =>
 some (.inr o)) else
 (if ¬ (t10 = 0) then (some (.inl t10)) else none)
theorem c_strip_opened (s0 : Scalps) (qa0 : Option Addr) (na0 ca0 : Nat) (qa1 : Option Addr) (na1 ca1 : Nat) (w : World) (hw : HV w (keys [] []) [] [] [(aB qa0, aO qa0, RSt.enc s0.strips), (aB qa1, aO qa1, RSp.enc s0.carried)] w) (hna0 : s0.strips.length = na0) (hqa0 : AOK na0 qa0) (hla0 : na0 ≤ ca0) (hna1 : s0.carried.length = na1) (hqa1 : AOK na1 qa1) (hla1 : na1 ≤ ca1) {res : (Int ⊕ (List (Pair × Bool)))} (hm : m_strip_opened s0 = some res) :
    Calls Tryz.prog 57 #[.agg #[.slice qa0 na0 ca0, .slice qa1 na1 ca1]] w (fun en w' => match res with | .inl res_ => (∃ l : Unit, en = .returned (.tuple #[.pointer none, .int .i64 res_]) ∧ (¬ (res_ = 0)) ∧ HV w (keys [] []) [] [] [] w') | .inr res_ => (∃ l : Nat × Nat, en = .returned (.tuple #[ptr l.1 0, .int .i64 0]) ∧ (True) ∧ HV w (keys [] []) [(l.1, .cells #[.slice qa0 na0 ca0, .slice qa1 na1 ca1, .map (some l.2)] 144 (0, 0)), (l.2, gobj (kR RPr) kB res_)] [] [] w')) := by
  unfold m_strip_opened at hm
  refine g_en Tryz.func57 rfl Tryz.ntmps57 rfl (e := [(0, _)]) rfl hw (g_sr ?_)
  refine g_boxV rfl rfl (fun b h1 => ?_)
  refine g_as rfl rfl (g_as rfl rfl (g_nt (g_seq (g_sr (g_la [_, _] 0 Tryz.isAgg25 Tryz.sizeOf25 rfl rfl rfl rfl ?_)))))
  obtain ⟨t10, h2, hm⟩ := bindO hm
  refine g_callH [] [] rfl rfl rfl rfl rfl rfl rfl Tryz.call32 (fun w hh => c_strip_Check s0 qa0 na0 ca0 qa1 na1 ca1 w (HV.callee (S0 := []) (vs0 := []) hh (roR hh 0 rfl (roR hh 1 rfl roN))) hna0 hqa0 hla0 hna1 hqa1 hla1 h2) (fun l h3 => ?_)
  refine g_as rfl rfl (g_nx (g_mv rfl rfl (g_val rfl rfl rfl (fun _ _ => v_neq rfl rfl) (g_nt ?_))))
  refine g_cond rfl (fun h4 => ?_) (fun h4 => ?_)
  ·replace hm := ifF (of_ndec_true h4) hm
   refine g_sr (g_mv rfl rfl (g_as rfl rfl (g_as rfl rfl (g_nt (g_ret (g_r_then ?_))))))
   obtain ⟨h5, hm⟩ := ifO hm
   obtain rfl := sj hm
   refine g_done rfl (fun w hh => (.tmp rfl (.tmp rfl .nil))) (fun w hh => ⟨(), rfl, h5, hh.se [] [] 2 rfl rfl rfl rfl⟩)
  ·replace hm := ifT (of_ndec_false h4) hm
   refine g_skip (g_n_then (g_sr (g_la [_, _] 0 Tryz.isAgg25 Tryz.sizeOf25 rfl rfl rfl rfl ?_)))
   refine g_mkMapV (kR RPr) kB rfl (fun b_1 h6 => ?_)
   refine g_val rfl rfl rfl (fun _ _ => v_build (vs := [(0, _), (1, _)]) (cells := [_, _, _]) rfl rfl) ?_
   refine g_boxV rfl rfl (fun b_2 h7 => ?_)
   refine g_as rfl rfl (g_nt (g_seq (g_sr (g_fa 0 Tryz.runUnderlying25 rfl Tryz.sizeOf22 rfl rfl (g_lc 2 Tryz.isAgg22 rfl rfl rfl rfl (g_val rfl rfl rfl (fun w _ => v_lenR hna0 (Tryz.runUnderlying22 w) rfl) (g_mv rfl rfl ?_)))))))
   refine g_nt ?_
   obtain ⟨o, h8, h9⟩ := bindO hm
   refine g_cut (ι := Unit) (fun l_1 => True) (fun l_1 => [(5, ptr b_2 0)]) (fun l_1 => [(b_2, .cells #[.slice qa0 na0 ca0, .slice qa1 na1 ca1, .map (some b_1)] 144 (0, 0)), (b_1, gobj (kR RPr) kB o), (b, .cells #[.slice qa0 na0 ca0, .slice qa1 na1 ca1] 25 (0, 0))]) (fun l_1 => []) ?_ ?_
   ·replace hm := h8
    refine g_block ?_
    refine g_loopF (ι := Unit) hm (fun s l_2 => True) (fun s l_2 => [(1, ptr b 0), (5, ptr b_2 0), (19, .slice qa0 na0 ca0), (20, .int .i64 (s0.strips.length : Int)), (21, .int .i64 s.t21)]) (fun s l_2 => [(b_2, .cells #[.slice qa0 na0 ca0, .slice qa1 na1 ca1, .map (some b_1)] 144 (0, 0)), (b_1, gobj (kR RPr) kB s.t15), (b, .cells #[.slice qa0 na0 ca0, .slice qa1 na1 ca1] 25 (0, 0))]) (fun s l_2 => []) () (trivial) (sE rfl) (fun w hh => hh) (fun s l_2 r hpl hm h10 => ?_)
    unfold m_strip_opened_L0 at hm
    refine g_sr (g_ls rfl rfl rfl (g_nt (g_seq ?_)))
    refine g_cond rfl (fun h11 => ?_) (fun h11 => ?_)
    ·replace hm := ifD h11 hm
     refine g_skip (g_n_then (g_seq (g_block (g_sr (g_mv rfl rfl ?_)))))
     obtain ⟨t24, h12, hm⟩ := bindO hm
     refine g_val rfl rfl rfl (fun w _ => v_ixR h12 (Tryz.runUnderlying22 w) (Tryz.sizeOf85 w) rfl rfl hna0 hqa0) ?_
     refine g_val rfl rfl rfl (fun w hh => v_ldEA RSt 0 [.int .i64 t24.tenant, .int .i64 t24.lay.lo, .int .i64 t24.lay.hi, .int .i64 t24.seeded.lo, .int .i64 t24.seeded.hi, .int .i64 t24.left.lo, .int .i64 t24.left.hi] h12 (Tryz.isAgg85 w) (Tryz.sizeOf85 w) rfl (hh.seg 0 rfl) rfl (Nat.add_zero _).symm) ?_
     refine g_allocV (fun w => Tryz.zeroValue85 w) rfl (fun b_3 h13 => ?_)
     refine g_as rfl rfl (g_stSA (us := #[_, _, _, _, _, _, _]) (cs' := [_, _, _, _, _, _, _]) (S' := [_, _, _, _]) 0 (fun w => Tryz.sizeOf85 w) rfl rfl rfl rfl rfl rfl rfl (g_nx (g_mv rfl rfl ?_)))
     obtain ⟨t27, h14, hm⟩ := bindO hm
     refine g_val rfl rfl rfl (fun _ _ => v_subc h14 rfl rfl) (g_as rfl rfl (g_nt ?_))
     obtain ⟨o_1, h15, h16⟩ := bindO hm
     refine g_cut (ι := Unit) (fun l_3 => True) (fun l_3 => [(1, ptr b 0), (5, ptr b_2 0), (19, .slice qa0 na0 ca0), (20, .int .i64 (s0.strips.length : Int)), (21, .int .i64 s.t21)]) (fun l_3 => [(b_3, .cells #[.int .i64 t24.tenant, .int .i64 t24.lay.lo, .int .i64 t24.lay.hi, .int .i64 t24.seeded.lo, .int .i64 t24.seeded.hi, .int .i64 t24.left.lo, .int .i64 t24.left.hi] 85 (0, 0)), (b_2, .cells #[.slice qa0 na0 ca0, .slice qa1 na1 ca1, .map (some b_1)] 144 (0, 0)), (b_1, gobj (kR RPr) kB o_1), (b, .cells #[.slice qa0 na0 ca0, .slice qa1 na1 ca1] 25 (0, 0))]) (fun l_3 => []) ?_ ?_
     ·replace hm := h15
      refine g_block ?_
      refine g_loopF (ι := Unit) hm (fun s_1 l_4 => True) (fun s_1 l_4 => [(1, ptr b 0), (5, ptr b_2 0), (6, .int .i64 s.t21), (7, ptr b_3 0), (8, .int .i64 s_1.k8), (19, .slice qa0 na0 ca0), (20, .int .i64 (s0.strips.length : Int)), (21, .int .i64 s.t21)]) (fun s_1 l_4 => [(b_3, .cells #[.int .i64 t24.tenant, .int .i64 t24.lay.lo, .int .i64 t24.lay.hi, .int .i64 t24.seeded.lo, .int .i64 t24.seeded.hi, .int .i64 t24.left.lo, .int .i64 t24.left.hi] 85 (0, 0)), (b_2, .cells #[.slice qa0 na0 ca0, .slice qa1 na1 ca1, .map (some b_1)] 144 (0, 0)), (b_1, gobj (kR RPr) kB s_1.t15), (b, .cells #[.slice qa0 na0 ca0, .slice qa1 na1 ca1] 25 (0, 0))]) (fun s_1 l_4 => []) () (trivial) (sE rfl) (fun w hh => hh) (fun s_1 l_4 r_1 hpl hm h17 => ?_)
      unfold m_strip_opened_L1 at hm
      refine g_seq (g_sr (g_mv rfl rfl (g_mv rfl rfl ?_)))
      obtain ⟨t30, h18, hm⟩ := bindO hm
      refine g_ac h18 rfl rfl rfl (g_val rfl rfl rfl (fun _ _ => v_leq rfl rfl) (g_nt ?_))
      refine g_cond rfl (fun h19 => ?_) (fun h19 => ?_)
      ·replace hm := ifD h19 hm
       refine g_skip (g_n_then (g_seq ?_))
       obtain ⟨o_2, h20, h21⟩ := bindO hm
       refine g_cut (ι := Unit) (fun l_5 => True) (fun l_5 => [(1, ptr b 0), (5, ptr b_2 0), (6, .int .i64 s.t21), (7, ptr b_3 0), (8, .int .i64 s_1.k8), (19, .slice qa0 na0 ca0), (20, .int .i64 (s0.strips.length : Int)), (21, .int .i64 s.t21)]) (fun l_5 => [(b_3, .cells #[.int .i64 t24.tenant, .int .i64 t24.lay.lo, .int .i64 t24.lay.hi, .int .i64 t24.seeded.lo, .int .i64 t24.seeded.hi, .int .i64 t24.left.lo, .int .i64 t24.left.hi] 85 (0, 0)), (b_2, .cells #[.slice qa0 na0 ca0, .slice qa1 na1 ca1, .map (some b_1)] 144 (0, 0)), (b_1, gobj (kR RPr) kB o_2), (b, .cells #[.slice qa0 na0 ca0, .slice qa1 na1 ca1] 25 (0, 0))]) (fun l_5 => []) ?_ ?_
       ·replace hm := h20
        refine g_block (g_sr (g_la [_, _] 3 Tryz.isAgg25 Tryz.sizeOf25 rfl rfl rfl rfl (g_mv rfl rfl ?_)))
        obtain ⟨t36, h22, hm⟩ := bindO hm
        refine g_callH [] [] rfl rfl rfl rfl rfl rfl rfl Tryz.call67 (fun w hh => c_strip_Scalps_strip s0 s_1.k8 qa0 na0 ca0 qa1 na1 ca1 w (HV.callee (S0 := []) (vs0 := []) hh (roR hh 0 rfl (roR hh 1 rfl roN))) hna0 hqa0 hla0 hna1 hqa1 hla1 h22) (fun l_6 h23 => ?_)
        refine g_nt ?_
        refine g_cond rfl (fun h24 => ?_) (fun h24 => ?_)
        ·replace hm := ifT (h24) hm
         refine g_draw none (.free 0 (.free 1 (.free 2 (.hoist 3 (.free 4 (.hoist 5 (.free 6 (.free 7 (.one 8 .done))))))))) (HV _ _ [(b_3, .cells #[.int .i64 t24.tenant, .int .i64 t24.lay.lo, .int .i64 t24.lay.hi, .int .i64 t24.seeded.lo, .int .i64 t24.seeded.hi, .int .i64 t24.left.lo, .int .i64 t24.left.hi] 85 (0, 0)), (b_2, .cells #[.slice qa0 na0 ca0, .slice qa1 na1 ca1, .map (some b_1)] 144 (0, 0)), (b, .cells #[.slice qa0 na0 ca0, .slice qa1 na1 ca1] 25 (0, 0))] [] _) rfl (by decide +kernel) (fun w k hh => hh.draw k) (hsE [0, 1, 3] [] 0 rfl rfl rfl rfl) ?_
         refine p_mv rfl rfl rfl (p_free rfl rfl rfl rfl (fun _ _ => v_nilCheck rfl) (p_fa 2 Tryz.runUnderlying144 Tryz.sizeOf142 rfl rfl rfl rfl (p_lc 1 Tryz.isAgg142 rfl rfl rfl rfl rfl (p_fa 0 Tryz.runUnderlying85 Tryz.sizeOf3 rfl rfl rfl rfl (p_lc 0 Tryz.isAgg3 rfl rfl rfl rfl rfl (p_mv rfl rfl rfl (p_free rfl rfl rfl rfl (fun _ _ => v_build (vs := [(0, _), (1, _)]) (cells := [_, _]) rfl rfl) ?_)))))))
         refine p_one rfl ?_
         obtain ⟨t15, ht15, hm⟩ := bindO hm
         refine g_mapUpV (k := (⟨t24.tenant, s_1.k8⟩ : Pair)) (v := true) 2 (fun w => Tryz.runUnderlying142 w) gxkey126 rfl rfl rfl rfl (Option.some.inj ht15) rfl (p_next (hsE [0, 1, 3] [] 0 rfl rfl rfl rfl) (p_done (g_n_blk ?_)))
         obtain rfl := sj hm
         exact g_leaf () (trivial) (sE rfl) (fun w hh => hh)
        ·replace hm := ifN h24 hm
         refine g_skip (g_n_blk ?_)
         obtain rfl := sj hm
         exact g_leaf () (trivial) (sE rfl) (fun w hh => hh)
       ·intro l_5 hj
        replace hm := h21
        refine g_n_then (g_region (g_mv rfl rfl ?_))
        obtain ⟨t33, h25, hm⟩ := bindO hm
        refine g_ac h25 rfl rfl rfl (g_as rfl rfl (g_nil ?_))
        obtain rfl := sj hm
        refine g_n_then ?_
        exact g_again' _ () rfl (trivial) (sE rfl) (fun w hh => hh)
      ·replace hm := ifE h19 hm
       refine g_exit (g_x_then (g_x_then (g_x_blk ?_)))
       obtain rfl := sj hm
       have hbo := h17 _ rfl
       subst hbo
       exact g_leaf () (trivial) (sE rfl) (fun w hh => hh)
     ·intro l_3 hj
      replace hm := h16
      refine g_n_blk (g_n_then (g_region ?_))
      obtain ⟨t45, h26, hm⟩ := bindO hm
      refine g_ac h26 rfl rfl rfl (g_mv rfl rfl (g_nil ?_))
      obtain rfl := sj hm
      refine g_n_then ?_
      exact g_again' _ () rfl (trivial) (sE rfl) (hsE [1, 2, 3] [] 0 rfl rfl rfl rfl)
    ·replace hm := ifE h11 hm
     refine g_exit (g_x_then (g_x_then (g_x_blk ?_)))
     obtain rfl := sj hm
     have hbo := h10 _ rfl
     subst hbo
     exact g_leaf () (trivial) (sE rfl) (fun w hh => hh)
   ·intro l_1 hj
    replace hm := h9
    refine g_n_then (g_sr (g_mv rfl rfl (g_as rfl rfl (g_as rfl rfl (g_nt (g_ret ?_))))))
    obtain rfl := sj hm
    refine g_done rfl (fun w hh => (.tmp rfl (.tmp rfl .nil))) (fun w hh => ⟨(b_2, b_1), rfl, trivial, hh.se [0, 1] [] 2 rfl rfl rfl rfl⟩)
def m_strip_some (holds0_f00 : (List Strip)) (holds0_f01 : (List Span)) : Option Unit :=
 some ()
theorem c_strip_some (holds0_f00 : (List Strip)) (holds0_f01 : (List Span)) (rb : Nat) (qa1 : Option Addr) (na1 ca1 : Nat) (qa2 : Option Addr) (na2 ca2 : Nat) (mv : Value) (w : World) (hw : HV w (keys [] []) [] [] [(rb, 0, [.slice qa1 na1 ca1, .slice qa2 na2 ca2, mv]), (aB qa1, aO qa1, RSt.enc holds0_f00), (aB qa2, aO qa2, RSp.enc holds0_f01)] w)  (hna1 : holds0_f00.length = na1) (hqa1 : AOK na1 qa1) (hla1 : na1 ≤ ca1) (hna2 : holds0_f01.length = na2) (hqa2 : AOK na2 qa2) (hla2 : na2 ≤ ca2) {res : Unit} (hm : m_strip_some holds0_f00 holds0_f01 = some res) :
    Calls Tryz.prog 80 #[.func (.func 83) #[ptr rb 0] #[]] w (fun en w' => ∃ l : Nat, en = .returned (.agg #[.func (.func 120) #[] #[ptr l 0]]) ∧ (True) ∧ HV w (keys [] []) [(l, .cells #[.func (.func 83) #[ptr rb 0] #[]] 135 (0, 0))] [] [] w') := by
  unfold m_strip_some at hm
  refine g_en Tryz.func80 rfl Tryz.ntmps80 rfl (e := [(0, _)]) rfl hw (g_sr ?_)
  refine g_boxV rfl rfl (fun b h1 => ?_)
  refine g_allocV (fun w => Tryz.zeroValue115 w) rfl (fun b_1 h2 => ?_)
  refine g_nx (g_val rfl rfl rfl (fun _ _ => v_makeFunc (u := #[]) (u' := #[_]) rfl rfl) (g_val rfl rfl rfl (fun _ _ => v_build (vs := [(0, _)]) (cells := [_]) rfl rfl) (g_stSA (us := #[_]) (cs' := [_]) (S' := [_, _]) 0 (fun w => Tryz.sizeOf115 w) rfl rfl rfl rfl rfl rfl rfl (g_nt (g_ret ?_)))))
  obtain rfl := sj hm
  refine g_done rfl (fun w hh => (.cell rfl (loadVar_agg (vs := [_]) (Tryz.isAgg115 _) (Tryz.sizeOf115 _) (hh.cells 0 rfl rfl)) .nil)) (fun w hh => ⟨b, rfl, trivial, hh.se [1] [] 3 rfl rfl rfl rfl⟩)
def m_strip_theft (d00 : (List Strip)) (d01 : (List Span)) : Option Unit :=
 (m_strip_some d00 d01).bind fun t5 =>
 some ()
theorem c_strip_theft (d00 : (List Strip)) (d01 : (List Span)) (rb : Nat) (qa1 : Option Addr) (na1 ca1 : Nat) (qa2 : Option Addr) (na2 ca2 : Nat) (mv : Value) (w : World) (hw : HV w (keys [] []) [] [] [(rb, 0, [.slice qa1 na1 ca1, .slice qa2 na2 ca2, mv]), (aB qa1, aO qa1, RSt.enc d00), (aB qa2, aO qa2, RSp.enc d01)] w)  (hna1 : d00.length = na1) (hqa1 : AOK na1 qa1) (hla1 : na1 ≤ ca1) (hna2 : d01.length = na2) (hqa2 : AOK na2 qa2) (hla2 : na2 ≤ ca2) {res : Unit} (hm : m_strip_theft d00 d01 = some res) :
    Calls Tryz.prog 59 #[ptr rb 0] w (fun en w' => ∃ l : Nat, en = .returned (.agg #[.func (.func 120) #[] #[ptr l 0]]) ∧ (True) ∧ HV w (keys [] []) [(l, .cells #[.func (.func 83) #[ptr rb 0] #[]] 135 (0, 0))] [] [] w') := by
  unfold m_strip_theft at hm
  refine g_en Tryz.func59 rfl Tryz.ntmps59 rfl (e := [(0, _)]) rfl hw (g_sr ?_)
  refine g_allocV (fun w => Tryz.zeroValue115 w) rfl (fun b h1 => ?_)
  refine g_nx (g_mv rfl rfl (g_val rfl rfl rfl (fun _ _ => v_makeFunc (u := #[_]) (u' := #[]) rfl rfl) ?_))
  obtain ⟨t5, h2, hm⟩ := bindO hm
  refine g_callH [] [] rfl rfl rfl rfl rfl rfl rfl Tryz.call80 (fun w hh => c_strip_some d00 d01 rb qa1 na1 ca1 qa2 na2 ca2 mv w (HV.callee (S0 := []) (vs0 := []) hh (roR hh 0 rfl (roR hh 1 rfl (roR hh 2 rfl roN)))) hna1 hqa1 hla1 hna2 hqa2 hla2 h2) (fun l h3 => ?_)
  refine g_se (S' := [_, _]) (vs' := []) [0, 1] [] 0 rfl rfl rfl rfl (g_stSA (us := #[_]) (cs' := [_]) (S' := [_, _]) 1 (fun w => Tryz.sizeOf115 w) rfl rfl rfl rfl rfl rfl rfl (g_nt (g_ret ?_)))
  obtain rfl := sj hm
  refine g_done rfl (fun w hh => (.cell rfl (loadVar_agg (vs := [_]) (Tryz.isAgg115 _) (Tryz.sizeOf115 _) (hh.cells 1 rfl rfl)) .nil)) (fun w hh => ⟨l, rfl, trivial, hh.se [0] [] 3 rfl rfl rfl rfl⟩)
def m_strip_desk_other (d00 : (List Strip)) (d01 : (List Span)) (p1 : Pair) : Option Bool :=
 (ix d00 p1.strip).bind fun t12 =>
 some (!decide (t12.tenant = p1.tenant))
theorem c_strip_desk_other (d00 : (List Strip)) (d01 : (List Span)) (p1 : Pair) (rb : Nat) (qa1 : Option Addr) (na1 ca1 : Nat) (qa2 : Option Addr) (na2 ca2 : Nat) (mv : Value) (w : World) (hw : HV w (keys [] []) [] [] [(rb, 0, [.slice qa1 na1 ca1, .slice qa2 na2 ca2, mv]), (aB qa1, aO qa1, RSt.enc d00), (aB qa2, aO qa2, RSp.enc d01)] w)  (hna1 : d00.length = na1) (hqa1 : AOK na1 qa1) (hla1 : na1 ≤ ca1) (hna2 : d01.length = na2) (hqa2 : AOK na2 qa2) (hla2 : na2 ≤ ca2) {res : Bool} (hm : m_strip_desk_other d00 d01 p1 = some res) :
    Calls Tryz.prog 83 #[ptr rb 0, .agg #[.int .i64 p1.tenant, .int .i64 p1.strip]] w (fun en w' => ∃ l : Unit, en = .returned (.bool res) ∧ (True) ∧ HV w (keys [] []) [] [] [] w') := by
  unfold m_strip_desk_other at hm
  refine g_en Tryz.func83 rfl Tryz.ntmps83 rfl (e := [(0, _), (1, _)]) rfl hw (g_sr ?_)
  refine g_boxV rfl rfl (fun b h1 => ?_)
  refine g_as rfl rfl (g_nt (g_seq ?_))
  refine g_draw none (.free 0 (.free 1 (.free 2 (.free 3 (.hoist 4 (.free 5 (.hoist 6 (.free 7 (.free 8 (.hoist 9 (.free 10 (.hoist 11 (.free 12 (.free 13 .done)))))))))))))) _ rfl (by decide +kernel) (fun w k hh => hh.draw k) (fun w hh => hh) ?_
  refine p_mv rfl rfl rfl (p_free rfl rfl rfl rfl (fun _ _ => v_nilCheck rfl) (p_fa 0 Tryz.runUnderlying144 Tryz.sizeOf25 rfl rfl rfl rfl (p_fa 0 Tryz.runUnderlying25 Tryz.sizeOf22 rfl rfl rfl rfl (p_hoist rfl rfl rfl rfl (fun w hh => v_load (Tryz.isAgg22 w) rfl (segCell (hh.seg 0 rfl) 0 rfl)) (p_fa 1 Tryz.runUnderlying126 Tryz.sizeOf3 rfl rfl rfl rfl (p_lc 0 Tryz.isAgg3 rfl rfl rfl rfl rfl ?_))))))
  obtain ⟨t12, h2, hm⟩ := bindO hm
  refine p_free rfl rfl rfl rfl (fun w _ => v_ixR h2 (Tryz.runUnderlying22 w) (Tryz.sizeOf85 w) rfl rfl hna1 hqa1) (p_fa 0 Tryz.runUnderlying85 Tryz.sizeOf3 rfl rfl rfl rfl (p_hoist rfl rfl rfl rfl (fun w hh => v_ldE RSt 0 h2 (Tryz.isAgg3 w) rfl (hh.seg 1 rfl) rfl rfl) (p_fa 0 Tryz.runUnderlying126 Tryz.sizeOf3 rfl rfl rfl rfl (p_lc 0 Tryz.isAgg3 rfl rfl rfl rfl rfl (p_free rfl rfl rfl rfl (fun _ _ => v_neq rfl rfl) (p_free rfl rfl rfl rfl (fun _ _ => v_assign rfl) (p_done ?_)))))))
  refine g_n_then (g_ret ?_)
  obtain rfl := sj hm
  refine g_done rfl (fun w hh => (.tmp rfl .nil)) (fun w hh => ⟨(), rfl, trivial, hh.se [] [] 3 rfl rfl rfl rfl⟩)
def m_strip_some_1 (p0 : Pair) (a11_f00 : (List Strip)) (a11_f01 : (List Span)) : Option Int :=
 (m_strip_desk_other a11_f00 a11_f01 p0).bind fun t6 =>
 if t6 = true then
 (some 1) else
 (some 0)
theorem c_strip_some_1 (p0 : Pair) (a11_f00 : (List Strip)) (a11_f01 : (List Span)) (rb : Nat) (rb_1 : Nat) (qa2 : Option Addr) (na2 ca2 : Nat) (qa3 : Option Addr) (na3 ca3 : Nat) (mv : Value) (w : World) (hw : HV w (keys [] []) [] [] [(rb, 0, [.func (.func 83) #[ptr rb_1 0] #[]]), (rb_1, 0, [.slice qa2 na2 ca2, .slice qa3 na3 ca3, mv]), (aB qa2, aO qa2, RSt.enc a11_f00), (aB qa3, aO qa3, RSp.enc a11_f01)] w)   (hna2 : a11_f00.length = na2) (hqa2 : AOK na2 qa2) (hla2 : na2 ≤ ca2) (hna3 : a11_f01.length = na3) (hqa3 : AOK na3 qa3) (hla3 : na3 ≤ ca3) {res : Int} (hm : m_strip_some_1 p0 a11_f00 a11_f01 = some res) :
    Calls Tryz.prog 120 #[.agg #[.int .i64 p0.tenant, .int .i64 p0.strip], ptr rb 0] w (fun en w' => ∃ l : Unit, en = .returned (.int .i64 res) ∧ (True) ∧ HV w (keys [] []) [] [] [] w') := by
  unfold m_strip_some_1 at hm
  refine g_en Tryz.func120 rfl Tryz.ntmps120 rfl (e := [(0, _), (1, _)]) rfl hw (g_sr ?_)
  refine g_boxV rfl rfl (fun b h1 => ?_)
  refine g_as rfl rfl (g_nt (g_seq (g_sr (g_val rfl rfl rfl (fun w hh => v_load (Tryz.isAgg135 w) rfl (segCell (hh.seg 0 rfl) 0 rfl)) (g_la [_, _] 0 Tryz.isAgg126 Tryz.sizeOf126 rfl rfl rfl rfl ?_)))))
  obtain ⟨t6, h2, hm⟩ := bindO hm
  refine g_callH [] [] rfl rfl rfl rfl rfl rfl rfl Tryz.call83 (fun w hh => c_strip_desk_other a11_f00 a11_f01 p0 rb_1 qa2 na2 ca2 qa3 na3 ca3 mv w (HV.callee (S0 := []) (vs0 := []) hh (roR hh 1 rfl (roR hh 2 rfl (roR hh 3 rfl roN)))) hna2 hqa2 hla2 hna3 hqa3 hla3 h2) (fun l h3 => ?_)
  refine g_nt ?_
  refine g_cond rfl (fun h4 => ?_) (fun h4 => ?_)
  ·replace hm := ifT (h4) hm
   refine g_sr (g_as rfl rfl (g_nt (g_ret (g_r_then ?_))))
   obtain rfl := sj hm
   refine g_done rfl (fun w hh => (.tmp rfl .nil)) (fun w hh => ⟨(), rfl, trivial, hh.se [] [] 4 rfl rfl rfl rfl⟩)
  ·replace hm := ifN h4 hm
   refine g_skip (g_n_then (g_sr (g_as rfl rfl (g_nt (g_ret ?_)))))
   obtain rfl := sj hm
   refine g_done rfl (fun w hh => (.tmp rfl .nil)) (fun w hh => ⟨(), rfl, trivial, hh.se [] [] 4 rfl rfl rfl rfl⟩)
def m_strip_desk_reach (d00 : (List Strip)) (d01 : (List Span)) (tenant1 : Int) : Option Int :=
 some tenant1
theorem c_strip_desk_reach (d00 : (List Strip)) (d01 : (List Span)) (tenant1 : Int) (rb : Nat) (qa1 : Option Addr) (na1 ca1 : Nat) (qa2 : Option Addr) (na2 ca2 : Nat) (mv : Value) (w : World) (hw : HV w (keys [] []) [] [] [(rb, 0, [.slice qa1 na1 ca1, .slice qa2 na2 ca2, mv]), (aB qa1, aO qa1, RSt.enc d00), (aB qa2, aO qa2, RSp.enc d01)] w)  (hna1 : d00.length = na1) (hqa1 : AOK na1 qa1) (hla1 : na1 ≤ ca1) (hna2 : d01.length = na2) (hqa2 : AOK na2 qa2) (hla2 : na2 ≤ ca2) {res : Int} (hm : m_strip_desk_reach d00 d01 tenant1 = some res) :
    Calls Tryz.prog 64 #[ptr rb 0, .int .i64 tenant1] w (fun en w' => ∃ l : Nat × Nat, en = .returned (.func (.func 112) #[] #[ptr l.1 0, ptr l.2 0]) ∧ (True) ∧ HV w (keys [] []) [(l.1, .cells #[ptr rb 0] 107 (0, 0)), (l.2, .cells #[.int .i64 res] 3 (0, 0))] [] [] w') := by
  unfold m_strip_desk_reach at hm
  refine g_en Tryz.func64 rfl Tryz.ntmps64 rfl (e := [(0, _), (1, _)]) rfl hw (g_sr ?_)
  refine g_boxV rfl rfl (fun b h1 => ?_)
  refine g_boxV rfl rfl (fun b_1 h2 => ?_)
  refine g_as rfl rfl (g_nx (g_val rfl rfl rfl (fun _ _ => v_makeFunc (u := #[]) (u' := #[_, _]) rfl rfl) (g_as rfl rfl (g_nt (g_ret ?_)))))
  obtain rfl := sj hm
  refine g_done rfl (fun w hh => (.tmp rfl .nil)) (fun w hh => ⟨(b, b_1), rfl, trivial, hh.se [1, 0] [] 3 rfl rfl rfl rfl⟩)
structure m_strip_desk_laid_1_S0 where
  t19 : Int
  t12 : (List Wy)
def m_strip_desk_laid_1_L0 (d00 : (List Strip)) (s : m_strip_desk_laid_1_S0) : Option (m_strip_desk_laid_1_S0 ⊕ (List Wy)) :=
 if s.t19 < (d00.length : Int) then
 ((ix d00 s.t19).bind fun t22 =>
 (addc 1 s.t19).bind fun t30 =>
 (m_strip_Strip_gone (⟨t22.tenant, (⟨t22.lay.lo, t22.lay.hi⟩ : Span), (⟨t22.seeded.lo, t22.seeded.hi⟩ : Span), (⟨t22.left.lo, t22.left.hi⟩ : Span)⟩ : Strip)).bind fun t32 =>
 (m_strip_Strip_gone (⟨t22.tenant, (⟨t22.lay.lo, t22.lay.hi⟩ : Span), (⟨t22.seeded.lo, t22.seeded.hi⟩ : Span), (⟨t22.left.lo, t22.left.hi⟩ : Span)⟩ : Strip)).bind fun t35 =>
 (appc 48 s.t12 [(⟨0, t30, t32.lo, t35.hi, 0, 0⟩ : Wy)]).bind fun t39 =>
 (addc s.t19 1).bind fun t42 =>
 some (.inl (⟨t42, t39⟩ : m_strip_desk_laid_1_S0))) else
 (some (.inr s.t12))
structure m_strip_desk_laid_1_S1 where
  t49 : Int
  t12 : (List Wy)
def m_strip_desk_laid_1_F2 (s_1 : m_strip_desk_laid_1_S1) (c1_0 : (Pair → Option Int)) (x : Int) (s_2 : (List Wy)) : Option (List Wy) :=
 (addc 1 x).bind fun t64 =>
 (addc 7 s_1.t49).bind fun t66 =>
 (c1_0 (⟨s_1.t49, x⟩ : Pair)).bind fun t72 =>
 (appc 48 s_2 [(⟨t64, t66, 0, 1000000, t72, 0⟩ : Wy)]).bind fun t75 =>
 some t75
def m_strip_desk_laid_1_L1 (d01 : (List Span)) (d00 : (List Strip)) (c1_0 : (Pair → Option Int)) (d02 : (List (Pair × Bool))) (s_1 : m_strip_desk_laid_1_S1) : Option (m_strip_desk_laid_1_S1 ⊕ (List Wy)) :=
 if s_1.t49 < (d01.length : Int) then
 ((ix d01 s_1.t49).bind fun t52 =>
 (m_strip_desk_reach d00 d01 s_1.t49).bind fun t56 =>
 if (d00.length : Int) ≤ 1000000 then ((iterL (m_strip_desk_laid_1_F2 s_1 c1_0) (reachL d00.length d02 t56) s_1.t12).bind fun o_2 =>
 (addc 7 s_1.t49).bind fun t84 =>
 (appc 48 o_2 [(⟨t84, 0, t52.lo, t52.hi, 0, 0⟩ : Wy)]).bind fun t91 =>
 (addc s_1.t49 1).bind fun t94 =>
 some (.inl (⟨t94, t91⟩ : m_strip_desk_laid_1_S1))) else none) else
 (some (.inr s_1.t12))
def m_strip_desk_laid_1 (d00 : (List Strip)) (d01 : (List Span)) (d02 : (List (Pair × Bool))) (c1_0 : (Pair → Option Int)) : Option (List Wy) :=
 (iterM FU (m_strip_desk_laid_1_L0 d00) (⟨0, []⟩ : m_strip_desk_laid_1_S0)).bind fun o =>
 (iterM FU (m_strip_desk_laid_1_L1 d01 d00 c1_0 d02) (⟨0, o⟩ : m_strip_desk_laid_1_S1)).bind fun o_1 =>
 some o_1
theorem c_strip_desk_laid_1 (d00 : (List Strip)) (d01 : (List Span)) (d02 : (List (Pair × Bool))) (c1_0 : (Pair → Option Int)) (rb : Nat) (qa1 : Option Addr) (na1 ca1 : Nat) (qa2 : Option Addr) (na2 ca2 : Nat) (pb : Nat) (f_c1_0 : FuncId) (fs_c1_0 cs_c1_0 : Array Value) (T_c1_0 : List Sg) (w : World) (hw : HV w (keys [(pb, gobj (kR RPr) kB d02)] []) [(pb, gobj (kR RPr) kB d02)] [] ([(rb, 0, [.slice qa1 na1 ca1, .slice qa2 na2 ca2, .map (some pb)]), (aB qa1, aO qa1, RSt.enc d00), (aB qa2, aO qa2, RSp.enc d01)] ++ T_c1_0) w)  (hna1 : d00.length = na1) (hqa1 : AOK na1 qa1) (hla1 : na1 ≤ ca1) (hna2 : d01.length = na2) (hqa2 : AOK na2 qa2) (hla2 : na2 ≤ ca2) (hcl_c1_0 : ClOK Tryz.prog f_c1_0 fs_c1_0 cs_c1_0 T_c1_0 (fun x : Pair => [.agg #[.int .i64 x.tenant, .int .i64 x.strip]]) (fun x : Int => .int .i64 x) c1_0) {res : (List Wy)} (hm : m_strip_desk_laid_1 d00 d01 d02 c1_0 = some res) :
    Calls Tryz.prog 103 #[ptr rb 0, .agg #[.func (.func f_c1_0) fs_c1_0 cs_c1_0]] w (fun en w' => ∃ l : Nat × VL, en = .returned (ptr l.1 0) ∧ (VOK 6 l.2.n l.2.cap (RWay.enc res) l.2.sp l.2.q) ∧ HV w (keys [(pb, gobj (kR RPr) kB d02)] []) [(pb, gobj (kR RPr) kB d02), (l.1, .cells #[slv l.2.q l.2.n l.2.cap] 154 (0, 0))] [⟨156, RWay.enc res, l.2.sp, l.2.q, []⟩] [] w') := by
  unfold m_strip_desk_laid_1 at hm
  refine g_enterM (args := [ptr rb 0, .agg #[.func (.func f_c1_0) fs_c1_0 cs_c1_0]]) Tryz.func103 rfl Tryz.ntmps103 rfl (e := [(0, _), (1, _)]) rfl (H := HV w (keys [(pb, gobj (kR RPr) kB d02)] []) [(pb, gobj (kR RPr) kB d02)] [] ([(rb, 0, [.slice qa1 na1 ca1, .slice qa2 na2 ca2, .map (some pb)]), (aB qa1, aO qa1, RSt.enc d00), (aB qa2, aO qa2, RSp.enc d01)] ++ T_c1_0)) hw ?_
  refine g_noMarks (g_sr ?_)
  refine g_boxV rfl rfl (fun b h2 => ?_)
  refine g_as rfl rfl (g_nx (g_val rfl rfl rfl (fun _ _ => v_build (vs := []) (cells := [_]) rfl rfl) ?_))
  refine g_boxV rfl rfl (fun b_1 h3 => ?_)
  refine g_allocV (fun w => Tryz.zeroValue110 w) rfl (fun b_2 h4 => ?_)
  refine g_stS (cs' := #[_]) (S' := [_, _, _, _]) 0 (fun w => Tryz.sizeOf110 w) rfl rfl rfl rfl rfl rfl rfl (g_nt (g_seq (g_sr (g_mv rfl rfl (g_val rfl rfl rfl (fun _ _ => v_nilCheck rfl) (g_fa 0 Tryz.runUnderlying144 rfl Tryz.sizeOf25 rfl rfl (g_fa 0 Tryz.runUnderlying25 rfl Tryz.sizeOf22 rfl rfl ?_)))))))
  refine g_val rfl rfl rfl (fun w hh => v_load (Tryz.isAgg22 w) rfl (segCell (hh.seg 0 rfl) 0 rfl)) (g_val rfl rfl rfl (fun w _ => v_lenR hna1 (Tryz.runUnderlying22 w) rfl) (g_mv rfl rfl (g_nt (g_vnil 156 ?_))))
  obtain ⟨o, h5, h6⟩ := bindO hm
  refine g_cutM (ι := VL) (fun l => mks []) (fun l => VOK 6 l.n l.cap (RWay.enc o) l.sp l.q) (fun l => [(0, ptr rb 0), (3, ptr b 0), (5, ptr b_2 0)]) (fun l => [(b_2, .cells #[ptr b_1 0] 110 (0, 0)), (b_1, .cells #[slv l.q l.n l.cap] 154 (0, 0)), (b, .cells #[.func (.func f_c1_0) fs_c1_0 cs_c1_0] 115 (0, 0)), (pb, gobj (kR RPr) kB d02)]) (fun l => [⟨156, RWay.enc o, l.sp, l.q, []⟩, mkV []]) ?_ ?_
  ·replace hm := h5
   refine g_block ?_
   refine g_loopFM (ι := VL) hm (fun s l_1 => mks []) (fun s l_1 => VOK 6 l_1.n l_1.cap (RWay.enc s.t12) l_1.sp l_1.q) (fun s l_1 => [(0, ptr rb 0), (3, ptr b 0), (5, ptr b_2 0), (17, .slice qa1 na1 ca1), (18, .int .i64 (d00.length : Int)), (19, .int .i64 s.t19)]) (fun s l_1 => [(b_2, .cells #[ptr b_1 0] 110 (0, 0)), (b_1, .cells #[slv l_1.q l_1.n l_1.cap] 154 (0, 0)), (b, .cells #[.func (.func f_c1_0) fs_c1_0 cs_c1_0] 115 (0, 0)), (pb, gobj (kR RPr) kB d02)]) (fun s l_1 => [⟨156, RWay.enc s.t12, l_1.sp, l_1.q, []⟩, mkV []]) ⟨none, 0, 0, []⟩ rfl (VOK.nil) (sE rfl) (fun w hh => hh) (fun s l_1 r hpl hm h9 => ?_)
   have h8 := hpl
   unfold m_strip_desk_laid_1_L0 at hm
   refine g_sr (g_ls rfl rfl rfl (g_nt (g_seq ?_)))
   refine g_cond rfl (fun h10 => ?_) (fun h10 => ?_)
   ·replace hm := ifD h10 hm
    refine g_skip (g_n_then (g_seq (g_block (g_sr (g_mv rfl rfl ?_)))))
    obtain ⟨t22, h11, hm⟩ := bindO hm
    refine g_val rfl rfl rfl (fun w _ => v_ixR h11 (Tryz.runUnderlying22 w) (Tryz.sizeOf85 w) rfl rfl hna1 hqa1) ?_
    refine g_val rfl rfl rfl (fun w hh => v_ldEA RSt 0 [.int .i64 t22.tenant, .int .i64 t22.lay.lo, .int .i64 t22.lay.hi, .int .i64 t22.seeded.lo, .int .i64 t22.seeded.hi, .int .i64 t22.left.lo, .int .i64 t22.left.hi] h11 (Tryz.isAgg85 w) (Tryz.sizeOf85 w) rfl (hh.seg 1 rfl) rfl (Nat.add_zero _).symm) ?_
    refine g_allocV (fun w => Tryz.zeroValue85 w) rfl (fun b_3 h12 => ?_)
    refine g_as rfl rfl (g_stSA (us := #[_, _, _, _, _, _, _]) (cs' := [_, _, _, _, _, _, _]) (S' := [_, _, _, _, _]) 0 (fun w => Tryz.sizeOf85 w) rfl rfl rfl rfl rfl rfl rfl (g_nt ?_))
    refine g_draw (some 18) (.hoist 0 (.hoist 1 (.free 2 (.free 3 (.hoist 4 (.free 5 (.free 6 (.hoist 7 (.hoist 10 (.one 8 (.free 9 (.one 11 (.free 12 (.free 13 (.one 14 (.one 15 (.free 16 (.free 17 (.last 18 .done))))))))))))))))))) (HV _ _ [(b_3, .cells #[.int .i64 t22.tenant, .int .i64 t22.lay.lo, .int .i64 t22.lay.hi, .int .i64 t22.seeded.lo, .int .i64 t22.seeded.hi, .int .i64 t22.left.lo, .int .i64 t22.left.hi] 85 (0, 0)), (b_2, .cells #[ptr b_1 0] 110 (0, 0)), (b_1, .cells #[slv l_1.q l_1.n l_1.cap] 154 (0, 0)), (b, .cells #[.func (.func f_c1_0) fs_c1_0 cs_c1_0] 115 (0, 0)), (pb, gobj (kR RPr) kB d02)] [mkV []] _) rfl (by decide +kernel) (fun w k hh => hh.draw k) (hsE [0, 1, 2, 3, 4] [1] 0 rfl rfl rfl rfl) ?_
    refine p_lc 1 Tryz.isAgg110 rfl rfl rfl rfl rfl (p_lc 1 Tryz.isAgg110 rfl rfl rfl rfl rfl (p_free rfl rfl rfl rfl (fun _ _ => v_nilCheck rfl) (p_fa 0 Tryz.runUnderlying154 Tryz.sizeOf152 rfl rfl rfl rfl (p_lc 2 Tryz.isAgg152 rfl rfl rfl rfl rfl (p_mv rfl rfl rfl ?_)))))
    obtain ⟨t30, h13, hm⟩ := bindO hm
    refine p_free rfl rfl rfl rfl (fun _ _ => v_addc h13 rfl rfl) (p_hoist rfl rfl rfl rfl (fun w hh => v_loadAgg (vs := [_, _, _, _, _, _, _]) (Tryz.isAgg85 w) (Tryz.sizeOf85 w) rfl (hh.cells 0 rfl rfl)) (p_hoist rfl rfl rfl rfl (fun w hh => v_loadAgg (vs := [_, _, _, _, _, _, _]) (Tryz.isAgg85 w) (Tryz.sizeOf85 w) rfl (hh.cells 0 rfl rfl)) (p_one rfl ?_)))
    obtain ⟨t32, h14, hm⟩ := bindO hm
    refine g_callH [] [] rfl rfl rfl rfl rfl rfl rfl Tryz.call66 (fun w hh => c_strip_Strip_gone (⟨t22.tenant, (⟨t22.lay.lo, t22.lay.hi⟩ : Span), (⟨t22.seeded.lo, t22.seeded.hi⟩ : Span), (⟨t22.left.lo, t22.left.hi⟩ : Span)⟩ : Strip) w (HV.callee (S0 := []) (vs0 := []) hh roN)  h14) (fun l_2 h15 => ?_)
    refine p_next (hsE [0, 1, 2, 3, 4] [1] 0 rfl rfl rfl rfl) (p_free rfl rfl rfl rfl (fun w _ => v_fld1 3 0 (Tryz.runUnderlying32 w) rfl (Tryz.isAgg3 w) rfl rfl) (p_one rfl ?_))
    obtain ⟨t35, h16, hm⟩ := bindO hm
    refine g_callH [] [] rfl rfl rfl rfl rfl rfl rfl Tryz.call66 (fun w hh => c_strip_Strip_gone (⟨t22.tenant, (⟨t22.lay.lo, t22.lay.hi⟩ : Span), (⟨t22.seeded.lo, t22.seeded.hi⟩ : Span), (⟨t22.left.lo, t22.left.hi⟩ : Span)⟩ : Strip) w (HV.callee (S0 := []) (vs0 := []) hh roN)  h16) (fun l_3 h17 => ?_)
    refine p_next (hsE [0, 1, 2, 3, 4] [1] 0 rfl rfl rfl rfl) (p_free rfl rfl rfl rfl (fun w _ => v_fld1 3 1 (Tryz.runUnderlying32 w) rfl (Tryz.isAgg3 w) rfl rfl) (p_free rfl rfl rfl rfl (fun _ _ => v_build (vs := [(0, _), (1, _), (2, _), (3, _)]) (cells := [_, _, _, _, _, _]) rfl rfl) (p_one rfl ?_)))
    refine g_vlit RWay [(⟨0, t30, t32.lo, t35.hi, 0, 0⟩ : Wy)] (ps := [(0, _)]) (cells := [_, _, _, _, _, _]) (fun w => Tryz.runUnderlying152 w) (fun w => Tryz.sizeOf156 w) (fun w => Tryz.zeroValue156 w) rfl rfl rfl rfl rfl rfl rfl rfl (fun L h18 => ?_)
    refine p_next (hsE [0, 1, 2, 3, 4] [2] 0 rfl rfl rfl rfl) (p_one rfl ?_)
    obtain ⟨t39, h19, hm⟩ := bindO hm
    refine g_vapp RWay 1 h19 Tryz.underlying152 gxinf156 rfl rfl rfl rfl rfl h8 rfl rfl (vlen RWay h18 rfl) (AOK.q (vne h18)) (fun w hh => (hh.vsegA 0 rfl h18)) rfl (fun L_1 h20 h20n => ?_)
    refine g_se (S' := [_, _, _, _, _]) (vs' := [_, _, _]) [0, 1, 2, 3, 4] [0, 1, 2] 0 rfl rfl rfl rfl (p_next (hsE [0, 1, 2, 3, 4] [2] 0 rfl rfl rfl rfl) (p_free rfl rfl rfl rfl (fun _ _ => v_nilCheck rfl) (p_fa 0 Tryz.runUnderlying154 Tryz.sizeOf152 rfl rfl rfl rfl (p_last rfl (g_stS (cs' := #[_]) (S' := [_, _, _, _, _]) 2 (fun w => Tryz.sizeOf152 w) rfl rfl rfl rfl rfl rfl rfl (p_nextL (p_done ?_)))))))
    refine g_n_blk (g_n_then (g_region ?_))
    obtain ⟨t42, h21, hm⟩ := bindO hm
    refine g_ac h21 rfl rfl rfl (g_mv rfl rfl (g_nil ?_))
    obtain rfl := sj hm
    refine g_n_then ?_
    exact g_again'M _ L_1 rfl rfl (h20) (sE rfl) (hsE [1, 2, 3, 4] [1, 2] 0 rfl rfl rfl rfl)
   ·replace hm := ifE h10 hm
    refine g_exit (g_x_then (g_x_then (g_x_blk ?_)))
    obtain rfl := sj hm
    have hbo := h9 _ rfl
    subst hbo
    exact g_leafM l_1 rfl (h8) (sE rfl) (fun w hh => hh)
  ·intro l hj
   have h7 := hj
   replace hm := h6
   refine g_n_then (g_seq (g_sr (g_mv rfl rfl (g_val rfl rfl rfl (fun _ _ => v_nilCheck rfl) (g_fa 0 Tryz.runUnderlying144 rfl Tryz.sizeOf25 rfl rfl (g_fa 1 Tryz.runUnderlying25 rfl Tryz.sizeOf23 rfl rfl (g_val rfl rfl rfl (fun w hh => v_load (Tryz.isAgg23 w) rfl (segCell (hh.seg 0 rfl) 1 rfl)) ?_)))))))
   refine g_val rfl rfl rfl (fun w _ => v_lenR hna2 (Tryz.runUnderlying23 w) rfl) (g_mv rfl rfl (g_nt ?_))
   obtain ⟨o_1, h22, h23⟩ := bindO hm
   refine g_cutM (ι := VL × List Nat) (fun l_4 => mks l_4.2) (fun l_4 => VOK 6 l_4.1.n l_4.1.cap (RWay.enc o_1) l_4.1.sp l_4.1.q) (fun l_4 => [(5, ptr b_2 0)]) (fun l_4 => [(b_2, .cells #[ptr b_1 0] 110 (0, 0)), (b_1, .cells #[slv l_4.1.q l_4.1.n l_4.1.cap] 154 (0, 0)), (b, .cells #[.func (.func f_c1_0) fs_c1_0 cs_c1_0] 115 (0, 0)), (pb, gobj (kR RPr) kB d02)]) (fun l_4 => [⟨156, RWay.enc o_1, l_4.1.sp, l_4.1.q, []⟩, mkV l_4.2]) ?_ ?_
   ·replace hm := h22
    refine g_block ?_
    refine g_loopFM (ι := VL × List Nat) hm (fun s_1 l_5 => mks l_5.2) (fun s_1 l_5 => VOK 6 l_5.1.n l_5.1.cap (RWay.enc s_1.t12) l_5.1.sp l_5.1.q) (fun s_1 l_5 => [(0, ptr rb 0), (3, ptr b 0), (5, ptr b_2 0), (47, .slice qa2 na2 ca2), (48, .int .i64 (d01.length : Int)), (49, .int .i64 s_1.t49)]) (fun s_1 l_5 => [(b_2, .cells #[ptr b_1 0] 110 (0, 0)), (b_1, .cells #[slv l_5.1.q l_5.1.n l_5.1.cap] 154 (0, 0)), (b, .cells #[.func (.func f_c1_0) fs_c1_0 cs_c1_0] 115 (0, 0)), (pb, gobj (kR RPr) kB d02)]) (fun s_1 l_5 => [⟨156, RWay.enc s_1.t12, l_5.1.sp, l_5.1.q, []⟩, mkV l_5.2]) (l, []) rfl (h7) (sE rfl) (fun w hh => hh) (fun s_1 l_5 r_1 hpl hm h26 => ?_)
    have h25 := hpl
    unfold m_strip_desk_laid_1_L1 at hm
    refine g_sr (g_ls rfl rfl rfl (g_nt (g_seq ?_)))
    refine g_cond rfl (fun h27 => ?_) (fun h27 => ?_)
    ·replace hm := ifD h27 hm
     refine g_skip (g_n_then (g_seq (g_block (g_sr (g_mv rfl rfl ?_)))))
     obtain ⟨t52, h28, hm⟩ := bindO hm
     refine g_val rfl rfl rfl (fun w _ => v_ixR h28 (Tryz.runUnderlying23 w) (Tryz.sizeOf32 w) rfl rfl hna2 hqa2) ?_
     refine g_val rfl rfl rfl (fun w hh => v_ldEA RSp 0 [.int .i64 t52.lo, .int .i64 t52.hi] h28 (Tryz.isAgg32 w) (Tryz.sizeOf32 w) rfl (hh.seg 2 rfl) rfl (Nat.add_zero _).symm) ?_
     refine g_allocV (fun w => Tryz.zeroValue3 w) rfl (fun b_4 h29 => ?_)
     refine g_allocV (fun w => Tryz.zeroValue32 w) rfl (fun b_5 h30 => ?_)
     refine g_stS (cs' := #[_]) (S' := [_, _, _, _, _, _]) 1 (fun w => Tryz.sizeOf3 w) rfl rfl rfl rfl rfl rfl rfl (g_stSA (us := #[_, _]) (cs' := [_, _]) (S' := [_, _, _, _, _, _]) 0 (fun w => Tryz.sizeOf32 w) rfl rfl rfl rfl rfl rfl rfl (g_nt (g_seq (g_sr (g_mv rfl rfl (g_lc 1 Tryz.isAgg3 rfl rfl rfl rfl ?_))))))
     obtain ⟨t56, h31, hm⟩ := bindO hm
     refine g_callH [] [] rfl rfl rfl rfl rfl rfl rfl Tryz.call64 (fun w hh => c_strip_desk_reach d00 d01 s_1.t49 rb qa1 na1 ca1 qa2 na2 ca2 (.map (some pb)) w (HV.callee (S0 := []) (vs0 := []) hh (roR hh 0 rfl (roR hh 1 rfl (roR hh 2 rfl roN)))) hna1 hqa1 hla1 hna2 hqa2 hla2 h31) (fun l_6 h32 => ?_)
     refine g_se (S' := [_, _, _, _, _, _, _, _]) (vs' := [_, _]) [0, 1, 2, 3, 4, 5, 6, 7] [0, 1] 0 rfl rfl rfl rfl (g_nt (g_block ?_))
     obtain ⟨h33, hm⟩ := ifO hm
     refine g_sub (e' := [(0, ptr rb 0), (3, ptr b 0), (5, ptr b_2 0), (8, ptr b_4 0), (9, ptr b_5 0), (47, .slice qa2 na2 ca2), (48, .int .i64 (d01.length : Int)), (49, .int .i64 s_1.t49), (56, .func (.func 112) #[] #[ptr l_6.1 0, ptr l_6.2 0])]) (sE rfl) ?_
     obtain ⟨o_2, h34, hm⟩ := bindO hm
     refine g_rangeLX (ι := VL) (reachL d00.length d02 t56) (fun x => .int .i64 x) h34 (fun s_2 l_7 => VOK 6 l_7.n l_7.cap (RWay.enc s_2) l_7.sp l_7.q) (fun s_2 l_7 => [(l_6.1, .cells #[ptr rb 0] 107 (0, 0)), (l_6.2, .cells #[.int .i64 t56] 3 (0, 0)), (b_5, .cells #[.int .i64 t52.lo, .int .i64 t52.hi] 32 (0, 0)), (b_4, .cells #[.int .i64 s_1.t49] 3 (0, 0)), (b_2, .cells #[ptr b_1 0] 110 (0, 0)), (b_1, .cells #[slv l_7.q l_7.n l_7.cap] 154 (0, 0)), (b, .cells #[.func (.func f_c1_0) fs_c1_0 cs_c1_0] 115 (0, 0)), (pb, gobj (kR RPr) kB d02)]) (fun s_2 l_7 => [⟨156, RWay.enc s_2, l_7.sp, l_7.q, []⟩, mkV l_5.2]) l_5.1 (h25) (fun w hh => hh) (RdReach l_6.1 l_6.2 rb pb t56 qa1 na1 ca1 d02) (fun s_2 l_7 w h35 hh => ⟨hh.cell 0 rfl rfl, hh.cell 1 rfl rfl, segCell (hh.seg 0 rfl) 0 rfl, segCell (hh.seg 0 rfl) 2 rfl, hh.get 7 rfl⟩) (it_reach _ _ _ l_6.1 l_6.2 rb pb t56 qa1 na1 ca1 d00 d02 hna1 h33) rfl Tryz.call112 rfl (e1 := fun x => (10, .int .i64 x) :: (57, .int .i64 x) :: [(0, ptr rb 0), (3, ptr b 0), (5, ptr b_2 0), (8, ptr b_4 0), (9, ptr b_5 0), (47, .slice qa2 na2 ca2), (48, .int .i64 (d01.length : Int)), (49, .int .i64 s_1.t49), (56, .func (.func 112) #[] #[ptr l_6.1 0, ptr l_6.2 0])]) (fun x lr H X hX => ?_) (fun x s_2 r_2 l_7 lr w1 h35 hm => ?_) (fun l_7 D h35 => ?_)
     ·refine g_region ?_
      refine g_as rfl rfl (g_nt ?_)
      exact hX
     ·have h36 := h35
      unfold m_strip_desk_laid_1_F2 at hm
      refine g_block ?_
      refine g_draw (some 20) (.hoist 0 (.hoist 1 (.free 2 (.free 3 (.hoist 4 (.free 5 (.free 6 (.hoist 7 (.free 8 (.free 9 (.hoist 10 (.hoist 11 (.free 12 (.free 13 (.one 14 (.free 15 (.one 16 (.one 17 (.free 18 (.free 19 (.last 20 .done))))))))))))))))))))) (HV _ _ [(l_6.1, .cells #[ptr rb 0] 107 (0, 0)), (l_6.2, .cells #[.int .i64 t56] 3 (0, 0)), (b_5, .cells #[.int .i64 t52.lo, .int .i64 t52.hi] 32 (0, 0)), (b_4, .cells #[.int .i64 s_1.t49] 3 (0, 0)), (b_2, .cells #[ptr b_1 0] 110 (0, 0)), (b_1, .cells #[slv l_7.q l_7.n l_7.cap] 154 (0, 0)), (b, .cells #[.func (.func f_c1_0) fs_c1_0 cs_c1_0] 115 (0, 0)), (pb, gobj (kR RPr) kB d02)] [mkV l_5.2] _) rfl (by decide +kernel) (fun w k hh => hh.draw k) (hsE [0, 1, 2, 3, 4, 5, 6, 7] [1] 0 rfl rfl rfl rfl) ?_
      refine p_lc 4 Tryz.isAgg110 rfl rfl rfl rfl rfl (p_lc 4 Tryz.isAgg110 rfl rfl rfl rfl rfl (p_free rfl rfl rfl rfl (fun _ _ => v_nilCheck rfl) (p_fa 0 Tryz.runUnderlying154 Tryz.sizeOf152 rfl rfl rfl rfl (p_lc 5 Tryz.isAgg152 rfl rfl rfl rfl rfl (p_mv rfl rfl rfl ?_)))))
      obtain ⟨t64, h39, hm⟩ := bindO hm
      refine p_free rfl rfl rfl rfl (fun _ _ => v_addc h39 rfl rfl) (p_lc 3 Tryz.isAgg3 rfl rfl rfl rfl rfl ?_)
      obtain ⟨t66, h40, hm⟩ := bindO hm
      refine p_free rfl rfl rfl rfl (fun _ _ => v_addc h40 rfl rfl) (p_fa 0 Tryz.runUnderlying115 Tryz.sizeOf113 rfl rfl rfl rfl (p_lc 6 Tryz.isAgg113 rfl rfl rfl rfl rfl (p_lc 3 Tryz.isAgg3 rfl rfl rfl rfl rfl (p_mv rfl rfl rfl (p_free rfl rfl rfl rfl (fun _ _ => v_build (vs := [(0, _), (1, _)]) (cells := [_, _]) rfl rfl) (p_one rfl ?_))))))
      obtain ⟨t72, h41, hm⟩ := bindO hm
      refine g_callFX hcl_c1_0 (fun t ht => (List.mem_cons_of_mem _ (List.mem_cons_of_mem _ (List.mem_cons_of_mem _ ht)))) h41 rfl rfl rfl rfl rfl rfl (p_next (hsE [0, 1, 2, 3, 4, 5, 6, 7] [1] 0 rfl rfl rfl rfl) (p_free rfl rfl rfl rfl (fun _ _ => v_build (vs := [(0, _), (1, _), (3, _), (4, _)]) (cells := [_, _, _, _, _, _]) rfl rfl) (p_one rfl ?_)))
      refine g_vlit RWay [(⟨t64, t66, 0, 1000000, t72, 0⟩ : Wy)] (ps := [(0, _)]) (cells := [_, _, _, _, _, _]) (fun w => Tryz.runUnderlying152 w) (fun w => Tryz.sizeOf156 w) (fun w => Tryz.zeroValue156 w) rfl rfl rfl rfl rfl rfl rfl rfl (fun L_2 h42 => ?_)
      refine p_next (hsE [0, 1, 2, 3, 4, 5, 6, 7] [2] 0 rfl rfl rfl rfl) (p_one rfl ?_)
      obtain ⟨t75, h43, hm⟩ := bindO hm
      refine g_vapp RWay 1 h43 Tryz.underlying152 gxinf156 rfl rfl rfl rfl rfl h36 rfl rfl (vlen RWay h42 rfl) (AOK.q (vne h42)) (fun w hh => (hh.vsegA 0 rfl h42)) rfl (fun L_3 h44 h44n => ?_)
      refine g_se (S' := [_, _, _, _, _, _, _, _]) (vs' := [_, _, _]) [0, 1, 2, 3, 4, 5, 6, 7] [0, 1, 2] 0 rfl rfl rfl rfl (p_next (hsE [0, 1, 2, 3, 4, 5, 6, 7] [2] 0 rfl rfl rfl rfl) (p_free rfl rfl rfl rfl (fun _ _ => v_nilCheck rfl) (p_fa 0 Tryz.runUnderlying154 Tryz.sizeOf152 rfl rfl rfl rfl (p_last rfl (g_stS (cs' := #[_]) (S' := [_, _, _, _, _, _, _, _]) 5 (fun w => Tryz.sizeOf152 w) rfl rfl rfl rfl rfl rfl rfl (p_nextL (p_done ?_)))))))
      refine g_n_blk ?_
      obtain rfl := sj hm
      exact g_bodyL t75 L_3 rfl (h44) (fun w hh => hh.selN [0, 1, 2, 3, 4, 5, 6, 7] [1, 2] (by decide) (by decide) rfl rfl)
     ·have h45 := h35
      refine g_markIn 1 rfl rfl (g_n_blk (g_n_then ?_))
      refine g_draw (some 16) (.hoist 0 (.hoist 1 (.free 2 (.free 3 (.hoist 4 (.hoist 5 (.free 6 (.free 7 (.hoist 8 (.free 9 (.hoist 10 (.free 11 (.one 12 (.one 13 (.free 14 (.free 15 (.last 16 .done))))))))))))))))) (HV _ _ [(l_6.1, .cells #[ptr rb 0] 107 (0, 0)), (l_6.2, .cells #[.int .i64 t56] 3 (0, 0)), (b_5, .cells #[.int .i64 t52.lo, .int .i64 t52.hi] 32 (0, 0)), (b_4, .cells #[.int .i64 s_1.t49] 3 (0, 0)), (b_2, .cells #[ptr b_1 0] 110 (0, 0)), (b_1, .cells #[slv l_7.q l_7.n l_7.cap] 154 (0, 0)), (b, .cells #[.func (.func f_c1_0) fs_c1_0 cs_c1_0] 115 (0, 0)), (pb, gobj (kR RPr) kB d02)] [mkV (D :: l_5.2)] _) rfl (by decide +kernel) (fun w k hh => hh.draw k) (hsE [0, 1, 2, 3, 4, 5, 6, 7] [1] 0 rfl rfl rfl rfl) ?_
      refine p_lc 4 Tryz.isAgg110 rfl rfl rfl rfl rfl (p_lc 4 Tryz.isAgg110 rfl rfl rfl rfl rfl (p_free rfl rfl rfl rfl (fun _ _ => v_nilCheck rfl) (p_fa 0 Tryz.runUnderlying154 Tryz.sizeOf152 rfl rfl rfl rfl (p_lc 5 Tryz.isAgg152 rfl rfl rfl rfl rfl (p_lc 3 Tryz.isAgg3 rfl rfl rfl rfl rfl ?_)))))
      obtain ⟨t84, h46, hm⟩ := bindO hm
      refine p_free rfl rfl rfl rfl (fun _ _ => v_addc h46 rfl rfl) (p_fa 0 Tryz.runUnderlying32 Tryz.sizeOf3 rfl rfl rfl rfl (p_lc 2 Tryz.isAgg3 rfl rfl rfl rfl rfl (p_fa 1 Tryz.runUnderlying32 Tryz.sizeOf3 rfl rfl rfl rfl (p_lc 2 Tryz.isAgg3 rfl rfl rfl rfl rfl (p_free rfl rfl rfl rfl (fun _ _ => v_build (vs := [(0, _), (1, _), (2, _), (3, _)]) (cells := [_, _, _, _, _, _]) rfl rfl) (p_one rfl ?_))))))
      refine g_vlit RWay [(⟨t84, 0, t52.lo, t52.hi, 0, 0⟩ : Wy)] (ps := [(0, _)]) (cells := [_, _, _, _, _, _]) (fun w => Tryz.runUnderlying152 w) (fun w => Tryz.sizeOf156 w) (fun w => Tryz.zeroValue156 w) rfl rfl rfl rfl rfl rfl rfl rfl (fun L_4 h47 => ?_)
      refine p_next (hsE [0, 1, 2, 3, 4, 5, 6, 7] [2] 0 rfl rfl rfl rfl) (p_one rfl ?_)
      obtain ⟨t91, h48, hm⟩ := bindO hm
      refine g_vapp RWay 1 h48 Tryz.underlying152 gxinf156 rfl rfl rfl rfl rfl h45 rfl rfl (vlen RWay h47 rfl) (AOK.q (vne h47)) (fun w hh => (hh.vsegA 0 rfl h47)) rfl (fun L_5 h49 h49n => ?_)
      refine g_se (S' := [_, _, _, _, _, _, _, _]) (vs' := [_, _, _]) [0, 1, 2, 3, 4, 5, 6, 7] [0, 1, 2] 0 rfl rfl rfl rfl (p_next (hsE [0, 1, 2, 3, 4, 5, 6, 7] [2] 0 rfl rfl rfl rfl) (p_free rfl rfl rfl rfl (fun _ _ => v_nilCheck rfl) (p_fa 0 Tryz.runUnderlying154 Tryz.sizeOf152 rfl rfl rfl rfl (p_last rfl (g_stS (cs' := #[_]) (S' := [_, _, _, _, _, _, _, _]) 5 (fun w => Tryz.sizeOf152 w) rfl rfl rfl rfl rfl rfl rfl (p_nextL (p_done ?_)))))))
      refine g_n_blk (g_n_then (g_region ?_))
      obtain ⟨t94, h50, hm⟩ := bindO hm
      refine g_ac h50 rfl rfl rfl (g_mv rfl rfl (g_nil ?_))
      obtain rfl := sj hm
      refine g_n_then ?_
      exact g_again'M _ (L_5, (D :: l_5.2)) rfl rfl (h49) (sE rfl) (hsE [4, 5, 6, 7] [1, 2] 0 rfl rfl rfl rfl)
    ·replace hm := ifE h27 hm
     refine g_exit (g_x_then (g_x_then (g_x_blk ?_)))
     obtain rfl := sj hm
     have hbo := h26 _ rfl
     subst hbo
     exact g_leafM (l_5.1, l_5.2) rfl (h25) (sE rfl) (fun w hh => hh)
   ·intro l_4 hj
    have h24 := hj
    replace hm := h23
    refine g_n_then (g_sr (g_lc 0 Tryz.isAgg110 rfl rfl rfl rfl (g_as rfl rfl (g_nt (g_ret ?_)))))
    obtain rfl := sj hm
    refine g_doneMC rfl rfl rfl (fun w hh => (.tmp rfl .nil)) (fun w hh => ⟨(b_1, l_4.1), rfl, h24, hh.selN [3, 1] [0] (by decide) (by decide) rfl rfl⟩)
structure m_strip_least_S0 where
  n0 : Int
  t9 : Int
def m_strip_least_L0 (l1 : (List Int)) (s : m_strip_least_S0) : Option (m_strip_least_S0 ⊕ Int) :=
 if s.t9 < (l1.length : Int) then
 ((ix l1 s.t9).bind fun t11 =>
 (addc s.t9 1).bind fun t16 =>
 some (.inl (⟨(min s.n0 t11), t16⟩ : m_strip_least_S0))) else
 (some (.inr s.n0))
def m_strip_least (n0 : Int) (l1 : (List Int)) : Option Int :=
 (iterM FU (m_strip_least_L0 l1) (⟨n0, 0⟩ : m_strip_least_S0)).bind fun o =>
 some o
theorem c_strip_least (n0 : Int) (l1 : (List Int)) (qa0 : Option Addr) (na0 ca0 : Nat) (w : World) (hw : HV w (keys [] []) [] [] [(aB qa0, aO qa0, RI.enc l1)] w) (hna0 : l1.length = na0) (hqa0 : AOK na0 qa0) (hla0 : na0 ≤ ca0) {res : Int} (hm : m_strip_least n0 l1 = some res) :
    Calls Tryz.prog 74 #[.int .i64 n0, .slice qa0 na0 ca0] w (fun en w' => ∃ l : Unit, en = .returned (.int .i64 res) ∧ (True) ∧ HV w (keys [] []) [] [] [] w') := by
  unfold m_strip_least at hm
  refine g_en Tryz.func74 rfl Tryz.ntmps74 rfl (e := [(0, _), (1, _)]) rfl hw (g_sr (g_as rfl rfl (g_nt (g_seq (g_sr (g_mv rfl rfl (g_val rfl rfl rfl (fun w _ => v_lenR hna0 (Tryz.runUnderlying26 w) rfl) ?_)))))))
  refine g_mv rfl rfl (g_nt ?_)
  obtain ⟨o, h1, h2⟩ := bindO hm
  refine g_cut (ι := Unit) (fun l => True) (fun l => [(0, .int .i64 o)]) (fun l => []) (fun l => []) ?_ ?_
  ·replace hm := h1
   refine g_block ?_
   refine g_loopF (ι := Unit) hm (fun s l_1 => True) (fun s l_1 => [(0, .int .i64 s.n0), (7, .slice qa0 na0 ca0), (8, .int .i64 (l1.length : Int)), (9, .int .i64 s.t9)]) (fun s l_1 => []) (fun s l_1 => []) () (trivial) (sE rfl) (fun w hh => hh) (fun s l_1 r hpl hm h3 => ?_)
   unfold m_strip_least_L0 at hm
   refine g_sr (g_ls rfl rfl rfl (g_nt (g_seq ?_)))
   refine g_cond rfl (fun h4 => ?_) (fun h4 => ?_)
   ·replace hm := ifD h4 hm
    refine g_skip (g_n_then (g_seq (g_block (g_sr ?_))))
    obtain ⟨t11, h5, hm⟩ := bindO hm
    refine g_val rfl rfl rfl (fun w _ => v_ixR h5 (Tryz.runUnderlying26 w) (Tryz.sizeOf3 w) rfl rfl hna0 hqa0) (g_val rfl rfl rfl (fun w hh => v_ldE RI 0 h5 (Tryz.isAgg3 w) rfl (hh.seg 0 rfl) rfl (Nat.add_zero _).symm) (g_as rfl rfl (g_nt (g_region (g_mv rfl rfl (g_mv rfl rfl (g_val rfl rfl rfl (fun _ _ => v_min rfl rfl) ?_)))))))
    refine g_as rfl rfl (g_nil (g_n_blk (g_n_then (g_region ?_))))
    obtain ⟨t16, h6, hm⟩ := bindO hm
    refine g_ac h6 rfl rfl rfl (g_mv rfl rfl (g_nil ?_))
    obtain rfl := sj hm
    refine g_n_then ?_
    exact g_again' _ () rfl (trivial) (sE rfl) (fun w hh => hh)
   ·replace hm := ifE h4 hm
    refine g_exit (g_x_then (g_x_then (g_x_blk ?_)))
    obtain rfl := sj hm
    have hbo := h3 _ rfl
    subst hbo
    exact g_leaf () (trivial) (sE rfl) (fun w hh => hh)
  ·intro l hj
   replace hm := h2
   refine g_n_then (g_sr (g_mv rfl rfl (g_as rfl rfl (g_nt (g_ret ?_)))))
   obtain rfl := sj hm
   refine g_done rfl (fun w hh => (.tmp rfl .nil)) (fun w hh => ⟨(), rfl, trivial, hh.se [] [] 1 rfl rfl rfl rfl⟩)
end Go.Proofs.Ws

namespace Go.Proofs.Ws
set_option maxHeartbeats 4000000
set_option maxRecDepth 100000
open Go Go.Fw Go.Gx Go.Sp
set_option linter.unusedVariables false
structure m_strip_net_ends_R where
  r0 : Int
  r1 : Int
  r2 : Int
  r3 : Int
def m_strip_net_ends (n00 : (List Wy)) (c1 : Change) : Option m_strip_net_ends_R :=
 (ix n00 c1.way).bind fun t15 =>
 if c1.more = true then
 ((subc t15.hi t15.goes).bind fun t29 =>
 some (⟨t15.fr, t15.dst, t15.cost, t29⟩ : m_strip_net_ends_R)) else
 ((negc t15.cost).bind fun t36 =>
 (m_strip_least t15.lo [t15.goes]).bind fun t44 =>
 (subc t15.goes t44).bind fun t45 =>
 some (⟨t15.dst, t15.fr, t36, t45⟩ : m_strip_net_ends_R))
theorem c_strip_net_ends (n00 : (List Wy)) (c1 : Change) (rb : Nat) (qa1 : Option Addr) (na1 ca1 : Nat) (w : World) (hw : HV w (keys [] []) [] [] [(rb, 0, [.slice qa1 na1 ca1]), (aB qa1, aO qa1, RWay.enc n00)] w)  (hna1 : n00.length = na1) (hqa1 : AOK na1 qa1) (hla1 : na1 ≤ ca1) {res : m_strip_net_ends_R} (hm : m_strip_net_ends n00 c1 = some res) :
    Calls Tryz.prog 130 #[ptr rb 0, .agg #[.int .i64 c1.way, .bool c1.more]] w (fun en w' => ∃ l : Unit, en = .returned (.tuple #[.int .i64 res.r0, .int .i64 res.r1, .int .i64 res.r2, .int .i64 res.r3]) ∧ (True) ∧ HV w (keys [] []) [] [] [] w') := by
  unfold m_strip_net_ends at hm
  refine g_en Tryz.func130 rfl Tryz.ntmps130 rfl (e := [(0, _), (1, _)]) rfl hw (g_sr ?_)
  refine g_boxV rfl rfl (fun b h1 => ?_)
  refine g_as rfl rfl (g_as rfl rfl (g_as rfl rfl (g_as rfl rfl (g_nt (g_seq ?_)))))
  refine g_draw none (.free 0 (.free 1 (.free 2 (.hoist 3 (.free 4 (.hoist 5 (.free 6 (.hoist 7 (.one 8 (.one 9 .done)))))))))) _ rfl (by decide +kernel) (fun w k hh => hh.draw k) (fun w hh => hh) ?_
  refine p_mv rfl rfl rfl (p_free rfl rfl rfl rfl (fun _ _ => v_nilCheck rfl) (p_fa 0 Tryz.runUnderlying154 Tryz.sizeOf152 rfl rfl rfl rfl (p_hoist rfl rfl rfl rfl (fun w hh => v_load (Tryz.isAgg152 w) rfl (segCell (hh.seg 0 rfl) 0 rfl)) (p_fa 0 Tryz.runUnderlying164 Tryz.sizeOf3 rfl rfl rfl rfl (p_lc 0 Tryz.isAgg3 rfl rfl rfl rfl rfl ?_)))))
  obtain ⟨t15, h2, hm⟩ := bindO hm
  refine p_free rfl rfl rfl rfl (fun w _ => v_ixR h2 (Tryz.runUnderlying152 w) (Tryz.sizeOf156 w) rfl rfl hna1 hqa1) ?_
  refine p_hoist rfl rfl rfl rfl (fun w hh => v_ldEA RWay 0 [.int .i64 t15.fr, .int .i64 t15.dst, .int .i64 t15.lo, .int .i64 t15.hi, .int .i64 t15.cost, .int .i64 t15.goes] h2 (Tryz.isAgg156 w) (Tryz.sizeOf156 w) rfl (hh.seg 1 rfl) rfl (Nat.add_zero _).symm) ?_
  refine p_one rfl ?_
  refine g_allocV (fun w => Tryz.zeroValue156 w) rfl (fun b_1 h3 => ?_)
  refine p_next (hsE [1] [] 0 rfl rfl rfl rfl) (p_one rfl (g_stSA (us := #[_, _, _, _, _, _]) (cs' := [_, _, _, _, _, _]) (S' := [_, _]) 0 (fun w => Tryz.sizeOf156 w) rfl rfl rfl rfl rfl rfl rfl (p_next (hsE [1] [] 0 rfl rfl rfl rfl) (p_done (g_n_then (g_seq (g_sr ?_)))))))
  refine g_fa 1 Tryz.runUnderlying164 rfl Tryz.sizeOf4 rfl rfl (g_lc 1 Tryz.isAgg4 rfl rfl rfl rfl (g_nt ?_))
  refine g_cond rfl (fun h4 => ?_) (fun h4 => ?_)
  ·replace hm := ifT (h4) hm
   refine g_seq ?_
   refine g_draw none (.free 0 (.hoist 1 (.free 2 (.hoist 3 (.free 4 (.hoist 5 (.free 6 (.hoist 7 (.free 8 (.hoist 9 (.free 10 (.free 11 (.free 12 (.free 13 (.free 14 .done))))))))))))))) _ rfl (by decide +kernel) (fun w k hh => hh.draw k) (fun w hh => hh) ?_
   refine p_fa 0 Tryz.runUnderlying156 Tryz.sizeOf3 rfl rfl rfl rfl (p_lc 0 Tryz.isAgg3 rfl rfl rfl rfl rfl (p_fa 1 Tryz.runUnderlying156 Tryz.sizeOf3 rfl rfl rfl rfl (p_lc 0 Tryz.isAgg3 rfl rfl rfl rfl rfl (p_fa 4 Tryz.runUnderlying156 Tryz.sizeOf3 rfl rfl rfl rfl (p_lc 0 Tryz.isAgg3 rfl rfl rfl rfl rfl (p_fa 3 Tryz.runUnderlying156 Tryz.sizeOf3 rfl rfl rfl rfl (p_lc 0 Tryz.isAgg3 rfl rfl rfl rfl rfl ?_)))))))
   refine p_fa 5 Tryz.runUnderlying156 Tryz.sizeOf3 rfl rfl rfl rfl (p_lc 0 Tryz.isAgg3 rfl rfl rfl rfl rfl ?_)
   obtain ⟨t29, h5, hm⟩ := bindO hm
   refine p_free rfl rfl rfl rfl (fun _ _ => v_subc h5 rfl rfl) (p_free rfl rfl rfl rfl (fun _ _ => v_assign rfl) (p_free rfl rfl rfl rfl (fun _ _ => v_assign rfl) (p_free rfl rfl rfl rfl (fun _ _ => v_assign rfl) (p_free rfl rfl rfl rfl (fun _ _ => v_assign rfl) (p_done (g_n_then (g_ret ?_)))))))
   refine g_r_then ?_
   obtain rfl := sj hm
   refine g_done rfl (fun w hh => (.tmp rfl (.tmp rfl (.tmp rfl (.tmp rfl .nil))))) (fun w hh => ⟨(), rfl, trivial, hh.se [] [] 2 rfl rfl rfl rfl⟩)
  ·replace hm := ifN h4 hm
   refine g_skip (g_n_then (g_seq ?_))
   refine g_draw none (.free 0 (.hoist 1 (.free 2 (.hoist 3 (.free 4 (.hoist 5 (.free 6 (.free 7 (.hoist 8 (.free 9 (.hoist 10 (.free 11 (.hoist 12 (.one 13 (.one 14 (.free 15 (.free 16 (.free 17 (.free 18 (.free 19 .done)))))))))))))))))))) _ rfl (by decide +kernel) (fun w k hh => hh.draw k) (fun w hh => hh) ?_
   refine p_fa 1 Tryz.runUnderlying156 Tryz.sizeOf3 rfl rfl rfl rfl (p_lc 0 Tryz.isAgg3 rfl rfl rfl rfl rfl (p_fa 0 Tryz.runUnderlying156 Tryz.sizeOf3 rfl rfl rfl rfl (p_lc 0 Tryz.isAgg3 rfl rfl rfl rfl rfl (p_fa 4 Tryz.runUnderlying156 Tryz.sizeOf3 rfl rfl rfl rfl (p_lc 0 Tryz.isAgg3 rfl rfl rfl rfl rfl ?_)))))
   obtain ⟨t36, h6, hm⟩ := bindO hm
   refine p_free rfl rfl rfl rfl (fun _ _ => v_negc h6 rfl) (p_fa 5 Tryz.runUnderlying156 Tryz.sizeOf3 rfl rfl rfl rfl (p_lc 0 Tryz.isAgg3 rfl rfl rfl rfl rfl (p_fa 2 Tryz.runUnderlying156 Tryz.sizeOf3 rfl rfl rfl rfl (p_lc 0 Tryz.isAgg3 rfl rfl rfl rfl rfl (p_fa 5 Tryz.runUnderlying156 Tryz.sizeOf3 rfl rfl rfl rfl (p_lc 0 Tryz.isAgg3 rfl rfl rfl rfl rfl (p_one rfl ?_)))))))
   refine g_vlit RI [t15.goes] (ps := [(0, _)]) (cells := [_]) (fun w => Tryz.runUnderlying26 w) (fun w => Tryz.sizeOf3 w) (fun w => Tryz.zeroValue3 w) rfl rfl rfl rfl rfl rfl rfl rfl (fun L h7 => ?_)
   refine p_next (hsE [0, 1] [] 0 rfl rfl rfl rfl) (p_one rfl ?_)
   obtain ⟨t44, h8, hm⟩ := bindO hm
   refine g_callH [] [] rfl rfl rfl rfl rfl rfl rfl Tryz.call74 (fun w hh => c_strip_least t15.lo [t15.goes] (qA L.q) L.n L.cap w (HV.callee (S0 := []) (vs0 := []) hh (roC (hh.vsepA 0 rfl h7) roN)) (vlen RI h7 rfl) (AOK.q (vne h7)) (h7).hle h8) (fun l h9 => ?_)
   refine p_next (hsE [0, 1] [] 0 rfl rfl rfl rfl) ?_
   obtain ⟨t45, h10, hm⟩ := bindO hm
   refine p_free rfl rfl rfl rfl (fun _ _ => v_subc h10 rfl rfl) (p_free rfl rfl rfl rfl (fun _ _ => v_assign rfl) (p_free rfl rfl rfl rfl (fun _ _ => v_assign rfl) (p_free rfl rfl rfl rfl (fun _ _ => v_assign rfl) (p_free rfl rfl rfl rfl (fun _ _ => v_assign rfl) (p_done (g_n_then (g_ret ?_)))))))
   obtain rfl := sj hm
   refine g_done rfl (fun w hh => (.tmp rfl (.tmp rfl (.tmp rfl (.tmp rfl .nil))))) (fun w hh => ⟨(), rfl, trivial, hh.se [] [] 2 rfl rfl rfl rfl⟩)
structure m_strip_net_path_1_2_R where
  a55_0 : (List Bool)
  a66_0 : (List Change)
def m_strip_net_path_1_2 (c0 : Change) (a1 : Int) (b2 : Int) (cost3 : Int) (room4 : Int) (a550 : (List Bool)) (a660 : (List Change)) : Option m_strip_net_path_1_2_R :=
 ((ix a550 a1).bind fun t13 =>
 if t13 = true then
 ((ix a550 b2).bind fun t17 =>
 some (!t17)) else
 (some false)).bind fun o =>
 if o = true then
 ((ix a550 b2).bind fun t24 =>
 (some (a550.set (Int.toNat b2) true)).bind fun a55 =>
 (ix a660 b2).bind fun t25 =>
 (some (a660.set (Int.toNat b2) c0)).bind fun a66 =>
 some (⟨a55, a66⟩ : m_strip_net_path_1_2_R)) else
 (some (⟨a550, a660⟩ : m_strip_net_path_1_2_R))
theorem c_strip_net_path_1_2 (c0 : Change) (a1 : Int) (b2 : Int) (cost3 : Int) (room4 : Int) (a550 : (List Bool)) (a660 : (List Change)) (pb : Nat) (pb_1 : Nat) (w : World) (hw : HV w (keys [(pb, .cells (RB.enc a550).toArray 158 (0, 0)), (pb_1, .cells (RCh.enc a660).toArray 171 (0, 0))] []) [(pb, .cells (RB.enc a550).toArray 158 (0, 0)), (pb_1, .cells (RCh.enc a660).toArray 171 (0, 0))] [] [] w) (hl_a550 : a550.length = 12) (hl_a660 : a660.length = 12) {res : m_strip_net_path_1_2_R} (hm : m_strip_net_path_1_2 c0 a1 b2 cost3 room4 a550 a660 = some res) :
    Calls Tryz.prog 129 #[.agg #[.int .i64 c0.way, .bool c0.more], .int .i64 a1, .int .i64 b2, .int .i64 cost3, .int .i64 room4, ptr pb 0, ptr pb_1 0] w (fun en w' => ∃ l : Unit, en = .returned (.tuple #[]) ∧ (res.a55_0.length = 12 ∧ res.a66_0.length = 12) ∧ HV w (keys [(pb, .cells (RB.enc a550).toArray 158 (0, 0)), (pb_1, .cells (RCh.enc a660).toArray 171 (0, 0))] []) [(pb, .cells (RB.enc res.a55_0).toArray 158 (0, 0)), (pb_1, .cells (RCh.enc res.a66_0).toArray 171 (0, 0))] [] [] w') := by
  unfold m_strip_net_path_1_2 at hm
  refine g_en Tryz.func129 rfl Tryz.ntmps129 rfl (e := [(0, _), (1, _), (2, _), (3, _), (4, _), (5, _), (6, _)]) rfl hw (g_sr ?_)
  refine g_boxV rfl rfl (fun b h3 => ?_)
  refine g_nt (g_seq ?_)
  obtain ⟨o, h4, h5⟩ := bindO hm
  refine g_cut (ι := Unit) (fun l => True) (fun l => [(2, .int .i64 b2), (5, ptr pb 0), (6, ptr pb_1 0), (7, ptr b 0), (20, .bool o)]) (fun l => [(b, .cells #[.int .i64 c0.way, .bool c0.more] 164 (0, 0)), (pb, .cells (RB.enc a550).toArray 158 (0, 0)), (pb_1, .cells (RCh.enc a660).toArray 171 (0, 0))]) (fun l => []) ?_ ?_
  ·replace hm := h4
   refine g_region (g_mv rfl rfl ?_)
   obtain ⟨t13, h6, hm⟩ := bindO hm
   refine g_val rfl rfl rfl (fun w _ => v_ixB h6 hl_a550 (Tryz.runUnderlying158 w) (Tryz.sizeOf4 w) rfl rfl) (g_val rfl rfl rfl (fun w hh => v_ldE RB 0 h6 (Tryz.isAgg4 w) rfl (hh.bsegA 1 rfl) rfl (Nat.add_zero _).symm) (g_mv rfl rfl ?_))
   refine g_case 15 rfl (fun h7 => ?_) (fun h7 => ?_)
   ·replace hm := ifT (h7) hm
    refine v_unguard rfl rfl (g_mv rfl rfl (v_unguard rfl rfl ?_))
    obtain ⟨t17, h8, hm⟩ := bindO hm
    refine g_val rfl rfl rfl (fun w _ => v_ixB h8 hl_a550 (Tryz.runUnderlying158 w) (Tryz.sizeOf4 w) rfl rfl) (v_unguard rfl rfl (g_val rfl rfl rfl (fun w hh => v_ldE RB 0 h8 (Tryz.isAgg4 w) rfl (hh.bsegA 1 rfl) rfl (Nat.add_zero _).symm) (v_unguard rfl rfl (g_val rfl rfl rfl (fun _ _ => v_not rfl) (g_pt rfl rfl rfl (g_nil ?_))))))
    obtain rfl := sj hm
    exact g_leaf () (trivial) (sE rfl) (fun w hh => hh)
   ·replace hm := ifN h7 hm
    refine g_k rfl rfl rfl rfl (g_k rfl rfl rfl rfl (g_k rfl rfl rfl rfl (g_k rfl rfl rfl rfl (g_pf rfl rfl rfl (g_nil ?_)))))
    obtain rfl := sj hm
    exact g_leaf () (trivial) (sE rfl) (fun w hh => hh)
  ·intro l hj
   replace hm := h5
   refine g_n_then ?_
   refine g_cond rfl (fun h9 => ?_) (fun h9 => ?_)
   ·replace hm := ifT (h9) hm
    refine g_draw none (.free 0 (.free 1 (.hoist 2 (.free 3 (.one 4 (.free 5 (.one 6 .done))))))) (HV _ _ [(b, .cells #[.int .i64 c0.way, .bool c0.more] 164 (0, 0))] [] _) rfl (by decide +kernel) (fun w k hh => hh.draw k) (hsE [0] [] 0 rfl rfl rfl rfl) ?_
    refine p_mv rfl rfl rfl (p_mv rfl rfl rfl (p_hoist rfl rfl rfl rfl (fun w hh => v_loadAgg (vs := [_, _]) (Tryz.isAgg164 w) (Tryz.sizeOf164 w) rfl (hh.cells 0 rfl rfl)) ?_))
    obtain ⟨t24, h10, hm⟩ := bindO hm
    refine p_free rfl rfl rfl rfl (fun w _ => v_ixB h10 hl_a550 (Tryz.runUnderlying158 w) (Tryz.sizeOf4 w) rfl rfl) (p_one rfl ?_)
    obtain ⟨a55, ha55, hm⟩ := bindO hm
    refine g_stE RB 1 0 true (S' := [_, _, _]) (fun w => Tryz.sizeOf4 w) rfl rfl rfl rfl hl_a550 (Nat.add_zero _).symm rfl h10 rfl rfl (Option.some.inj ha55) rfl (fun h11 => ?_)
    refine p_next (hsE [0] [] 0 rfl rfl rfl rfl) ?_
    obtain ⟨t25, h12, hm⟩ := bindO hm
    refine p_free rfl rfl rfl rfl (fun w _ => v_ixB h12 hl_a660 (Tryz.runUnderlying171 w) (Tryz.sizeOf164 w) rfl rfl) (p_one rfl ?_)
    obtain ⟨a66, ha66, hm⟩ := bindO hm
    refine g_stEA (us := #[_, _]) RCh 2 c0 (S' := [_, _, _]) (fun w => Tryz.sizeOf164 w) rfl rfl rfl hl_a660 rfl rfl h12 rfl (Option.some.inj ha66) rfl (fun h13 => ?_)
    refine p_next (hsE [0] [] 0 rfl rfl rfl rfl) (p_done ?_)
    obtain rfl := sj hm
    refine g_doneN rfl (fun w hh => .nil) (fun w hh => ⟨(), rfl, ⟨h11, h13⟩, hh.se [1, 2] [] 0 rfl rfl rfl rfl⟩)
   ·replace hm := ifN h9 hm
    refine g_skip ?_
    obtain rfl := sj hm
    refine g_doneN rfl (fun w hh => .nil) (fun w hh => ⟨(), rfl, ⟨hl_a550, hl_a660⟩, hh.se [1, 2] [] 0 rfl rfl rfl rfl⟩)
structure m_strip_net_changes_2_R where
  f1_c0_0 : (List Bool)
  f1_c1_0 : (List Change)
structure m_strip_net_changes_2_C0 where
  f1_c0_0 : (List Bool)
  f1_c1_0 : (List Change)
structure m_strip_net_changes_2_S0 where
  t17 : Int
  f1_c0_0 : (List Bool)
  f1_c1_0 : (List Change)
structure m_strip_net_changes_2_C1 where
  f1_c0_0 : (List Bool)
  f1_c1_0 : (List Change)
structure m_strip_net_changes_2_S1 where
  t22 : Int
  f1_c0_0 : (List Bool)
  f1_c1_0 : (List Change)
structure m_strip_net_changes_2_C2 where
  f1_c0_0 : (List Bool)
  f1_c1_0 : (List Change)
def m_strip_net_changes_2_L1 (n00 : (List Wy)) (s : m_strip_net_changes_2_S0) (s_1 : m_strip_net_changes_2_S1) : Option (m_strip_net_changes_2_S1 ⊕ m_strip_net_changes_2_C1) :=
 if s_1.t22 < ([true, false].length : Int) then
 (((ix [true, false] s_1.t22).bind fun t24 =>
 (m_strip_net_ends n00 (⟨s.t17, t24⟩ : Change)).bind fun t32 =>
 if 0 < t32.r3 then
 ((m_strip_net_path_1_2 (⟨s.t17, t24⟩ : Change) t32.r0 t32.r1 t32.r2 t32.r3 s_1.f1_c0_0 s_1.f1_c1_0).bind fun t45 =>
 some (⟨t45.a55_0, t45.a66_0⟩ : m_strip_net_changes_2_C2)) else
 (some (⟨s_1.f1_c0_0, s_1.f1_c1_0⟩ : m_strip_net_changes_2_C2))).bind fun o_2 =>
 (addc s_1.t22 1).bind fun t46 =>
 some (.inl (⟨t46, o_2.f1_c0_0, o_2.f1_c1_0⟩ : m_strip_net_changes_2_S1))) else
 (some (.inr (⟨s_1.f1_c0_0, s_1.f1_c1_0⟩ : m_strip_net_changes_2_C1)))
def m_strip_net_changes_2_L0 (n00 : (List Wy)) (s : m_strip_net_changes_2_S0) : Option (m_strip_net_changes_2_S0 ⊕ m_strip_net_changes_2_C0) :=
 if s.t17 < (n00.length : Int) then
 ((iterM FU (m_strip_net_changes_2_L1 n00 s) (⟨0, s.f1_c0_0, s.f1_c1_0⟩ : m_strip_net_changes_2_S1)).bind fun o_1 =>
 (addc s.t17 1).bind fun t47 =>
 some (.inl (⟨t47, o_1.f1_c0_0, o_1.f1_c1_0⟩ : m_strip_net_changes_2_S0))) else
 (some (.inr (⟨s.f1_c0_0, s.f1_c1_0⟩ : m_strip_net_changes_2_C0)))
def m_strip_net_changes_2 (n00 : (List Wy)) (f1_c00 : (List Bool)) (f1_c10 : (List Change)) : Option m_strip_net_changes_2_R :=
 (iterM FU (m_strip_net_changes_2_L0 n00) (⟨0, f1_c00, f1_c10⟩ : m_strip_net_changes_2_S0)).bind fun o =>
 some (⟨o.f1_c0_0, o.f1_c1_0⟩ : m_strip_net_changes_2_R)
theorem c_strip_net_changes_2 (n00 : (List Wy)) (f1_c00 : (List Bool)) (f1_c10 : (List Change)) (rb : Nat) (qa1 : Option Addr) (na1 ca1 : Nat) (pb : Nat) (pb_1 : Nat) (w : World) (hw : HV w (keys [(pb, .cells (RB.enc f1_c00).toArray 158 (0, 0)), (pb_1, .cells (RCh.enc f1_c10).toArray 171 (0, 0))] []) [(pb, .cells (RB.enc f1_c00).toArray 158 (0, 0)), (pb_1, .cells (RCh.enc f1_c10).toArray 171 (0, 0))] [] [(rb, 0, [.slice qa1 na1 ca1]), (aB qa1, aO qa1, RWay.enc n00)] w)  (hna1 : n00.length = na1) (hqa1 : AOK na1 qa1) (hla1 : na1 ≤ ca1) (hl_f1_c00 : f1_c00.length = 12) (hl_f1_c10 : f1_c10.length = 12) {res : m_strip_net_changes_2_R} (hm : m_strip_net_changes_2 n00 f1_c00 f1_c10 = some res) :
    Calls Tryz.prog 108 #[ptr rb 0, .func (.func 129) #[] #[ptr pb 0, ptr pb_1 0]] w (fun en w' => ∃ l : Unit, en = .returned (.tuple #[]) ∧ (res.f1_c0_0.length = 12 ∧ res.f1_c1_0.length = 12) ∧ HV w (keys [(pb, .cells (RB.enc f1_c00).toArray 158 (0, 0)), (pb_1, .cells (RCh.enc f1_c10).toArray 171 (0, 0))] []) [(pb, .cells (RB.enc res.f1_c0_0).toArray 158 (0, 0)), (pb_1, .cells (RCh.enc res.f1_c1_0).toArray 171 (0, 0))] [] [] w') := by
  unfold m_strip_net_changes_2 at hm
  refine g_en Tryz.func108 rfl Tryz.ntmps108 rfl (e := [(0, _), (1, _)]) rfl hw (g_sr (g_mv rfl rfl (g_val rfl rfl rfl (fun _ _ => v_nilCheck rfl) (g_fa 0 Tryz.runUnderlying154 rfl Tryz.sizeOf152 rfl rfl (g_val rfl rfl rfl (fun w hh => v_load (Tryz.isAgg152 w) rfl (segCell (hh.seg 0 rfl) 0 rfl)) (g_val rfl rfl rfl (fun w _ => v_lenR hna1 (Tryz.runUnderlying152 w) rfl) (g_mv rfl rfl ?_)))))))
  refine g_nt ?_
  obtain ⟨o, h3, h4⟩ := bindO hm
  refine g_cut (ι := Unit) (fun l => o.f1_c0_0.length = 12 ∧ o.f1_c1_0.length = 12) (fun l => []) (fun l => [(pb, .cells (RB.enc o.f1_c0_0).toArray 158 (0, 0)), (pb_1, .cells (RCh.enc o.f1_c1_0).toArray 171 (0, 0))]) (fun l => []) ?_ ?_
  ·replace hm := h3
   refine g_block ?_
   refine g_loopF (ι := Unit) hm (fun s l_1 => s.f1_c0_0.length = 12 ∧ s.f1_c1_0.length = 12) (fun s l_1 => [(0, ptr rb 0), (1, .func (.func 129) #[] #[ptr pb 0, ptr pb_1 0]), (16, .int .i64 (n00.length : Int)), (17, .int .i64 s.t17)]) (fun s l_1 => [(pb, .cells (RB.enc s.f1_c0_0).toArray 158 (0, 0)), (pb_1, .cells (RCh.enc s.f1_c1_0).toArray 171 (0, 0))]) (fun s l_1 => []) () (⟨hl_f1_c00, hl_f1_c10⟩) (sE rfl) (fun w hh => hh) (fun s l_1 r hpl hm h9 => ?_)
   obtain ⟨h7, h8⟩ := hpl
   unfold m_strip_net_changes_2_L0 at hm
   refine g_sr (g_ls rfl rfl rfl (g_nt (g_seq ?_)))
   refine g_cond rfl (fun h10 => ?_) (fun h10 => ?_)
   ·replace hm := ifD h10 hm
    refine g_skip (g_n_then (g_seq (g_block (g_sr (g_mv rfl rfl (g_as rfl rfl (g_nx ?_)))))))
    refine g_vlit RB [true, false] (ps := [(0, _), (1, _)]) (cells := [_, _]) (fun w => Tryz.runUnderlying93 w) (fun w => Tryz.sizeOf4 w) (fun w => Tryz.zeroValue4 w) rfl rfl rfl rfl rfl rfl rfl rfl (fun L h11 => ?_)
    refine g_val rfl rfl rfl (fun w _ => v_lenN (vlen RB h11 rfl) (Tryz.runUnderlying93 w) rfl) (g_mv rfl rfl (g_nt ?_))
    obtain ⟨o_1, h12, h13⟩ := bindO hm
    refine g_cut (ι := Unit) (fun l_2 => o_1.f1_c0_0.length = 12 ∧ o_1.f1_c1_0.length = 12) (fun l_2 => [(0, ptr rb 0), (1, .func (.func 129) #[] #[ptr pb 0, ptr pb_1 0]), (16, .int .i64 (n00.length : Int)), (17, .int .i64 s.t17)]) (fun l_2 => [(pb, .cells (RB.enc o_1.f1_c0_0).toArray 158 (0, 0)), (pb_1, .cells (RCh.enc o_1.f1_c1_0).toArray 171 (0, 0))]) (fun l_2 => []) ?_ ?_
    ·replace hm := h12
     refine g_block ?_
     refine g_loopF (ι := Unit) hm (fun s_1 l_3 => s_1.f1_c0_0.length = 12 ∧ s_1.f1_c1_0.length = 12) (fun s_1 l_3 => [(0, ptr rb 0), (1, .func (.func 129) #[] #[ptr pb 0, ptr pb_1 0]), (4, .int .i64 s.t17), (16, .int .i64 (n00.length : Int)), (17, .int .i64 s.t17), (20, slv L.q L.n L.cap), (21, .int .i64 ([true, false].length : Int)), (22, .int .i64 s_1.t22)]) (fun s_1 l_3 => [(pb, .cells (RB.enc s_1.f1_c0_0).toArray 158 (0, 0)), (pb_1, .cells (RCh.enc s_1.f1_c1_0).toArray 171 (0, 0))]) (fun s_1 l_3 => [⟨4, RB.enc [true, false], L.sp, L.q, []⟩]) () (⟨h7, h8⟩) (sE rfl) (fun w hh => hh) (fun s_1 l_3 r_1 hpl hm h18 => ?_)
     obtain ⟨h16, h17⟩ := hpl
     unfold m_strip_net_changes_2_L1 at hm
     refine g_sr (g_ls rfl rfl rfl (g_nt (g_seq ?_)))
     refine g_cond rfl (fun h19 => ?_) (fun h19 => ?_)
     ·replace hm := ifD h19 hm
      refine g_skip (g_n_then (g_seq ?_))
      obtain ⟨o_2, h20, h21⟩ := bindO hm
      refine g_cut (ι := Unit) (fun l_4 => o_2.f1_c0_0.length = 12 ∧ o_2.f1_c1_0.length = 12) (fun l_4 => [(0, ptr rb 0), (1, .func (.func 129) #[] #[ptr pb 0, ptr pb_1 0]), (4, .int .i64 s.t17), (16, .int .i64 (n00.length : Int)), (17, .int .i64 s.t17), (20, slv L.q L.n L.cap), (21, .int .i64 ([true, false].length : Int)), (22, .int .i64 s_1.t22)]) (fun l_4 => [(pb, .cells (RB.enc o_2.f1_c0_0).toArray 158 (0, 0)), (pb_1, .cells (RCh.enc o_2.f1_c1_0).toArray 171 (0, 0))]) (fun l_4 => [⟨4, RB.enc [true, false], L.sp, L.q, []⟩]) ?_ ?_
      ·replace hm := h20
       refine g_block (g_sr ?_)
       obtain ⟨t24, h24, hm⟩ := bindO hm
       refine g_val rfl rfl rfl (fun w _ => v_ixA h24 (Tryz.runUnderlying93 w) (Tryz.sizeOf4 w) rfl rfl (vlen RB h11 rfl) (vne h11)) (g_val rfl rfl rfl (fun w hh => v_ldE RB 0 h24 (Tryz.isAgg4 w) rfl (hh.vseg 0 rfl h11) rfl (Nat.add_zero _).symm) (g_as rfl rfl (g_nx (g_mv rfl rfl (g_mv rfl rfl (g_val rfl rfl rfl (fun _ _ => v_build (vs := [(0, _), (1, _)]) (cells := [_, _]) rfl rfl) ?_))))))
       refine g_allocV (fun w => Tryz.zeroValue164 w) rfl (fun b h25 => ?_)
       refine g_stSA (us := #[_, _]) (cs' := [_, _]) (S' := [_, _, _]) 0 (fun w => Tryz.sizeOf164 w) rfl rfl rfl rfl rfl rfl rfl (g_nx (g_mv rfl rfl (g_la [_, _] 0 Tryz.isAgg164 Tryz.sizeOf164 rfl rfl rfl rfl ?_)))
       obtain ⟨t32, h26, hm⟩ := bindO hm
       refine g_callH [] [] rfl rfl rfl rfl rfl rfl rfl Tryz.call130 (fun w hh => c_strip_net_ends n00 (⟨s.t17, t24⟩ : Change) rb qa1 na1 ca1 w (HV.callee (S0 := []) (vs0 := []) hh (roR hh 0 rfl (roR hh 1 rfl roN))) hna1 hqa1 hla1 h26) (fun l_5 h27 => ?_)
       refine g_mv rfl rfl (g_xt rfl rfl rfl (g_xt rfl rfl rfl (g_xt rfl rfl rfl (g_xt rfl rfl rfl (g_as rfl rfl (g_as rfl rfl (g_as rfl rfl ?_)))))))
       refine g_as rfl rfl (g_nx (g_mv rfl rfl (g_val rfl rfl rfl (fun _ _ => v_gtr rfl rfl) (g_nt ?_))))
       refine g_cond rfl (fun h28 => ?_) (fun h28 => ?_)
       ·replace hm := ifD h28 hm
        refine g_region (g_mv rfl rfl (g_la [_, _] 0 Tryz.isAgg164 Tryz.sizeOf164 rfl rfl rfl rfl (g_mv rfl rfl (g_mv rfl rfl (g_mv rfl rfl (g_mv rfl rfl ?_))))))
        obtain ⟨t45, h29, hm⟩ := bindO hm
        refine g_se (S' := [_, _, _]) (vs' := [_]) [1, 2, 0] [0] 0 rfl rfl rfl rfl ?_
        refine g_callH [_, _] [] rfl rfl rfl rfl rfl rfl rfl Tryz.call129 (fun w hh => c_strip_net_path_1_2 (⟨s.t17, t24⟩ : Change) t32.r0 t32.r1 t32.r2 t32.r3 s_1.f1_c0_0 s_1.f1_c1_0 pb pb_1 w (HV.callee (S0 := [_, _]) (vs0 := []) hh roN) h16 h17 h29) (fun l_6 h30 => ?_)
        obtain ⟨h31, h32⟩ := h30
        refine g_se (S' := [_, _, _]) (vs' := [_]) [0, 1, 2] [0] 0 rfl rfl rfl rfl (g_nil (g_n_blk ?_))
        obtain rfl := sj hm
        exact g_leaf () (⟨h31, h32⟩) (sE rfl) (hsE [0, 1] [0] 0 rfl rfl rfl rfl)
       ·replace hm := ifE h28 hm
        refine g_skip (g_n_blk ?_)
        obtain rfl := sj hm
        exact g_leaf () (⟨h16, h17⟩) (sE rfl) (hsE [1, 2] [0] 0 rfl rfl rfl rfl)
      ·intro l_4 hj
       obtain ⟨h22, h23⟩ := hj
       replace hm := h21
       refine g_n_then (g_region ?_)
       obtain ⟨t46, h33, hm⟩ := bindO hm
       refine g_ac h33 rfl rfl rfl (g_mv rfl rfl (g_nil ?_))
       obtain rfl := sj hm
       refine g_n_then ?_
       exact g_again' _ () rfl (⟨h22, h23⟩) (sE rfl) (fun w hh => hh)
     ·replace hm := ifE h19 hm
      refine g_exit (g_x_then (g_x_then (g_x_blk ?_)))
      obtain rfl := sj hm
      have hbo := h18 _ rfl
      subst hbo
      exact g_leaf () (⟨h16, h17⟩) (sE rfl) (hsE [0, 1] [] 0 rfl rfl rfl rfl)
    ·intro l_2 hj
     obtain ⟨h14, h15⟩ := hj
     replace hm := h13
     refine g_n_blk (g_n_then (g_region ?_))
     obtain ⟨t47, h34, hm⟩ := bindO hm
     refine g_ac h34 rfl rfl rfl (g_mv rfl rfl (g_nil ?_))
     obtain rfl := sj hm
     refine g_n_then ?_
     exact g_again' _ () rfl (⟨h14, h15⟩) (sE rfl) (fun w hh => hh)
   ·replace hm := ifE h10 hm
    refine g_exit (g_x_then (g_x_then (g_x_blk ?_)))
    obtain rfl := sj hm
    have hbo := h9 _ rfl
    subst hbo
    exact g_leaf () (⟨h7, h8⟩) (.nil) (fun w hh => hh)
  ·intro l hj
   obtain ⟨h5, h6⟩ := hj
   replace hm := h4
   obtain rfl := sj hm
   refine g_doneN rfl (fun w hh => .nil) (fun w hh => ⟨(), rfl, ⟨h5, h6⟩, hh.se [0, 1] [] 2 rfl rfl rfl rfl⟩)
structure m_strip_net_path_R where
  r1 : (List Bool)
  r0 : (List Change)
structure m_strip_net_path_C0 where
  by9 : (List Change)
  met8 : (List Bool)
structure m_strip_net_path_S0 where
  by9 : (List Change)
  met8 : (List Bool)
def m_strip_net_path_L0 (n00 : (List Wy)) (s : m_strip_net_path_S0) : Option (m_strip_net_path_S0 ⊕ m_strip_net_path_C0) :=
 (m_strip_net_changes_2 n00 s.met8 s.by9).bind fun t18 =>
 if t18.f1_c0_0 = s.met8 then
 (some (.inr (⟨t18.f1_c1_0, t18.f1_c0_0⟩ : m_strip_net_path_C0))) else
 (some (.inl (⟨t18.f1_c1_0, t18.f1_c0_0⟩ : m_strip_net_path_S0)))
structure m_strip_net_path_S1 where
  at12 : Int
  out11 : (List Change)
def m_strip_net_path_L1 (from1 : Int) (o : m_strip_net_path_C0) (n00 : (List Wy)) (s_1 : m_strip_net_path_S1) : Option (m_strip_net_path_S1 ⊕ (List Change)) :=
 if s_1.at12 = from1 then
 (some (.inr s_1.out11)) else
 ((ix o.by9 s_1.at12).bind fun t33 =>
 (appc 16 s_1.out11 [(⟨t33.way, t33.more⟩ : Change)]).bind fun t36 =>
 (ix o.by9 s_1.at12).bind fun t40 =>
 (m_strip_net_ends n00 t40).bind fun t42 =>
 some (.inl (⟨t42.r0, t36⟩ : m_strip_net_path_S1)))
def m_strip_net_path (n00 : (List Wy)) (from1 : Int) (to2 : Int) : Option m_strip_net_path_R :=
 (ix (List.replicate 12 false : (List Bool)) from1).bind fun t14 =>
 (some ((List.replicate 12 false : (List Bool)).set (Int.toNat from1) true)).bind fun met8 =>
 (iterM FU (m_strip_net_path_L0 n00) (⟨(List.replicate 12 (⟨0, false⟩ : Change) : (List Change)), met8⟩ : m_strip_net_path_S0)).bind fun o =>
 (ix o.met8 to2).bind fun t23 =>
 if (!t23) = true then
 (some (⟨o.met8, []⟩ : m_strip_net_path_R)) else
 ((iterM FU (m_strip_net_path_L1 from1 o n00) (⟨to2, []⟩ : m_strip_net_path_S1)).bind fun o_1 =>
 some (⟨o.met8, o_1⟩ : m_strip_net_path_R))
theorem c_strip_net_path (n00 : (List Wy)) (from1 : Int) (to2 : Int) (rb : Nat) (qa1 : Option Addr) (na1 ca1 : Nat) (w : World) (hw : HV w (keys [] []) [] [] [(rb, 0, [.slice qa1 na1 ca1]), (aB qa1, aO qa1, RWay.enc n00)] w)  (hna1 : n00.length = na1) (hqa1 : AOK na1 qa1) (hla1 : na1 ≤ ca1) {res : m_strip_net_path_R} (hm : m_strip_net_path n00 from1 to2 = some res) :
    Calls Tryz.prog 104 #[ptr rb 0, .int .i64 from1, .int .i64 to2] w (fun en w' => ∃ l : VL, en = .returned (.tuple #[slv l.q l.n l.cap, .agg (RB.enc res.r1).toArray]) ∧ (VOK 2 l.n l.cap (RCh.enc res.r0) l.sp l.q ∧ (l.q = none ↔ res.r0 = []) ∧ res.r1.length = 12) ∧ HV w (keys [] []) [] [⟨164, RCh.enc res.r0, l.sp, l.q, []⟩] [] w') := by
  unfold m_strip_net_path at hm
  refine g_en Tryz.func104 rfl Tryz.ntmps104 rfl (e := [(0, _), (1, _), (2, _)]) rfl hw (g_sr (g_val rfl rfl rfl (fun _ _ => v_nilS rfl) ?_))
  refine g_allocA RB (l := (List.replicate 12 false : (List Bool))) (k := 12) (fun w => Tryz.zeroValue158 w) rfl rfl rfl (fun b h4 h5 => ?_)
  refine g_nx ?_
  refine g_allocA RB (l := (List.replicate 12 false : (List Bool))) (k := 12) (fun w => Tryz.zeroValue158 w) rfl rfl rfl (fun b_1 h6 h7 => ?_)
  refine g_nx ?_
  refine g_allocA RCh (l := (List.replicate 12 (⟨0, false⟩ : Change) : (List Change))) (k := 12) (fun w => Tryz.zeroValue171 w) rfl rfl rfl (fun b_2 h8 h9 => ?_)
  refine g_nx (g_mv rfl rfl ?_)
  obtain ⟨t14, h10, hm⟩ := bindO hm
  refine g_val rfl rfl rfl (fun w _ => v_ixB h10 h7 (Tryz.runUnderlying158 w) (Tryz.sizeOf4 w) rfl rfl) ?_
  obtain ⟨met8, hmet8, hm⟩ := bindO hm
  refine g_stE RB 1 0 true (S' := [_, _, _]) (fun w => Tryz.sizeOf4 w) rfl rfl rfl rfl h7 (Nat.add_zero _).symm rfl h10 rfl rfl (Option.some.inj hmet8) rfl (fun h11 => ?_)
  refine g_nt (g_seq ?_)
  obtain ⟨o, h12, h13⟩ := bindO hm
  refine g_cut (ι := Unit) (fun l => o.by9.length = 12 ∧ o.met8.length = 12) (fun l => [(0, ptr rb 0), (1, .int .i64 from1), (2, .int .i64 to2), (7, ptr b 0), (8, ptr b_1 0), (9, ptr b_2 0)]) (fun l => [(b_2, .cells (RCh.enc o.by9).toArray 171 (0, 0)), (b_1, .cells (RB.enc o.met8).toArray 158 (0, 0)), (b, .cells (RB.enc (List.replicate 12 false : (List Bool))).toArray 158 (0, 0))]) (fun l => []) ?_ ?_
  ·replace hm := h12
   refine g_block ?_
   refine g_loopF (ι := Unit) hm (fun s l_1 => s.by9.length = 12 ∧ s.met8.length = 12) (fun s l_1 => [(0, ptr rb 0), (1, .int .i64 from1), (2, .int .i64 to2), (7, ptr b 0), (8, ptr b_1 0), (9, ptr b_2 0)]) (fun s l_1 => [(b_2, .cells (RCh.enc s.by9).toArray 171 (0, 0)), (b_1, .cells (RB.enc s.met8).toArray 158 (0, 0)), (b, .cells (RB.enc (List.replicate 12 false : (List Bool))).toArray 158 (0, 0))]) (fun s l_1 => []) () (⟨h9, h11⟩) (sE rfl) (fun w hh => hh) (fun s l_1 r hpl hm h18 => ?_)
   obtain ⟨h16, h17⟩ := hpl
   unfold m_strip_net_path_L0 at hm
   refine g_block (g_sr (g_val rfl rfl rfl (fun w hh => v_loadArr RB h17 (Tryz.isAgg158 w) (Tryz.sizeOf158 w) rfl rfl (hh.bsegA 1 rfl)) ?_))
   refine g_allocA RB (l := (List.replicate 12 false : (List Bool))) (k := 12) (fun w => Tryz.zeroValue158 w) rfl rfl rfl (fun b_3 h19 h20 => ?_)
   refine g_stW RB (S' := [_, _, _, _]) 0 (fun w => Tryz.sizeOf158 w) rfl rfl rfl h20 h17 rfl rfl (g_nx (g_mv rfl rfl (g_val rfl rfl rfl (fun _ _ => v_makeFunc (u := #[]) (u' := #[_, _]) rfl rfl) ?_)))
   obtain ⟨t18, h21, hm⟩ := bindO hm
   refine g_se (S' := [_, _, _, _]) (vs' := []) [2, 1, 0, 3] [] 0 rfl rfl rfl rfl ?_
   refine g_callH [_, _] [] rfl rfl rfl rfl rfl rfl rfl Tryz.call108 (fun w hh => c_strip_net_changes_2 n00 s.met8 s.by9 rb qa1 na1 ca1 b_1 b_2 w (HV.callee (S0 := [_, _]) (vs0 := []) hh (roR hh 0 rfl (roR hh 1 rfl roN))) hna1 hqa1 hla1 h17 h16 h21) (fun l_2 h22 => ?_)
   obtain ⟨h23, h24⟩ := h22
   refine g_se (S' := [_, _, _, _]) (vs' := []) [0, 1, 2, 3] [] 0 rfl rfl rfl rfl (g_nx (g_val rfl rfl rfl (fun w hh => v_loadArr RB h23 (Tryz.isAgg158 w) (Tryz.sizeOf158 w) rfl rfl (hh.bsegA 0 rfl)) (g_val rfl rfl rfl (fun w hh => v_loadArr RB h17 (Tryz.isAgg158 w) (Tryz.sizeOf158 w) rfl rfl (hh.bsegA 2 rfl)) ?_)))
   refine g_val rfl rfl rfl (fun w _ => v_eqlAgg (equal_arrB Tryz.underlying158 (fun w => Tryz.sizeOf4 w) (fun w => Tryz.isAgg4 w) Tryz.underlying4 h23 h17 w) gxeqg158 rfl rfl) ?_
   refine g_nt ?_
   refine g_cond rfl (fun h25 => ?_) (fun h25 => ?_)
   ·replace hm := ifD h25 hm
    refine g_exit (g_x_out rfl (g_x_then (g_x_blk ?_)))
    obtain rfl := sj hm
    have hbo := h18 _ rfl
    subst hbo
    exact g_leaf () (⟨h24, h23⟩) (sE rfl) (hsE [1, 0, 3] [] 0 rfl rfl rfl rfl)
   ·replace hm := ifE h25 hm
    refine g_skip (g_n_blk ?_)
    obtain rfl := sj hm
    refine g_n_then ?_
    exact g_again' _ () rfl (⟨h24, h23⟩) (sE rfl) (hsE [1, 0, 3] [] 0 rfl rfl rfl rfl)
  ·intro l hj
   obtain ⟨h14, h15⟩ := hj
   replace hm := h13
   refine g_n_then (g_seq (g_sr (g_mv rfl rfl ?_)))
   obtain ⟨t23, h26, hm⟩ := bindO hm
   refine g_val rfl rfl rfl (fun w _ => v_ixB h26 h15 (Tryz.runUnderlying158 w) (Tryz.sizeOf4 w) rfl rfl) (g_val rfl rfl rfl (fun w hh => v_ldE RB 0 h26 (Tryz.isAgg4 w) rfl (hh.bsegA 1 rfl) rfl (Nat.add_zero _).symm) (g_val rfl rfl rfl (fun _ _ => v_not rfl) (g_nt ?_)))
   refine g_cond rfl (fun h27 => ?_) (fun h27 => ?_)
   ·replace hm := ifT (h27) hm
    refine g_seq ?_
    refine g_draw none (.hoist 0 (.free 1 (.one 2 .done))) (HV _ _ [(b_2, .cells (RCh.enc o.by9).toArray 171 (0, 0)), (b_1, .cells (RB.enc o.met8).toArray 158 (0, 0))] [] _) rfl (by decide +kernel) (fun w k hh => hh.draw k) (hsE [0, 1] [] 0 rfl rfl rfl rfl) ?_
    refine p_hoist rfl rfl rfl rfl (fun w hh => v_loadArr RB h15 (Tryz.isAgg158 w) (Tryz.sizeOf158 w) rfl rfl (hh.bsegA 1 rfl)) (p_free rfl rfl rfl rfl (fun _ _ => v_nilS rfl) (p_one rfl (g_stW RB (S' := [_, _, _]) 2 (fun w => Tryz.sizeOf158 w) rfl rfl rfl h5 h15 rfl rfl (p_next (hsE [0, 1] [] 0 rfl rfl rfl rfl) (p_done (g_n_then (g_ret ?_)))))))
    refine g_r_then (g_vnil 164 ?_)
    obtain rfl := sj hm
    refine g_done rfl (fun w hh => (.tmp rfl (.cell rfl (loadVar_arr RB h15 (Tryz.isAgg158 _) (Tryz.sizeOf158 _) rfl (hh.bsegA 2 rfl)) .nil))) (fun w hh => ⟨⟨none, 0, 0, []⟩, rfl, ⟨VOK.nil, nieN, h15⟩, hh.se [] [0] 2 rfl rfl rfl rfl⟩)
   ·replace hm := ifN h27 hm
    refine g_skip (g_n_then (g_sr (g_val rfl rfl rfl (fun _ _ => v_nilS rfl) (g_nt (g_seq (g_sr (g_mv rfl rfl ?_)))))))
    refine g_as rfl rfl (g_nt (g_vnil 164 ?_))
    obtain ⟨o_1, h28, h29⟩ := bindO hm
    refine g_cut (ι := VL) (fun l_3 => VOK 2 l_3.n l_3.cap (RCh.enc o_1) l_3.sp l_3.q ∧ (l_3.q = none ↔ o_1 = [])) (fun l_3 => [(7, ptr b 0), (8, ptr b_1 0), (11, slv l_3.q l_3.n l_3.cap)]) (fun l_3 => [(b_2, .cells (RCh.enc o.by9).toArray 171 (0, 0)), (b_1, .cells (RB.enc o.met8).toArray 158 (0, 0)), (b, .cells (RB.enc (List.replicate 12 false : (List Bool))).toArray 158 (0, 0))]) (fun l_3 => [⟨164, RCh.enc o_1, l_3.sp, l_3.q, []⟩]) ?_ ?_
    ·replace hm := h28
     refine g_block ?_
     refine g_loopF (ι := VL) hm (fun s_1 l_4 => VOK 2 l_4.n l_4.cap (RCh.enc s_1.out11) l_4.sp l_4.q ∧ (l_4.q = none ↔ s_1.out11 = [])) (fun s_1 l_4 => [(0, ptr rb 0), (1, .int .i64 from1), (7, ptr b 0), (8, ptr b_1 0), (9, ptr b_2 0), (11, slv l_4.q l_4.n l_4.cap), (12, .int .i64 s_1.at12)]) (fun s_1 l_4 => [(b_2, .cells (RCh.enc o.by9).toArray 171 (0, 0)), (b_1, .cells (RB.enc o.met8).toArray 158 (0, 0)), (b, .cells (RB.enc (List.replicate 12 false : (List Bool))).toArray 158 (0, 0))]) (fun s_1 l_4 => [⟨164, RCh.enc s_1.out11, l_4.sp, l_4.q, []⟩]) ⟨none, 0, 0, []⟩ (⟨VOK.nil, nieN⟩) (sE rfl) (fun w hh => hh) (fun s_1 l_4 r_1 hpl hm h34 => ?_)
     obtain ⟨h32, h33⟩ := hpl
     unfold m_strip_net_path_L1 at hm
     refine g_seq (g_sr (g_mv rfl rfl (g_mv rfl rfl (g_val rfl rfl rfl (fun _ _ => v_neq rfl rfl) (g_nt ?_)))))
     refine g_cond rfl (fun h35 => ?_) (fun h35 => ?_)
     ·replace hm := ifF (of_ndec_true h35) hm
      refine g_skip (g_n_then (g_block (g_sr (g_mv rfl rfl (g_mv rfl rfl ?_)))))
      obtain ⟨t33, h36, hm⟩ := bindO hm
      refine g_val rfl rfl rfl (fun w _ => v_ixB h36 h14 (Tryz.runUnderlying171 w) (Tryz.sizeOf164 w) rfl rfl) ?_
      refine g_val rfl rfl rfl (fun w hh => v_ldEA RCh 0 [.int .i64 t33.way, .bool t33.more] h36 (Tryz.isAgg164 w) (Tryz.sizeOf164 w) rfl (hh.bsegA 0 rfl) rfl (Nat.add_zero _).symm) ?_
      refine g_vlit RCh [(⟨t33.way, t33.more⟩ : Change)] (ps := [(0, _)]) (cells := [_, _]) (fun w => Tryz.runUnderlying157 w) (fun w => Tryz.sizeOf164 w) (fun w => Tryz.zeroValue164 w) rfl rfl rfl rfl rfl rfl rfl rfl (fun L h37 => ?_)
      obtain ⟨t36, h38, hm⟩ := bindO hm
      refine g_vapp RCh 1 h38 Tryz.underlying157 gxinf164 rfl rfl rfl rfl rfl h32 rfl rfl (vlen RCh h37 rfl) (AOK.q (vne h37)) (fun w hh => (hh.vsegA 0 rfl h37)) rfl (fun L_1 h39 h39n => ?_)
      refine g_se (S' := [_, _, _]) (vs' := [_, _]) [0, 1, 2] [0, 1] 0 rfl rfl rfl rfl (g_as rfl rfl (g_nt (g_region (g_mv rfl rfl (g_mv rfl rfl ?_)))))
      obtain ⟨t40, h40, hm⟩ := bindO hm
      refine g_val rfl rfl rfl (fun w _ => v_ixB h40 h14 (Tryz.runUnderlying171 w) (Tryz.sizeOf164 w) rfl rfl) ?_
      refine g_val rfl rfl rfl (fun w hh => v_ldEA RCh 0 [.int .i64 t40.way, .bool t40.more] h40 (Tryz.isAgg164 w) (Tryz.sizeOf164 w) rfl (hh.bsegA 0 rfl) rfl (Nat.add_zero _).symm) ?_
      obtain ⟨t42, h41, hm⟩ := bindO hm
      refine g_callH [] [] rfl rfl rfl rfl rfl rfl rfl Tryz.call130 (fun w hh => c_strip_net_ends n00 t40 rb qa1 na1 ca1 w (HV.callee (S0 := []) (vs0 := []) hh (roR hh 0 rfl (roR hh 1 rfl roN))) hna1 hqa1 hla1 h41) (fun l_5 h42 => ?_)
      refine g_mv rfl rfl (g_xt rfl rfl rfl (g_xt rfl rfl rfl (g_xt rfl rfl rfl (g_xt rfl rfl rfl (g_as rfl rfl (g_nil (g_n_blk ?_)))))))
      obtain rfl := sj hm
      refine g_n_then ?_
      exact g_again' _ L_1 rfl (⟨h39, (h39n h33)⟩) (sE rfl) (hsE [0, 1, 2] [1] 0 rfl rfl rfl rfl)
     ·replace hm := ifT (of_ndec_false h35) hm
      refine g_exit (g_x_then (g_x_then (g_x_blk ?_)))
      obtain rfl := sj hm
      have hbo := h34 _ rfl
      subst hbo
      exact g_leaf l_4 (⟨h32, h33⟩) (sE rfl) (fun w hh => hh)
    ·intro l_3 hj
     obtain ⟨h30, h31⟩ := hj
     replace hm := h29
     refine g_n_then (g_seq ?_)
     refine g_draw none (.free 0 (.hoist 1 (.free 2 (.one 3 .done)))) (HV _ _ [(b_2, .cells (RCh.enc o.by9).toArray 171 (0, 0)), (b_1, .cells (RB.enc o.met8).toArray 158 (0, 0))] [⟨164, RCh.enc o_1, l_3.sp, l_3.q, []⟩] _) rfl (by decide +kernel) (fun w k hh => hh.draw k) (hsE [0, 1] [0] 0 rfl rfl rfl rfl) ?_
     refine p_mv rfl rfl rfl (p_hoist rfl rfl rfl rfl (fun w hh => v_loadArr RB h15 (Tryz.isAgg158 w) (Tryz.sizeOf158 w) rfl rfl (hh.bsegA 1 rfl)) (p_free rfl rfl rfl rfl (fun _ _ => v_assign rfl) (p_one rfl (g_stW RB (S' := [_, _, _]) 2 (fun w => Tryz.sizeOf158 w) rfl rfl rfl h5 h15 rfl rfl (p_next (hsE [0, 1] [0] 0 rfl rfl rfl rfl) (p_done (g_n_then ?_)))))))
     refine g_ret ?_
     obtain rfl := sj hm
     refine g_done rfl (fun w hh => (.tmp rfl (.cell rfl (loadVar_arr RB h15 (Tryz.isAgg158 _) (Tryz.sizeOf158 _) rfl (hh.bsegA 2 rfl)) .nil))) (fun w hh => ⟨l_3, rfl, ⟨h30, h31, h15⟩, hh.se [] [0] 2 rfl rfl rfl rfl⟩)
structure m_strip_desk_lack_S0 where
  t22 : Int
  out7_of_ : (List Int)
def m_strip_desk_lack_L0 (d01 : (List Span)) (met2 : (List Bool)) (s : m_strip_desk_lack_S0) : Option (m_strip_desk_lack_S0 ⊕ (List Int)) :=
 if s.t22 < (d01.length : Int) then
 (((addc 7 s.t22).bind fun t26 =>
 (ix met2 t26).bind fun t27 =>
 if (!t27) = true then
 ((appc 8 s.out7_of_ [s.t22]).bind fun t34 =>
 some t34) else
 (some s.out7_of_)).bind fun o_1 =>
 (addc s.t22 1).bind fun t36 =>
 some (.inl (⟨t36, o_1⟩ : m_strip_desk_lack_S0))) else
 (some (.inr s.out7_of_))
structure m_strip_desk_lack_S1 where
  t44 : Int
  out7_of_ : (List Int)
def m_strip_desk_lack_L1 (d00 : (List Strip)) (met2 : (List Bool)) (s_1 : m_strip_desk_lack_S1) : Option (m_strip_desk_lack_S1 ⊕ (List Int)) :=
 if s_1.t44 < (d00.length : Int) then
 (((addc 1 s_1.t44).bind fun t48 =>
 (ix met2 t48).bind fun t49 =>
 if t49 = true then
 ((appc 8 s_1.out7_of_ [s_1.t44]).bind fun t55 =>
 some t55) else
 (some s_1.out7_of_)).bind fun o_3 =>
 (addc s_1.t44 1).bind fun t57 =>
 some (.inl (⟨t57, o_3⟩ : m_strip_desk_lack_S1))) else
 (some (.inr s_1.out7_of_))
def m_strip_desk_lack (d00 : (List Strip)) (d01 : (List Span)) (w1 : Wy) (met2 : (List Bool)) : Option Lack :=
 if w1.dst = 0 then
 ((iterM FU (m_strip_desk_lack_L0 d01 met2) (⟨0, []⟩ : m_strip_desk_lack_S0)).bind fun o =>
 some (⟨(decide (w1.dst = 0)), o⟩ : Lack)) else
 ((iterM FU (m_strip_desk_lack_L1 d00 met2) (⟨0, []⟩ : m_strip_desk_lack_S1)).bind fun o_2 =>
 some (⟨(decide (w1.dst = 0)), o_2⟩ : Lack))
theorem c_strip_desk_lack (d00 : (List Strip)) (d01 : (List Span)) (w1 : Wy) (met2 : (List Bool)) (rb : Nat) (qa1 : Option Addr) (na1 ca1 : Nat) (qa2 : Option Addr) (na2 ca2 : Nat) (mv : Value) (w : World) (hw : HV w (keys [] []) [] [] [(rb, 0, [.slice qa1 na1 ca1, .slice qa2 na2 ca2, mv]), (aB qa1, aO qa1, RSt.enc d00), (aB qa2, aO qa2, RSp.enc d01)] w)  (hna1 : d00.length = na1) (hqa1 : AOK na1 qa1) (hla1 : na1 ≤ ca1) (hna2 : d01.length = na2) (hqa2 : AOK na2 qa2) (hla2 : na2 ≤ ca2) (hl_met2 : met2.length = 12) {res : Lack} (hm : m_strip_desk_lack d00 d01 w1 met2 = some res) :
    Calls Tryz.prog 105 #[ptr rb 0, .agg #[.int .i64 w1.fr, .int .i64 w1.dst, .int .i64 w1.lo, .int .i64 w1.hi, .int .i64 w1.cost, .int .i64 w1.goes], .agg (RB.enc met2).toArray] w (fun en w' => ∃ l : VL, en = .returned (.agg #[.bool res.tenants, slv l.q l.n l.cap]) ∧ (VOK 1 l.n l.cap (RI.enc res.of_) l.sp l.q) ∧ HV w (keys [] []) [] [⟨3, RI.enc res.of_, l.sp, l.q, []⟩] [] w') := by
  unfold m_strip_desk_lack at hm
  refine g_en Tryz.func105 rfl Tryz.ntmps105 rfl (e := [(0, _), (1, _), (2, _)]) rfl hw (g_sr ?_)
  refine g_boxV rfl rfl (fun b h2 => ?_)
  refine g_boxV rfl rfl (fun b_1 h3 => ?_)
  refine g_allocV (fun w => Tryz.zeroValue30 w) rfl (fun b_2 h4 => ?_)
  refine g_nx (g_fa 1 Tryz.runUnderlying156 rfl Tryz.sizeOf3 rfl rfl (g_lc 2 Tryz.isAgg3 rfl rfl rfl rfl (g_val rfl rfl rfl (fun _ _ => v_eql rfl rfl) (g_val rfl rfl rfl (fun _ _ => v_build (vs := [(0, _)]) (cells := [_, _]) rfl rfl) ?_))))
  refine g_allocV (fun w => Tryz.zeroValue30 w) rfl (fun b_3 h5 => ?_)
  refine g_stSA (us := #[_, _]) (cs' := [_, _]) (S' := [_, _, _, _]) 0 (fun w => Tryz.sizeOf30 w) rfl rfl rfl rfl rfl rfl rfl (g_nt (g_seq (g_sr (g_fa 0 Tryz.runUnderlying30 rfl Tryz.sizeOf4 rfl rfl (g_lc 0 Tryz.isAgg4 rfl rfl rfl rfl (g_nt ?_))))))
  refine g_cond rfl (fun h6 => ?_) (fun h6 => ?_)
  ·replace hm := ifD h6 hm
   refine g_seq (g_sr (g_mv rfl rfl (g_val rfl rfl rfl (fun _ _ => v_nilCheck rfl) (g_fa 0 Tryz.runUnderlying144 rfl Tryz.sizeOf25 rfl rfl (g_fa 1 Tryz.runUnderlying25 rfl Tryz.sizeOf23 rfl rfl (g_val rfl rfl rfl (fun w hh => v_load (Tryz.isAgg23 w) rfl (segCell (hh.seg 0 rfl) 1 rfl)) (g_val rfl rfl rfl (fun w _ => v_lenR hna2 (Tryz.runUnderlying23 w) rfl) ?_)))))))
   refine g_mv rfl rfl (g_nt (g_vnil 3 ?_))
   obtain ⟨o, h7, h8⟩ := bindO hm
   refine g_cut (ι := VL) (fun l => VOK 1 l.n l.cap (RI.enc o) l.sp l.q) (fun l => [(6, ptr b_2 0), (7, ptr b_3 0)]) (fun l => [(b_3, .cells #[.bool (decide (w1.dst = 0)), slv l.q l.n l.cap] 30 (0, 0)), (b_2, .cells #[.bool false, slv none 0 0] 30 (0, 0)), (b_1, .cells (RB.enc met2).toArray 158 (0, 0)), (b, .cells #[.int .i64 w1.fr, .int .i64 w1.dst, .int .i64 w1.lo, .int .i64 w1.hi, .int .i64 w1.cost, .int .i64 w1.goes] 156 (0, 0))]) (fun l => [⟨3, RI.enc o, l.sp, l.q, []⟩]) ?_ ?_
   ·replace hm := h7
    refine g_block ?_
    refine g_loopF (ι := VL) hm (fun s l_1 => VOK 1 l_1.n l_1.cap (RI.enc s.out7_of_) l_1.sp l_1.q) (fun s l_1 => [(5, ptr b_1 0), (6, ptr b_2 0), (7, ptr b_3 0), (21, .int .i64 (d01.length : Int)), (22, .int .i64 s.t22)]) (fun s l_1 => [(b_3, .cells #[.bool (decide (w1.dst = 0)), slv l_1.q l_1.n l_1.cap] 30 (0, 0)), (b_2, .cells #[.bool false, slv none 0 0] 30 (0, 0)), (b_1, .cells (RB.enc met2).toArray 158 (0, 0)), (b, .cells #[.int .i64 w1.fr, .int .i64 w1.dst, .int .i64 w1.lo, .int .i64 w1.hi, .int .i64 w1.cost, .int .i64 w1.goes] 156 (0, 0))]) (fun s l_1 => [⟨3, RI.enc s.out7_of_, l_1.sp, l_1.q, []⟩]) ⟨none, 0, 0, []⟩ (VOK.nil) (sE rfl) (fun w hh => hh) (fun s l_1 r hpl hm h11 => ?_)
    have h10 := hpl
    unfold m_strip_desk_lack_L0 at hm
    refine g_sr (g_ls rfl rfl rfl (g_nt (g_seq ?_)))
    refine g_cond rfl (fun h12 => ?_) (fun h12 => ?_)
    ·replace hm := ifD h12 hm
     refine g_skip (g_n_then (g_seq ?_))
     obtain ⟨o_1, h13, h14⟩ := bindO hm
     refine g_cut (ι := VL) (fun l_2 => VOK 1 l_2.n l_2.cap (RI.enc o_1) l_2.sp l_2.q) (fun l_2 => [(5, ptr b_1 0), (6, ptr b_2 0), (7, ptr b_3 0), (21, .int .i64 (d01.length : Int)), (22, .int .i64 s.t22)]) (fun l_2 => [(b_3, .cells #[.bool (decide (w1.dst = 0)), slv l_2.q l_2.n l_2.cap] 30 (0, 0)), (b_2, .cells #[.bool false, slv none 0 0] 30 (0, 0)), (b_1, .cells (RB.enc met2).toArray 158 (0, 0)), (b, .cells #[.int .i64 w1.fr, .int .i64 w1.dst, .int .i64 w1.lo, .int .i64 w1.hi, .int .i64 w1.cost, .int .i64 w1.goes] 156 (0, 0))]) (fun l_2 => [⟨3, RI.enc o_1, l_2.sp, l_2.q, []⟩]) ?_ ?_
     ·replace hm := h13
      refine g_block (g_sr (g_mv rfl rfl (g_as rfl rfl (g_nx (g_mv rfl rfl ?_)))))
      obtain ⟨t26, h16, hm⟩ := bindO hm
      refine g_ac h16 rfl rfl rfl ?_
      obtain ⟨t27, h17, hm⟩ := bindO hm
      refine g_val rfl rfl rfl (fun w _ => v_ixB h17 hl_met2 (Tryz.runUnderlying158 w) (Tryz.sizeOf4 w) rfl rfl) (g_val rfl rfl rfl (fun w hh => v_ldE RB 0 h17 (Tryz.isAgg4 w) rfl (hh.bsegA 2 rfl) rfl (Nat.add_zero _).symm) (g_val rfl rfl rfl (fun _ _ => v_not rfl) (g_nt ?_)))
      refine g_cond rfl (fun h18 => ?_) (fun h18 => ?_)
      ·replace hm := ifT (h18) hm
       refine g_region (g_fa 1 Tryz.runUnderlying30 rfl Tryz.sizeOf26 rfl rfl (g_lc 0 Tryz.isAgg26 rfl rfl rfl rfl (g_mv rfl rfl ?_)))
       refine g_vlit RI [s.t22] (ps := [(0, _)]) (cells := [_]) (fun w => Tryz.runUnderlying26 w) (fun w => Tryz.sizeOf3 w) (fun w => Tryz.zeroValue3 w) rfl rfl rfl rfl rfl rfl rfl rfl (fun L h19 => ?_)
       obtain ⟨t34, h20, hm⟩ := bindO hm
       refine g_vapp RI 1 h20 Tryz.underlying26 gxinf3 rfl rfl rfl rfl rfl h10 rfl rfl (vlen RI h19 rfl) (AOK.q (vne h19)) (fun w hh => (hh.vsegA 0 rfl h19)) rfl (fun L_1 h21 h21n => ?_)
       refine g_se (S' := [_, _, _, _]) (vs' := [_, _]) [0, 1, 2, 3] [0, 1] 0 rfl rfl rfl rfl (g_fa 1 Tryz.runUnderlying30 rfl Tryz.sizeOf26 rfl rfl (g_stS (cs' := #[_, _]) (S' := [_, _, _, _]) 0 (fun w => Tryz.sizeOf26 w) rfl rfl rfl rfl rfl rfl rfl (g_nil (g_n_blk ?_))))
       obtain rfl := sj hm
       exact g_leaf L_1 (h21) (sE rfl) (hsE [0, 1, 2, 3] [1] 0 rfl rfl rfl rfl)
      ·replace hm := ifN h18 hm
       refine g_skip (g_n_blk ?_)
       obtain rfl := sj hm
       exact g_leaf l_1 (h10) (sE rfl) (fun w hh => hh)
     ·intro l_2 hj
      have h15 := hj
      replace hm := h14
      refine g_n_then (g_region ?_)
      obtain ⟨t36, h22, hm⟩ := bindO hm
      refine g_ac h22 rfl rfl rfl (g_mv rfl rfl (g_nil ?_))
      obtain rfl := sj hm
      refine g_n_then ?_
      exact g_again' _ l_2 rfl (h15) (sE rfl) (fun w hh => hh)
    ·replace hm := ifE h12 hm
     refine g_exit (g_x_then (g_x_then (g_x_blk ?_)))
     obtain rfl := sj hm
     have hbo := h11 _ rfl
     subst hbo
     exact g_leaf l_1 (h10) (sE rfl) (fun w hh => hh)
   ·intro l hj
    have h9 := hj
    replace hm := h8
    refine g_n_then (g_sr (g_la [_, _] 0 Tryz.isAgg30 Tryz.sizeOf30 rfl rfl rfl rfl (g_stSA (us := #[_, _]) (cs' := [_, _]) (S' := [_, _, _, _]) 1 (fun w => Tryz.sizeOf30 w) rfl rfl rfl rfl rfl rfl rfl (g_nt (g_ret (g_r_then ?_))))))
    obtain rfl := sj hm
    refine g_done rfl (fun w hh => (.cell rfl (loadVar_agg (vs := [_, _]) (Tryz.isAgg30 _) (Tryz.sizeOf30 _) (hh.cells 1 rfl rfl)) .nil)) (fun w hh => ⟨l, rfl, h9, hh.se [] [0] 3 rfl rfl rfl rfl⟩)
  ·replace hm := ifE h6 hm
   refine g_skip (g_n_then (g_seq (g_sr (g_mv rfl rfl (g_val rfl rfl rfl (fun _ _ => v_nilCheck rfl) (g_fa 0 Tryz.runUnderlying144 rfl Tryz.sizeOf25 rfl rfl (g_fa 0 Tryz.runUnderlying25 rfl Tryz.sizeOf22 rfl rfl ?_)))))))
   refine g_val rfl rfl rfl (fun w hh => v_load (Tryz.isAgg22 w) rfl (segCell (hh.seg 0 rfl) 0 rfl)) (g_val rfl rfl rfl (fun w _ => v_lenR hna1 (Tryz.runUnderlying22 w) rfl) (g_mv rfl rfl (g_nt (g_vnil 3 ?_))))
   obtain ⟨o_2, h23, h24⟩ := bindO hm
   refine g_cut (ι := VL) (fun l_3 => VOK 1 l_3.n l_3.cap (RI.enc o_2) l_3.sp l_3.q) (fun l_3 => [(6, ptr b_2 0), (7, ptr b_3 0)]) (fun l_3 => [(b_3, .cells #[.bool (decide (w1.dst = 0)), slv l_3.q l_3.n l_3.cap] 30 (0, 0)), (b_2, .cells #[.bool false, slv none 0 0] 30 (0, 0)), (b_1, .cells (RB.enc met2).toArray 158 (0, 0)), (b, .cells #[.int .i64 w1.fr, .int .i64 w1.dst, .int .i64 w1.lo, .int .i64 w1.hi, .int .i64 w1.cost, .int .i64 w1.goes] 156 (0, 0))]) (fun l_3 => [⟨3, RI.enc o_2, l_3.sp, l_3.q, []⟩]) ?_ ?_
   ·replace hm := h23
    refine g_block ?_
    refine g_loopF (ι := VL) hm (fun s_1 l_4 => VOK 1 l_4.n l_4.cap (RI.enc s_1.out7_of_) l_4.sp l_4.q) (fun s_1 l_4 => [(5, ptr b_1 0), (6, ptr b_2 0), (7, ptr b_3 0), (43, .int .i64 (d00.length : Int)), (44, .int .i64 s_1.t44)]) (fun s_1 l_4 => [(b_3, .cells #[.bool (decide (w1.dst = 0)), slv l_4.q l_4.n l_4.cap] 30 (0, 0)), (b_2, .cells #[.bool false, slv none 0 0] 30 (0, 0)), (b_1, .cells (RB.enc met2).toArray 158 (0, 0)), (b, .cells #[.int .i64 w1.fr, .int .i64 w1.dst, .int .i64 w1.lo, .int .i64 w1.hi, .int .i64 w1.cost, .int .i64 w1.goes] 156 (0, 0))]) (fun s_1 l_4 => [⟨3, RI.enc s_1.out7_of_, l_4.sp, l_4.q, []⟩]) ⟨none, 0, 0, []⟩ (VOK.nil) (sE rfl) (fun w hh => hh) (fun s_1 l_4 r_1 hpl hm h27 => ?_)
    have h26 := hpl
    unfold m_strip_desk_lack_L1 at hm
    refine g_sr (g_ls rfl rfl rfl (g_nt (g_seq ?_)))
    refine g_cond rfl (fun h28 => ?_) (fun h28 => ?_)
    ·replace hm := ifD h28 hm
     refine g_skip (g_n_then (g_seq ?_))
     obtain ⟨o_3, h29, h30⟩ := bindO hm
     refine g_cut (ι := VL) (fun l_5 => VOK 1 l_5.n l_5.cap (RI.enc o_3) l_5.sp l_5.q) (fun l_5 => [(5, ptr b_1 0), (6, ptr b_2 0), (7, ptr b_3 0), (43, .int .i64 (d00.length : Int)), (44, .int .i64 s_1.t44)]) (fun l_5 => [(b_3, .cells #[.bool (decide (w1.dst = 0)), slv l_5.q l_5.n l_5.cap] 30 (0, 0)), (b_2, .cells #[.bool false, slv none 0 0] 30 (0, 0)), (b_1, .cells (RB.enc met2).toArray 158 (0, 0)), (b, .cells #[.int .i64 w1.fr, .int .i64 w1.dst, .int .i64 w1.lo, .int .i64 w1.hi, .int .i64 w1.cost, .int .i64 w1.goes] 156 (0, 0))]) (fun l_5 => [⟨3, RI.enc o_3, l_5.sp, l_5.q, []⟩]) ?_ ?_
     ·replace hm := h29
      refine g_block (g_sr (g_mv rfl rfl (g_as rfl rfl (g_nx (g_mv rfl rfl ?_)))))
      obtain ⟨t48, h32, hm⟩ := bindO hm
      refine g_ac h32 rfl rfl rfl ?_
      obtain ⟨t49, h33, hm⟩ := bindO hm
      refine g_val rfl rfl rfl (fun w _ => v_ixB h33 hl_met2 (Tryz.runUnderlying158 w) (Tryz.sizeOf4 w) rfl rfl) (g_val rfl rfl rfl (fun w hh => v_ldE RB 0 h33 (Tryz.isAgg4 w) rfl (hh.bsegA 2 rfl) rfl (Nat.add_zero _).symm) (g_nt ?_))
      refine g_cond rfl (fun h34 => ?_) (fun h34 => ?_)
      ·replace hm := ifT (h34) hm
       refine g_region (g_fa 1 Tryz.runUnderlying30 rfl Tryz.sizeOf26 rfl rfl (g_lc 0 Tryz.isAgg26 rfl rfl rfl rfl (g_mv rfl rfl ?_)))
       refine g_vlit RI [s_1.t44] (ps := [(0, _)]) (cells := [_]) (fun w => Tryz.runUnderlying26 w) (fun w => Tryz.sizeOf3 w) (fun w => Tryz.zeroValue3 w) rfl rfl rfl rfl rfl rfl rfl rfl (fun L_2 h35 => ?_)
       obtain ⟨t55, h36, hm⟩ := bindO hm
       refine g_vapp RI 1 h36 Tryz.underlying26 gxinf3 rfl rfl rfl rfl rfl h26 rfl rfl (vlen RI h35 rfl) (AOK.q (vne h35)) (fun w hh => (hh.vsegA 0 rfl h35)) rfl (fun L_3 h37 h37n => ?_)
       refine g_se (S' := [_, _, _, _]) (vs' := [_, _]) [0, 1, 2, 3] [0, 1] 0 rfl rfl rfl rfl (g_fa 1 Tryz.runUnderlying30 rfl Tryz.sizeOf26 rfl rfl (g_stS (cs' := #[_, _]) (S' := [_, _, _, _]) 0 (fun w => Tryz.sizeOf26 w) rfl rfl rfl rfl rfl rfl rfl (g_nil (g_n_blk ?_))))
       obtain rfl := sj hm
       exact g_leaf L_3 (h37) (sE rfl) (hsE [0, 1, 2, 3] [1] 0 rfl rfl rfl rfl)
      ·replace hm := ifN h34 hm
       refine g_skip (g_n_blk ?_)
       obtain rfl := sj hm
       exact g_leaf l_4 (h26) (sE rfl) (fun w hh => hh)
     ·intro l_5 hj
      have h31 := hj
      replace hm := h30
      refine g_n_then (g_region ?_)
      obtain ⟨t57, h38, hm⟩ := bindO hm
      refine g_ac h38 rfl rfl rfl (g_mv rfl rfl (g_nil ?_))
      obtain rfl := sj hm
      refine g_n_then ?_
      exact g_again' _ l_5 rfl (h31) (sE rfl) (fun w hh => hh)
    ·replace hm := ifE h28 hm
     refine g_exit (g_x_then (g_x_then (g_x_blk ?_)))
     obtain rfl := sj hm
     have hbo := h27 _ rfl
     subst hbo
     exact g_leaf l_4 (h26) (sE rfl) (fun w hh => hh)
   ·intro l_3 hj
    have h25 := hj
    replace hm := h24
    refine g_n_then (g_sr (g_la [_, _] 0 Tryz.isAgg30 Tryz.sizeOf30 rfl rfl rfl rfl (g_stSA (us := #[_, _]) (cs' := [_, _]) (S' := [_, _, _, _]) 1 (fun w => Tryz.sizeOf30 w) rfl rfl rfl rfl rfl rfl rfl (g_nt (g_ret ?_)))))
    obtain rfl := sj hm
    refine g_done rfl (fun w hh => (.cell rfl (loadVar_agg (vs := [_, _]) (Tryz.isAgg30 _) (Tryz.sizeOf30 _) (hh.cells 1 rfl rfl)) .nil)) (fun w hh => ⟨l_3, rfl, h25, hh.se [] [0] 3 rfl rfl rfl rfl⟩)
structure m_strip_net_make_1_S0 where
  most2 : Int
  t16 : Int
def m_strip_net_make_1_L0 (l1 : (List Change)) (n00 : (List Wy)) (s : m_strip_net_make_1_S0) : Option (m_strip_net_make_1_S0 ⊕ Int) :=
 if s.t16 < (l1.length : Int) then
 ((ix l1 s.t16).bind fun t18 =>
 (m_strip_net_ends n00 t18).bind fun t23 =>
 (m_strip_least s.most2 [t23.r3]).bind fun t31 =>
 (addc s.t16 1).bind fun t32 =>
 some (.inl (⟨t31, t32⟩ : m_strip_net_make_1_S0))) else
 (some (.inr s.most2))
structure m_strip_net_make_1_S1 where
  t35 : Int
  n00 : (List Wy)
def m_strip_net_make_1_L1 (l1 : (List Change)) (o : Int) (s_1 : m_strip_net_make_1_S1) : Option (m_strip_net_make_1_S1 ⊕ (List Wy)) :=
 if s_1.t35 < (l1.length : Int) then
 (((ix l1 s_1.t35).bind fun t37 =>
 if t37.more = true then
 ((ix s_1.n00 t37.way).bind fun t47 =>
 (addc t47.goes o).bind fun t51 =>
 (ix s_1.n00 t37.way).bind fun t52 =>
 (some (s_1.n00.set (Int.toNat t37.way) (⟨t52.fr, t52.dst, t52.lo, t52.hi, t52.cost, t51⟩ : Wy))).bind fun n00_1 =>
 some n00_1) else
 ((ix s_1.n00 t37.way).bind fun t60 =>
 (subc t60.goes o).bind fun t64 =>
 (ix s_1.n00 t37.way).bind fun t65 =>
 (some (s_1.n00.set (Int.toNat t37.way) (⟨t65.fr, t65.dst, t65.lo, t65.hi, t65.cost, t64⟩ : Wy))).bind fun n00_2 =>
 some n00_2)).bind fun o_2 =>
 (addc s_1.t35 1).bind fun t67 =>
 some (.inl (⟨t67, o_2⟩ : m_strip_net_make_1_S1))) else
 (some (.inr s_1.n00))
def m_strip_net_make_1 (n00 : (List Wy)) (l1 : (List Change)) (most2 : Int) : Option (List Wy) :=
 (iterM FU (m_strip_net_make_1_L0 l1 n00) (⟨most2, 0⟩ : m_strip_net_make_1_S0)).bind fun o =>
 (iterM FU (m_strip_net_make_1_L1 l1 o) (⟨0, n00⟩ : m_strip_net_make_1_S1)).bind fun o_1 =>
 some o_1
theorem c_strip_net_make_1 (n00 : (List Wy)) (l1 : (List Change)) (most2 : Int) (rb : Nat) (V_n00 : VL) (qa1 : Option Addr) (na1 ca1 : Nat) (w : World) (hw : HV w (keys [] [⟨156, RWay.enc n00, V_n00.sp, V_n00.q, []⟩]) [] [⟨156, RWay.enc n00, V_n00.sp, V_n00.q, []⟩] [(rb, 0, [slv V_n00.q V_n00.n V_n00.cap]), (aB qa1, aO qa1, RCh.enc l1)] w)  (hv_n00 : VOK 6 V_n00.n V_n00.cap (RWay.enc n00) V_n00.sp V_n00.q) (hna1 : l1.length = na1) (hqa1 : AOK na1 qa1) (hla1 : na1 ≤ ca1) {res : (List Wy)} (hm : m_strip_net_make_1 n00 l1 most2 = some res) :
    Calls Tryz.prog 106 #[ptr rb 0, .slice qa1 na1 ca1, .int .i64 most2] w (fun en w' => ∃ l : Unit, en = .returned (.tuple #[]) ∧ (VOK 6 V_n00.n V_n00.cap (RWay.enc res) V_n00.sp V_n00.q) ∧ HV w (keys [] [⟨156, RWay.enc n00, V_n00.sp, V_n00.q, []⟩]) [] [⟨156, RWay.enc res, V_n00.sp, V_n00.q, []⟩] [] w') := by
  unfold m_strip_net_make_1 at hm
  refine g_en Tryz.func106 rfl Tryz.ntmps106 rfl (e := [(0, _), (1, _), (2, _)]) rfl hw (g_seq (g_sr (g_mv rfl rfl (g_val rfl rfl rfl (fun w _ => v_lenR hna1 (Tryz.runUnderlying157 w) rfl) (g_mv rfl rfl (g_nt ?_))))))
  obtain ⟨o, h2, h3⟩ := bindO hm
  refine g_cut (ι := Unit) (fun l => True) (fun l => [(0, ptr rb 0), (1, .slice qa1 na1 ca1), (2, .int .i64 o)]) (fun l => []) (fun l => [⟨156, RWay.enc n00, V_n00.sp, V_n00.q, []⟩]) ?_ ?_
  ·replace hm := h2
   refine g_block ?_
   refine g_loopF (ι := Unit) hm (fun s l_1 => True) (fun s l_1 => [(0, ptr rb 0), (1, .slice qa1 na1 ca1), (2, .int .i64 s.most2), (14, .slice qa1 na1 ca1), (15, .int .i64 (l1.length : Int)), (16, .int .i64 s.t16)]) (fun s l_1 => []) (fun s l_1 => [⟨156, RWay.enc n00, V_n00.sp, V_n00.q, []⟩]) () (trivial) (sE rfl) (fun w hh => hh) (fun s l_1 r hpl hm h4 => ?_)
   unfold m_strip_net_make_1_L0 at hm
   refine g_sr (g_ls rfl rfl rfl (g_nt (g_seq ?_)))
   refine g_cond rfl (fun h5 => ?_) (fun h5 => ?_)
   ·replace hm := ifD h5 hm
    refine g_skip (g_n_then (g_seq (g_block (g_sr ?_))))
    obtain ⟨t18, h6, hm⟩ := bindO hm
    refine g_val rfl rfl rfl (fun w _ => v_ixR h6 (Tryz.runUnderlying157 w) (Tryz.sizeOf164 w) rfl rfl hna1 hqa1) ?_
    refine g_val rfl rfl rfl (fun w hh => v_ldEA RCh 0 [.int .i64 t18.way, .bool t18.more] h6 (Tryz.isAgg164 w) (Tryz.sizeOf164 w) rfl (hh.seg 1 rfl) rfl (Nat.add_zero _).symm) ?_
    refine g_allocV (fun w => Tryz.zeroValue164 w) rfl (fun b h7 => ?_)
    refine g_stSA (us := #[_, _]) (cs' := [_, _]) (S' := [_]) 0 (fun w => Tryz.sizeOf164 w) rfl rfl rfl rfl rfl rfl rfl (g_nx (g_mv rfl rfl (g_la [_, _] 0 Tryz.isAgg164 Tryz.sizeOf164 rfl rfl rfl rfl ?_)))
    obtain ⟨t23, h8, hm⟩ := bindO hm
    refine g_callH [] [] rfl rfl rfl rfl rfl rfl rfl Tryz.call130 (fun w hh => c_strip_net_ends n00 t18 rb (qA V_n00.q) V_n00.n V_n00.cap w (HV.callee (S0 := []) (vs0 := []) hh (roR hh 0 rfl (roC (hh.vsepA 0 rfl hv_n00) roN))) (vlen RWay hv_n00 rfl) (AOK.q (vne hv_n00)) (hv_n00).hle h8) (fun l_2 h9 => ?_)
    refine g_mv rfl rfl (g_xt rfl rfl rfl (g_xt rfl rfl rfl (g_xt rfl rfl rfl (g_xt rfl rfl rfl (g_as rfl rfl (g_as rfl rfl (g_as rfl rfl ?_)))))))
    refine g_as rfl rfl (g_nt (g_region (g_mv rfl rfl (g_mv rfl rfl ?_))))
    refine g_vlit RI [t23.r3] (ps := [(0, _)]) (cells := [_]) (fun w => Tryz.runUnderlying26 w) (fun w => Tryz.sizeOf3 w) (fun w => Tryz.zeroValue3 w) rfl rfl rfl rfl rfl rfl rfl rfl (fun L h10 => ?_)
    obtain ⟨t31, h11, hm⟩ := bindO hm
    refine g_callH [] [] rfl rfl rfl rfl rfl rfl rfl Tryz.call74 (fun w hh => c_strip_least s.most2 [t23.r3] (qA L.q) L.n L.cap w (HV.callee (S0 := []) (vs0 := []) hh (roC (hh.vsepA 0 rfl h10) roN)) (vlen RI h10 rfl) (AOK.q (vne h10)) (h10).hle h11) (fun l_3 h12 => ?_)
    refine g_as rfl rfl (g_nil (g_n_blk (g_n_then (g_region ?_))))
    obtain ⟨t32, h13, hm⟩ := bindO hm
    refine g_ac h13 rfl rfl rfl (g_mv rfl rfl (g_nil ?_))
    obtain rfl := sj hm
    refine g_n_then ?_
    exact g_again' _ () rfl (trivial) (sE rfl) (hsE [] [1] 0 rfl rfl rfl rfl)
   ·replace hm := ifE h5 hm
    refine g_exit (g_x_then (g_x_then (g_x_blk ?_)))
    obtain rfl := sj hm
    have hbo := h4 _ rfl
    subst hbo
    exact g_leaf () (trivial) (sE rfl) (fun w hh => hh)
  ·intro l hj
   replace hm := h3
   refine g_n_then (g_sr (g_mv rfl rfl (g_val rfl rfl rfl (fun w _ => v_lenR hna1 (Tryz.runUnderlying157 w) rfl) (g_mv rfl rfl (g_nt ?_)))))
   obtain ⟨o_1, h14, h15⟩ := bindO hm
   refine g_cut (ι := Unit) (fun l_4 => VOK 6 V_n00.n V_n00.cap (RWay.enc o_1) V_n00.sp V_n00.q) (fun l_4 => []) (fun l_4 => []) (fun l_4 => [⟨156, RWay.enc o_1, V_n00.sp, V_n00.q, []⟩]) ?_ ?_
   ·replace hm := h14
    refine g_block ?_
    refine g_loopF (ι := Unit) hm (fun s_1 l_5 => VOK 6 V_n00.n V_n00.cap (RWay.enc s_1.n00) V_n00.sp V_n00.q) (fun s_1 l_5 => [(0, ptr rb 0), (2, .int .i64 o), (33, .slice qa1 na1 ca1), (34, .int .i64 (l1.length : Int)), (35, .int .i64 s_1.t35)]) (fun s_1 l_5 => []) (fun s_1 l_5 => [⟨156, RWay.enc s_1.n00, V_n00.sp, V_n00.q, []⟩]) () (hv_n00) (sE rfl) (fun w hh => hh) (fun s_1 l_5 r_1 hpl hm h18 => ?_)
    have h17 := hpl
    unfold m_strip_net_make_1_L1 at hm
    refine g_sr (g_ls rfl rfl rfl (g_nt (g_seq ?_)))
    refine g_cond rfl (fun h19 => ?_) (fun h19 => ?_)
    ·replace hm := ifD h19 hm
     refine g_skip (g_n_then (g_seq ?_))
     obtain ⟨o_2, h20, h21⟩ := bindO hm
     refine g_cut (ι := Unit) (fun l_6 => VOK 6 V_n00.n V_n00.cap (RWay.enc o_2) V_n00.sp V_n00.q) (fun l_6 => [(0, ptr rb 0), (2, .int .i64 o), (33, .slice qa1 na1 ca1), (34, .int .i64 (l1.length : Int)), (35, .int .i64 s_1.t35)]) (fun l_6 => []) (fun l_6 => [⟨156, RWay.enc o_2, V_n00.sp, V_n00.q, []⟩]) ?_ ?_
     ·replace hm := h20
      refine g_block (g_sr ?_)
      obtain ⟨t37, h23, hm⟩ := bindO hm
      refine g_val rfl rfl rfl (fun w _ => v_ixR h23 (Tryz.runUnderlying157 w) (Tryz.sizeOf164 w) rfl rfl hna1 hqa1) ?_
      refine g_val rfl rfl rfl (fun w hh => v_ldEA RCh 0 [.int .i64 t37.way, .bool t37.more] h23 (Tryz.isAgg164 w) (Tryz.sizeOf164 w) rfl (hh.seg 1 rfl) rfl (Nat.add_zero _).symm) ?_
      refine g_allocV (fun w => Tryz.zeroValue164 w) rfl (fun b_1 h24 => ?_)
      refine g_stSA (us := #[_, _]) (cs' := [_, _]) (S' := [_]) 0 (fun w => Tryz.sizeOf164 w) rfl rfl rfl rfl rfl rfl rfl (g_nx (g_fa 1 Tryz.runUnderlying164 rfl Tryz.sizeOf4 rfl rfl (g_lc 0 Tryz.isAgg4 rfl rfl rfl rfl (g_nt ?_))))
      refine g_cond rfl (fun h25 => ?_) (fun h25 => ?_)
      ·replace hm := ifT (h25) hm
       refine g_draw (some 13) (.free 0 (.free 1 (.free 2 (.hoist 3 (.free 4 (.hoist 5 (.free 6 (.free 7 (.hoist 8 (.free 9 (.free 10 (.free 11 (.free 12 (.last 13 .done)))))))))))))) _ rfl (by decide +kernel) (fun w k hh => hh.draw k) (fun w hh => hh) ?_
       refine p_mv rfl rfl rfl (p_free rfl rfl rfl rfl (fun _ _ => v_nilCheck rfl) (p_fa 0 Tryz.runUnderlying154 Tryz.sizeOf152 rfl rfl rfl rfl (p_hoist rfl rfl rfl rfl (fun w hh => v_load (Tryz.isAgg152 w) rfl (segCell (hh.seg 0 rfl) 0 rfl)) (p_fa 0 Tryz.runUnderlying164 Tryz.sizeOf3 rfl rfl rfl rfl (p_lc 0 Tryz.isAgg3 rfl rfl rfl rfl rfl ?_)))))
       obtain ⟨t47, h26, hm⟩ := bindO hm
       refine p_free rfl rfl rfl rfl (fun w _ => v_ixA h26 (Tryz.runUnderlying152 w) (Tryz.sizeOf156 w) rfl rfl (vlen RWay h17 rfl) (vne h17)) (p_fa 5 Tryz.runUnderlying156 Tryz.sizeOf3 rfl rfl rfl rfl (p_hoist rfl rfl rfl rfl (fun w hh => v_ldE RWay 5 h26 (Tryz.isAgg3 w) rfl (hh.vseg 0 rfl h17) rfl rfl) (p_mv rfl rfl rfl ?_)))
       obtain ⟨t51, h27, hm⟩ := bindO hm
       refine p_free rfl rfl rfl rfl (fun _ _ => v_addc h27 rfl rfl) ?_
       obtain ⟨t52, h28, hm⟩ := bindO hm
       refine p_free rfl rfl rfl rfl (fun w _ => v_ixA h28 (Tryz.runUnderlying152 w) (Tryz.sizeOf156 w) rfl rfl (vlen RWay h17 rfl) (vne h17)) (p_fa 5 Tryz.runUnderlying156 Tryz.sizeOf3 rfl rfl rfl rfl (p_last rfl ?_))
       obtain ⟨n00_1, hn00_1, hm⟩ := bindO hm
       refine g_vst RWay 0 5 (⟨t52.fr, t52.dst, t52.lo, t52.hi, t52.cost, t51⟩ : Wy) (fun w => Tryz.sizeOf3 w) rfl rfl rfl rfl h17 rfl rfl rfl h28 rfl rfl (Option.some.inj hn00_1) (fun h29 => ?_)
       refine g_se (S' := [_]) (vs' := [_]) [0] [0] 0 rfl rfl rfl rfl (p_nextL (p_done (g_n_blk ?_)))
       obtain rfl := sj hm
       exact g_leaf () (h29) (sE rfl) (hsE [] [0] 0 rfl rfl rfl rfl)
      ·replace hm := ifN h25 hm
       refine g_draw (some 13) (.free 0 (.free 1 (.free 2 (.hoist 3 (.free 4 (.hoist 5 (.free 6 (.free 7 (.hoist 8 (.free 9 (.free 10 (.free 11 (.free 12 (.last 13 .done)))))))))))))) _ rfl (by decide +kernel) (fun w k hh => hh.draw k) (fun w hh => hh) ?_
       refine p_mv rfl rfl rfl (p_free rfl rfl rfl rfl (fun _ _ => v_nilCheck rfl) (p_fa 0 Tryz.runUnderlying154 Tryz.sizeOf152 rfl rfl rfl rfl (p_hoist rfl rfl rfl rfl (fun w hh => v_load (Tryz.isAgg152 w) rfl (segCell (hh.seg 0 rfl) 0 rfl)) (p_fa 0 Tryz.runUnderlying164 Tryz.sizeOf3 rfl rfl rfl rfl (p_lc 0 Tryz.isAgg3 rfl rfl rfl rfl rfl ?_)))))
       obtain ⟨t60, h30, hm⟩ := bindO hm
       refine p_free rfl rfl rfl rfl (fun w _ => v_ixA h30 (Tryz.runUnderlying152 w) (Tryz.sizeOf156 w) rfl rfl (vlen RWay h17 rfl) (vne h17)) (p_fa 5 Tryz.runUnderlying156 Tryz.sizeOf3 rfl rfl rfl rfl (p_hoist rfl rfl rfl rfl (fun w hh => v_ldE RWay 5 h30 (Tryz.isAgg3 w) rfl (hh.vseg 0 rfl h17) rfl rfl) (p_mv rfl rfl rfl ?_)))
       obtain ⟨t64, h31, hm⟩ := bindO hm
       refine p_free rfl rfl rfl rfl (fun _ _ => v_subc h31 rfl rfl) ?_
       obtain ⟨t65, h32, hm⟩ := bindO hm
       refine p_free rfl rfl rfl rfl (fun w _ => v_ixA h32 (Tryz.runUnderlying152 w) (Tryz.sizeOf156 w) rfl rfl (vlen RWay h17 rfl) (vne h17)) (p_fa 5 Tryz.runUnderlying156 Tryz.sizeOf3 rfl rfl rfl rfl (p_last rfl ?_))
       obtain ⟨n00_2, hn00_2, hm⟩ := bindO hm
       refine g_vst RWay 0 5 (⟨t65.fr, t65.dst, t65.lo, t65.hi, t65.cost, t64⟩ : Wy) (fun w => Tryz.sizeOf3 w) rfl rfl rfl rfl h17 rfl rfl rfl h32 rfl rfl (Option.some.inj hn00_2) (fun h33 => ?_)
       refine g_se (S' := [_]) (vs' := [_]) [0] [0] 0 rfl rfl rfl rfl (p_nextL (p_done (g_n_blk ?_)))
       obtain rfl := sj hm
       exact g_leaf () (h33) (sE rfl) (hsE [] [0] 0 rfl rfl rfl rfl)
     ·intro l_6 hj
      have h22 := hj
      replace hm := h21
      refine g_n_then (g_region ?_)
      obtain ⟨t67, h34, hm⟩ := bindO hm
      refine g_ac h34 rfl rfl rfl (g_mv rfl rfl (g_nil ?_))
      obtain rfl := sj hm
      refine g_n_then ?_
      exact g_again' _ () rfl (h22) (sE rfl) (fun w hh => hh)
    ·replace hm := ifE h19 hm
     refine g_exit (g_x_then (g_x_then (g_x_blk ?_)))
     obtain rfl := sj hm
     have hbo := h18 _ rfl
     subst hbo
     exact g_leaf () (h17) (.nil) (fun w hh => hh)
   ·intro l_4 hj
    have h16 := hj
    replace hm := h15
    obtain rfl := sj hm
    refine g_doneN rfl (fun w hh => .nil) (fun w hh => ⟨(), rfl, h16, hh.se [] [0] 2 rfl rfl rfl rfl⟩)
structure m_strip_net_cheaper_1_3_R where
  a55_0 : (List Int)
  a66_0 : (List Change)
  a77 : Int
def m_strip_net_cheaper_1_3 (c0 : Change) (a1 : Int) (b2 : Int) (cost3 : Int) (room4 : Int) (a550 : (List Int)) (a660 : (List Change)) (a77 : Int) : Option m_strip_net_cheaper_1_3_R :=
 (ix a550 a1).bind fun t14 =>
 (addc t14 cost3).bind fun t17 =>
 (ix a550 b2).bind fun t19 =>
 if t17 < t19 then
 ((ix a550 a1).bind fun t25 =>
 (addc t25 cost3).bind fun t28 =>
 (ix a550 b2).bind fun t31 =>
 (some (a550.set (Int.toNat b2) t28)).bind fun a55 =>
 (ix a660 b2).bind fun t32 =>
 (some (a660.set (Int.toNat b2) c0)).bind fun a66 =>
 some (⟨a55, a66, b2⟩ : m_strip_net_cheaper_1_3_R)) else
 (some (⟨a550, a660, a77⟩ : m_strip_net_cheaper_1_3_R))
theorem c_strip_net_cheaper_1_3 (c0 : Change) (a1 : Int) (b2 : Int) (cost3 : Int) (room4 : Int) (a550 : (List Int)) (a660 : (List Change)) (a77 : Int) (pb : Nat) (pb_1 : Nat) (pb_2 : Nat) (w : World) (hw : HV w (keys [(pb, .cells (RI.enc a550).toArray 118 (0, 0)), (pb_1, .cells (RCh.enc a660).toArray 171 (0, 0)), (pb_2, .cells #[.int .i64 a77] 3 (0, 0))] []) [(pb, .cells (RI.enc a550).toArray 118 (0, 0)), (pb_1, .cells (RCh.enc a660).toArray 171 (0, 0)), (pb_2, .cells #[.int .i64 a77] 3 (0, 0))] [] [] w) (hl_a550 : a550.length = 12) (hl_a660 : a660.length = 12) {res : m_strip_net_cheaper_1_3_R} (hm : m_strip_net_cheaper_1_3 c0 a1 b2 cost3 room4 a550 a660 a77 = some res) :
    Calls Tryz.prog 131 #[.agg #[.int .i64 c0.way, .bool c0.more], .int .i64 a1, .int .i64 b2, .int .i64 cost3, .int .i64 room4, ptr pb 0, ptr pb_1 0, ptr pb_2 0] w (fun en w' => ∃ l : Unit, en = .returned (.tuple #[]) ∧ (res.a55_0.length = 12 ∧ res.a66_0.length = 12) ∧ HV w (keys [(pb, .cells (RI.enc a550).toArray 118 (0, 0)), (pb_1, .cells (RCh.enc a660).toArray 171 (0, 0)), (pb_2, .cells #[.int .i64 a77] 3 (0, 0))] []) [(pb, .cells (RI.enc res.a55_0).toArray 118 (0, 0)), (pb_1, .cells (RCh.enc res.a66_0).toArray 171 (0, 0)), (pb_2, .cells #[.int .i64 res.a77] 3 (0, 0))] [] [] w') := by
  unfold m_strip_net_cheaper_1_3 at hm
  refine g_en Tryz.func131 rfl Tryz.ntmps131 rfl (e := [(0, _), (1, _), (2, _), (3, _), (4, _), (5, _), (6, _), (7, _)]) rfl hw (g_sr ?_)
  refine g_boxV rfl rfl (fun b h3 => ?_)
  refine g_nt (g_seq ?_)
  refine g_draw none (.free 0 (.free 1 (.hoist 2 (.free 3 (.free 4 (.free 5 (.free 6 (.hoist 7 (.free 8 .done))))))))) _ rfl (by decide +kernel) (fun w k hh => hh.draw k) (fun w hh => hh) ?_
  refine p_mv rfl rfl rfl ?_
  obtain ⟨t14, h4, hm⟩ := bindO hm
  refine p_free rfl rfl rfl rfl (fun w _ => v_ixB h4 hl_a550 (Tryz.runUnderlying118 w) (Tryz.sizeOf3 w) rfl rfl) (p_hoist rfl rfl rfl rfl (fun w hh => v_ldE RI 0 h4 (Tryz.isAgg3 w) rfl (hh.bsegA 1 rfl) rfl (Nat.add_zero _).symm) (p_mv rfl rfl rfl ?_))
  obtain ⟨t17, h5, hm⟩ := bindO hm
  refine p_free rfl rfl rfl rfl (fun _ _ => v_addc h5 rfl rfl) (p_mv rfl rfl rfl ?_)
  obtain ⟨t19, h6, hm⟩ := bindO hm
  refine p_free rfl rfl rfl rfl (fun w _ => v_ixB h6 hl_a550 (Tryz.runUnderlying118 w) (Tryz.sizeOf3 w) rfl rfl) (p_hoist rfl rfl rfl rfl (fun w hh => v_ldE RI 0 h6 (Tryz.isAgg3 w) rfl (hh.bsegA 1 rfl) rfl (Nat.add_zero _).symm) (p_free rfl rfl rfl rfl (fun _ _ => v_lss rfl rfl) (p_done (g_n_then ?_))))
  refine g_cond rfl (fun h7 => ?_) (fun h7 => ?_)
  ·replace hm := ifD h7 hm
   refine g_draw none (.free 0 (.free 1 (.free 2 (.free 3 (.free 5 (.hoist 7 (.free 8 (.one 4 (.free 6 (.free 9 (.one 10 (.free 11 (.one 12 (.one 13 .done)))))))))))))) (HV _ _ [(b, .cells #[.int .i64 c0.way, .bool c0.more] 164 (0, 0))] [] _) rfl (by decide +kernel) (fun w k hh => hh.draw k) (hsE [0] [] 0 rfl rfl rfl rfl) ?_
   refine p_mv rfl rfl rfl (p_mv rfl rfl rfl (p_mv rfl rfl rfl ?_))
   obtain ⟨t25, h8, hm⟩ := bindO hm
   refine p_free rfl rfl rfl rfl (fun w _ => v_ixB h8 hl_a550 (Tryz.runUnderlying118 w) (Tryz.sizeOf3 w) rfl rfl) (p_mv rfl rfl rfl (p_hoist rfl rfl rfl rfl (fun w hh => v_loadAgg (vs := [_, _]) (Tryz.isAgg164 w) (Tryz.sizeOf164 w) rfl (hh.cells 0 rfl rfl)) (p_mv rfl rfl rfl (p_one rfl (g_val rfl rfl rfl (fun w hh => v_ldE RI 0 h8 (Tryz.isAgg3 w) rfl (hh.bsegA 1 rfl) rfl (Nat.add_zero _).symm) (p_next (hsE [0] [] 0 rfl rfl rfl rfl) ?_))))))
   obtain ⟨t28, h9, hm⟩ := bindO hm
   refine p_free rfl rfl rfl rfl (fun _ _ => v_addc h9 rfl rfl) ?_
   obtain ⟨t31, h10, hm⟩ := bindO hm
   refine p_free rfl rfl rfl rfl (fun w _ => v_ixB h10 hl_a550 (Tryz.runUnderlying118 w) (Tryz.sizeOf3 w) rfl rfl) (p_one rfl ?_)
   obtain ⟨a55, ha55, hm⟩ := bindO hm
   refine g_stE RI 1 0 t28 (S' := [_, _, _, _]) (fun w => Tryz.sizeOf3 w) rfl rfl rfl rfl hl_a550 (Nat.add_zero _).symm rfl h10 rfl rfl (Option.some.inj ha55) rfl (fun h11 => ?_)
   refine p_next (hsE [0] [] 0 rfl rfl rfl rfl) ?_
   obtain ⟨t32, h12, hm⟩ := bindO hm
   refine p_free rfl rfl rfl rfl (fun w _ => v_ixB h12 hl_a660 (Tryz.runUnderlying171 w) (Tryz.sizeOf164 w) rfl rfl) (p_one rfl ?_)
   obtain ⟨a66, ha66, hm⟩ := bindO hm
   refine g_stEA (us := #[_, _]) RCh 2 c0 (S' := [_, _, _, _]) (fun w => Tryz.sizeOf164 w) rfl rfl rfl hl_a660 rfl rfl h12 rfl (Option.some.inj ha66) rfl (fun h13 => ?_)
   refine p_next (hsE [0] [] 0 rfl rfl rfl rfl) (p_one rfl (g_stS (cs' := #[_]) (S' := [_, _, _, _]) 3 (fun w => Tryz.sizeOf3 w) rfl rfl rfl rfl rfl rfl rfl (p_next (hsE [0] [] 0 rfl rfl rfl rfl) (p_done ?_))))
   obtain rfl := sj hm
   refine g_doneN rfl (fun w hh => .nil) (fun w hh => ⟨(), rfl, ⟨h11, h13⟩, hh.se [1, 2, 3] [] 0 rfl rfl rfl rfl⟩)
  ·replace hm := ifE h7 hm
   refine g_skip ?_
   obtain rfl := sj hm
   refine g_doneN rfl (fun w hh => .nil) (fun w hh => ⟨(), rfl, ⟨hl_a550, hl_a660⟩, hh.se [1, 2, 3] [] 0 rfl rfl rfl rfl⟩)
structure m_strip_net_changes_4_R where
  f1_c0_0 : (List Int)
  f1_c1_0 : (List Change)
  f1_c2 : Int
structure m_strip_net_changes_4_C0 where
  f1_c0_0 : (List Int)
  f1_c1_0 : (List Change)
  f1_c2 : Int
structure m_strip_net_changes_4_S0 where
  t17 : Int
  f1_c0_0 : (List Int)
  f1_c1_0 : (List Change)
  f1_c2 : Int
structure m_strip_net_changes_4_C1 where
  f1_c0_0 : (List Int)
  f1_c1_0 : (List Change)
  f1_c2 : Int
structure m_strip_net_changes_4_S1 where
  t22 : Int
  f1_c0_0 : (List Int)
  f1_c1_0 : (List Change)
  f1_c2 : Int
structure m_strip_net_changes_4_C2 where
  f1_c0_0 : (List Int)
  f1_c1_0 : (List Change)
  f1_c2 : Int
def m_strip_net_changes_4_L1 (n00 : (List Wy)) (s : m_strip_net_changes_4_S0) (s_1 : m_strip_net_changes_4_S1) : Option (m_strip_net_changes_4_S1 ⊕ m_strip_net_changes_4_C1) :=
 if s_1.t22 < ([true, false].length : Int) then
 (((ix [true, false] s_1.t22).bind fun t24 =>
 (m_strip_net_ends n00 (⟨s.t17, t24⟩ : Change)).bind fun t32 =>
 if 0 < t32.r3 then
 ((m_strip_net_cheaper_1_3 (⟨s.t17, t24⟩ : Change) t32.r0 t32.r1 t32.r2 t32.r3 s_1.f1_c0_0 s_1.f1_c1_0 s_1.f1_c2).bind fun t45 =>
 some (⟨t45.a55_0, t45.a66_0, t45.a77⟩ : m_strip_net_changes_4_C2)) else
 (some (⟨s_1.f1_c0_0, s_1.f1_c1_0, s_1.f1_c2⟩ : m_strip_net_changes_4_C2))).bind fun o_2 =>
 (addc s_1.t22 1).bind fun t46 =>
 some (.inl (⟨t46, o_2.f1_c0_0, o_2.f1_c1_0, o_2.f1_c2⟩ : m_strip_net_changes_4_S1))) else
 (some (.inr (⟨s_1.f1_c0_0, s_1.f1_c1_0, s_1.f1_c2⟩ : m_strip_net_changes_4_C1)))
def m_strip_net_changes_4_L0 (n00 : (List Wy)) (s : m_strip_net_changes_4_S0) : Option (m_strip_net_changes_4_S0 ⊕ m_strip_net_changes_4_C0) :=
 if s.t17 < (n00.length : Int) then
 ((iterM FU (m_strip_net_changes_4_L1 n00 s) (⟨0, s.f1_c0_0, s.f1_c1_0, s.f1_c2⟩ : m_strip_net_changes_4_S1)).bind fun o_1 =>
 (addc s.t17 1).bind fun t47 =>
 some (.inl (⟨t47, o_1.f1_c0_0, o_1.f1_c1_0, o_1.f1_c2⟩ : m_strip_net_changes_4_S0))) else
 (some (.inr (⟨s.f1_c0_0, s.f1_c1_0, s.f1_c2⟩ : m_strip_net_changes_4_C0)))
def m_strip_net_changes_4 (n00 : (List Wy)) (f1_c00 : (List Int)) (f1_c10 : (List Change)) (f1_c2 : Int) : Option m_strip_net_changes_4_R :=
 (iterM FU (m_strip_net_changes_4_L0 n00) (⟨0, f1_c00, f1_c10, f1_c2⟩ : m_strip_net_changes_4_S0)).bind fun o =>
 some (⟨o.f1_c0_0, o.f1_c1_0, o.f1_c2⟩ : m_strip_net_changes_4_R)
theorem c_strip_net_changes_4 (n00 : (List Wy)) (f1_c00 : (List Int)) (f1_c10 : (List Change)) (f1_c2 : Int) (rb : Nat) (qa1 : Option Addr) (na1 ca1 : Nat) (pb : Nat) (pb_1 : Nat) (pb_2 : Nat) (w : World) (hw : HV w (keys [(pb, .cells (RI.enc f1_c00).toArray 118 (0, 0)), (pb_1, .cells (RCh.enc f1_c10).toArray 171 (0, 0)), (pb_2, .cells #[.int .i64 f1_c2] 3 (0, 0))] []) [(pb, .cells (RI.enc f1_c00).toArray 118 (0, 0)), (pb_1, .cells (RCh.enc f1_c10).toArray 171 (0, 0)), (pb_2, .cells #[.int .i64 f1_c2] 3 (0, 0))] [] [(rb, 0, [.slice qa1 na1 ca1]), (aB qa1, aO qa1, RWay.enc n00)] w)  (hna1 : n00.length = na1) (hqa1 : AOK na1 qa1) (hla1 : na1 ≤ ca1) (hl_f1_c00 : f1_c00.length = 12) (hl_f1_c10 : f1_c10.length = 12) {res : m_strip_net_changes_4_R} (hm : m_strip_net_changes_4 n00 f1_c00 f1_c10 f1_c2 = some res) :
    Calls Tryz.prog 108 #[ptr rb 0, .func (.func 131) #[] #[ptr pb 0, ptr pb_1 0, ptr pb_2 0]] w (fun en w' => ∃ l : Unit, en = .returned (.tuple #[]) ∧ (res.f1_c0_0.length = 12 ∧ res.f1_c1_0.length = 12) ∧ HV w (keys [(pb, .cells (RI.enc f1_c00).toArray 118 (0, 0)), (pb_1, .cells (RCh.enc f1_c10).toArray 171 (0, 0)), (pb_2, .cells #[.int .i64 f1_c2] 3 (0, 0))] []) [(pb, .cells (RI.enc res.f1_c0_0).toArray 118 (0, 0)), (pb_1, .cells (RCh.enc res.f1_c1_0).toArray 171 (0, 0)), (pb_2, .cells #[.int .i64 res.f1_c2] 3 (0, 0))] [] [] w') := by
  unfold m_strip_net_changes_4 at hm
  refine g_en Tryz.func108 rfl Tryz.ntmps108 rfl (e := [(0, _), (1, _)]) rfl hw (g_sr (g_mv rfl rfl (g_val rfl rfl rfl (fun _ _ => v_nilCheck rfl) (g_fa 0 Tryz.runUnderlying154 rfl Tryz.sizeOf152 rfl rfl (g_val rfl rfl rfl (fun w hh => v_load (Tryz.isAgg152 w) rfl (segCell (hh.seg 0 rfl) 0 rfl)) (g_val rfl rfl rfl (fun w _ => v_lenR hna1 (Tryz.runUnderlying152 w) rfl) (g_mv rfl rfl ?_)))))))
  refine g_nt ?_
  obtain ⟨o, h3, h4⟩ := bindO hm
  refine g_cut (ι := Unit) (fun l => o.f1_c0_0.length = 12 ∧ o.f1_c1_0.length = 12) (fun l => []) (fun l => [(pb, .cells (RI.enc o.f1_c0_0).toArray 118 (0, 0)), (pb_1, .cells (RCh.enc o.f1_c1_0).toArray 171 (0, 0)), (pb_2, .cells #[.int .i64 o.f1_c2] 3 (0, 0))]) (fun l => []) ?_ ?_
  ·replace hm := h3
   refine g_block ?_
   refine g_loopF (ι := Unit) hm (fun s l_1 => s.f1_c0_0.length = 12 ∧ s.f1_c1_0.length = 12) (fun s l_1 => [(0, ptr rb 0), (1, .func (.func 131) #[] #[ptr pb 0, ptr pb_1 0, ptr pb_2 0]), (16, .int .i64 (n00.length : Int)), (17, .int .i64 s.t17)]) (fun s l_1 => [(pb, .cells (RI.enc s.f1_c0_0).toArray 118 (0, 0)), (pb_1, .cells (RCh.enc s.f1_c1_0).toArray 171 (0, 0)), (pb_2, .cells #[.int .i64 s.f1_c2] 3 (0, 0))]) (fun s l_1 => []) () (⟨hl_f1_c00, hl_f1_c10⟩) (sE rfl) (fun w hh => hh) (fun s l_1 r hpl hm h9 => ?_)
   obtain ⟨h7, h8⟩ := hpl
   unfold m_strip_net_changes_4_L0 at hm
   refine g_sr (g_ls rfl rfl rfl (g_nt (g_seq ?_)))
   refine g_cond rfl (fun h10 => ?_) (fun h10 => ?_)
   ·replace hm := ifD h10 hm
    refine g_skip (g_n_then (g_seq (g_block (g_sr (g_mv rfl rfl (g_as rfl rfl (g_nx ?_)))))))
    refine g_vlit RB [true, false] (ps := [(0, _), (1, _)]) (cells := [_, _]) (fun w => Tryz.runUnderlying93 w) (fun w => Tryz.sizeOf4 w) (fun w => Tryz.zeroValue4 w) rfl rfl rfl rfl rfl rfl rfl rfl (fun L h11 => ?_)
    refine g_val rfl rfl rfl (fun w _ => v_lenN (vlen RB h11 rfl) (Tryz.runUnderlying93 w) rfl) (g_mv rfl rfl (g_nt ?_))
    obtain ⟨o_1, h12, h13⟩ := bindO hm
    refine g_cut (ι := Unit) (fun l_2 => o_1.f1_c0_0.length = 12 ∧ o_1.f1_c1_0.length = 12) (fun l_2 => [(0, ptr rb 0), (1, .func (.func 131) #[] #[ptr pb 0, ptr pb_1 0, ptr pb_2 0]), (16, .int .i64 (n00.length : Int)), (17, .int .i64 s.t17)]) (fun l_2 => [(pb, .cells (RI.enc o_1.f1_c0_0).toArray 118 (0, 0)), (pb_1, .cells (RCh.enc o_1.f1_c1_0).toArray 171 (0, 0)), (pb_2, .cells #[.int .i64 o_1.f1_c2] 3 (0, 0))]) (fun l_2 => []) ?_ ?_
    ·replace hm := h12
     refine g_block ?_
     refine g_loopF (ι := Unit) hm (fun s_1 l_3 => s_1.f1_c0_0.length = 12 ∧ s_1.f1_c1_0.length = 12) (fun s_1 l_3 => [(0, ptr rb 0), (1, .func (.func 131) #[] #[ptr pb 0, ptr pb_1 0, ptr pb_2 0]), (4, .int .i64 s.t17), (16, .int .i64 (n00.length : Int)), (17, .int .i64 s.t17), (20, slv L.q L.n L.cap), (21, .int .i64 ([true, false].length : Int)), (22, .int .i64 s_1.t22)]) (fun s_1 l_3 => [(pb, .cells (RI.enc s_1.f1_c0_0).toArray 118 (0, 0)), (pb_1, .cells (RCh.enc s_1.f1_c1_0).toArray 171 (0, 0)), (pb_2, .cells #[.int .i64 s_1.f1_c2] 3 (0, 0))]) (fun s_1 l_3 => [⟨4, RB.enc [true, false], L.sp, L.q, []⟩]) () (⟨h7, h8⟩) (sE rfl) (fun w hh => hh) (fun s_1 l_3 r_1 hpl hm h18 => ?_)
     obtain ⟨h16, h17⟩ := hpl
     unfold m_strip_net_changes_4_L1 at hm
     refine g_sr (g_ls rfl rfl rfl (g_nt (g_seq ?_)))
     refine g_cond rfl (fun h19 => ?_) (fun h19 => ?_)
     ·replace hm := ifD h19 hm
      refine g_skip (g_n_then (g_seq ?_))
      obtain ⟨o_2, h20, h21⟩ := bindO hm
      refine g_cut (ι := Unit) (fun l_4 => o_2.f1_c0_0.length = 12 ∧ o_2.f1_c1_0.length = 12) (fun l_4 => [(0, ptr rb 0), (1, .func (.func 131) #[] #[ptr pb 0, ptr pb_1 0, ptr pb_2 0]), (4, .int .i64 s.t17), (16, .int .i64 (n00.length : Int)), (17, .int .i64 s.t17), (20, slv L.q L.n L.cap), (21, .int .i64 ([true, false].length : Int)), (22, .int .i64 s_1.t22)]) (fun l_4 => [(pb, .cells (RI.enc o_2.f1_c0_0).toArray 118 (0, 0)), (pb_1, .cells (RCh.enc o_2.f1_c1_0).toArray 171 (0, 0)), (pb_2, .cells #[.int .i64 o_2.f1_c2] 3 (0, 0))]) (fun l_4 => [⟨4, RB.enc [true, false], L.sp, L.q, []⟩]) ?_ ?_
      ·replace hm := h20
       refine g_block (g_sr ?_)
       obtain ⟨t24, h24, hm⟩ := bindO hm
       refine g_val rfl rfl rfl (fun w _ => v_ixA h24 (Tryz.runUnderlying93 w) (Tryz.sizeOf4 w) rfl rfl (vlen RB h11 rfl) (vne h11)) (g_val rfl rfl rfl (fun w hh => v_ldE RB 0 h24 (Tryz.isAgg4 w) rfl (hh.vseg 0 rfl h11) rfl (Nat.add_zero _).symm) (g_as rfl rfl (g_nx (g_mv rfl rfl (g_mv rfl rfl (g_val rfl rfl rfl (fun _ _ => v_build (vs := [(0, _), (1, _)]) (cells := [_, _]) rfl rfl) ?_))))))
       refine g_allocV (fun w => Tryz.zeroValue164 w) rfl (fun b h25 => ?_)
       refine g_stSA (us := #[_, _]) (cs' := [_, _]) (S' := [_, _, _, _]) 0 (fun w => Tryz.sizeOf164 w) rfl rfl rfl rfl rfl rfl rfl (g_nx (g_mv rfl rfl (g_la [_, _] 0 Tryz.isAgg164 Tryz.sizeOf164 rfl rfl rfl rfl ?_)))
       obtain ⟨t32, h26, hm⟩ := bindO hm
       refine g_callH [] [] rfl rfl rfl rfl rfl rfl rfl Tryz.call130 (fun w hh => c_strip_net_ends n00 (⟨s.t17, t24⟩ : Change) rb qa1 na1 ca1 w (HV.callee (S0 := []) (vs0 := []) hh (roR hh 0 rfl (roR hh 1 rfl roN))) hna1 hqa1 hla1 h26) (fun l_5 h27 => ?_)
       refine g_mv rfl rfl (g_xt rfl rfl rfl (g_xt rfl rfl rfl (g_xt rfl rfl rfl (g_xt rfl rfl rfl (g_as rfl rfl (g_as rfl rfl (g_as rfl rfl ?_)))))))
       refine g_as rfl rfl (g_nx (g_mv rfl rfl (g_val rfl rfl rfl (fun _ _ => v_gtr rfl rfl) (g_nt ?_))))
       refine g_cond rfl (fun h28 => ?_) (fun h28 => ?_)
       ·replace hm := ifD h28 hm
        refine g_region (g_mv rfl rfl (g_la [_, _] 0 Tryz.isAgg164 Tryz.sizeOf164 rfl rfl rfl rfl (g_mv rfl rfl (g_mv rfl rfl (g_mv rfl rfl (g_mv rfl rfl ?_))))))
        obtain ⟨t45, h29, hm⟩ := bindO hm
        refine g_se (S' := [_, _, _, _]) (vs' := [_]) [1, 2, 3, 0] [0] 0 rfl rfl rfl rfl ?_
        refine g_callH [_, _, _] [] rfl rfl rfl rfl rfl rfl rfl Tryz.call131 (fun w hh => c_strip_net_cheaper_1_3 (⟨s.t17, t24⟩ : Change) t32.r0 t32.r1 t32.r2 t32.r3 s_1.f1_c0_0 s_1.f1_c1_0 s_1.f1_c2 pb pb_1 pb_2 w (HV.callee (S0 := [_, _, _]) (vs0 := []) hh roN) h16 h17 h29) (fun l_6 h30 => ?_)
        obtain ⟨h31, h32⟩ := h30
        refine g_se (S' := [_, _, _, _]) (vs' := [_]) [0, 1, 2, 3] [0] 0 rfl rfl rfl rfl (g_nil (g_n_blk ?_))
        obtain rfl := sj hm
        exact g_leaf () (⟨h31, h32⟩) (sE rfl) (hsE [0, 1, 2] [0] 0 rfl rfl rfl rfl)
       ·replace hm := ifE h28 hm
        refine g_skip (g_n_blk ?_)
        obtain rfl := sj hm
        exact g_leaf () (⟨h16, h17⟩) (sE rfl) (hsE [1, 2, 3] [0] 0 rfl rfl rfl rfl)
      ·intro l_4 hj
       obtain ⟨h22, h23⟩ := hj
       replace hm := h21
       refine g_n_then (g_region ?_)
       obtain ⟨t46, h33, hm⟩ := bindO hm
       refine g_ac h33 rfl rfl rfl (g_mv rfl rfl (g_nil ?_))
       obtain rfl := sj hm
       refine g_n_then ?_
       exact g_again' _ () rfl (⟨h22, h23⟩) (sE rfl) (fun w hh => hh)
     ·replace hm := ifE h19 hm
      refine g_exit (g_x_then (g_x_then (g_x_blk ?_)))
      obtain rfl := sj hm
      have hbo := h18 _ rfl
      subst hbo
      exact g_leaf () (⟨h16, h17⟩) (sE rfl) (hsE [0, 1, 2] [] 0 rfl rfl rfl rfl)
    ·intro l_2 hj
     obtain ⟨h14, h15⟩ := hj
     replace hm := h13
     refine g_n_blk (g_n_then (g_region ?_))
     obtain ⟨t47, h34, hm⟩ := bindO hm
     refine g_ac h34 rfl rfl rfl (g_mv rfl rfl (g_nil ?_))
     obtain rfl := sj hm
     refine g_n_then ?_
     exact g_again' _ () rfl (⟨h14, h15⟩) (sE rfl) (fun w hh => hh)
   ·replace hm := ifE h10 hm
    refine g_exit (g_x_then (g_x_then (g_x_blk ?_)))
    obtain rfl := sj hm
    have hbo := h9 _ rfl
    subst hbo
    exact g_leaf () (⟨h7, h8⟩) (.nil) (fun w hh => hh)
  ·intro l hj
   obtain ⟨h5, h6⟩ := hj
   replace hm := h4
   obtain rfl := sj hm
   refine g_doneN rfl (fun w hh => .nil) (fun w hh => ⟨(), rfl, ⟨h5, h6⟩, hh.se [0, 1, 2] [] 2 rfl rfl rfl rfl⟩)
structure m_strip_net_cheaper_C0 where
  last5 : Int
  by4 : (List Change)
  far3 : (List Int)
structure m_strip_net_cheaper_S0 where
  t9 : Int
  last5 : Int
  by4 : (List Change)
  far3 : (List Int)
def m_strip_net_cheaper_L0 (n00 : (List Wy)) (s : m_strip_net_cheaper_S0) : Option (m_strip_net_cheaper_S0 ⊕ m_strip_net_cheaper_C0) :=
 if s.t9 < 13 then
 ((m_strip_net_changes_4 n00 s.far3 s.by4 (-1)).bind fun t13 =>
 (addc s.t9 1).bind fun t14 =>
 some (.inl (⟨t14, t13.f1_c2, t13.f1_c1_0, t13.f1_c0_0⟩ : m_strip_net_cheaper_S0))) else
 (some (.inr (⟨s.last5, s.by4, s.far3⟩ : m_strip_net_cheaper_C0)))
structure m_strip_net_cheaper_S1 where
  at6 : Int
  t18 : Int
def m_strip_net_cheaper_L1 (o : m_strip_net_cheaper_C0) (n00 : (List Wy)) (s_1 : m_strip_net_cheaper_S1) : Option (m_strip_net_cheaper_S1 ⊕ Int) :=
 if s_1.t18 < 12 then
 ((ix o.by4 s_1.at6).bind fun t23 =>
 (m_strip_net_ends n00 t23).bind fun t25 =>
 (addc s_1.t18 1).bind fun t30 =>
 some (.inl (⟨t25.r0, t30⟩ : m_strip_net_cheaper_S1))) else
 (some (.inr s_1.at6))
structure m_strip_net_cheaper_S2 where
  at6 : Int
  out7 : (List Change)
def m_strip_net_cheaper_L2 (o : m_strip_net_cheaper_C0) (n00 : (List Wy)) (o_1 : Int) (s_2 : m_strip_net_cheaper_S2) : Option (m_strip_net_cheaper_S2 ⊕ (Unit ⊕ (List Change))) :=
 (ix o.by4 s_2.at6).bind fun t34 =>
 (appc 16 s_2.out7 [t34]).bind fun t37 =>
 (ix o.by4 s_2.at6).bind fun t41 =>
 (m_strip_net_ends n00 t41).bind fun t43 =>
 if t43.r0 = o_1 then
 (some (.inr (.inr t37))) else
 (some (.inl (⟨t43.r0, t37⟩ : m_strip_net_cheaper_S2)))
def m_strip_net_cheaper (n00 : (List Wy)) : Option (List Change) :=
 (iterM FU (m_strip_net_cheaper_L0 n00) (⟨0, -1, (List.replicate 12 (⟨0, false⟩ : Change) : (List Change)), (List.replicate 12 0 : (List Int))⟩ : m_strip_net_cheaper_S0)).bind fun o =>
 if o.last5 < 0 then
 (some []) else
 ((iterM FU (m_strip_net_cheaper_L1 o n00) (⟨o.last5, 0⟩ : m_strip_net_cheaper_S1)).bind fun o_1 =>
 (iterM FU (m_strip_net_cheaper_L2 o n00 o_1) (⟨o_1, []⟩ : m_strip_net_cheaper_S2)).bind fun o_2 =>
 oc o_2 (fun j => none) (fun r_3 => some r_3))
theorem c_strip_net_cheaper (n00 : (List Wy)) (rb : Nat) (qa1 : Option Addr) (na1 ca1 : Nat) (w : World) (hw : HV w (keys [] []) [] [] [(rb, 0, [.slice qa1 na1 ca1]), (aB qa1, aO qa1, RWay.enc n00)] w)  (hna1 : n00.length = na1) (hqa1 : AOK na1 qa1) (hla1 : na1 ≤ ca1) {res : (List Change)} (hm : m_strip_net_cheaper n00 = some res) :
    Calls Tryz.prog 107 #[ptr rb 0] w (fun en w' => ∃ l : VL, en = .returned (slv l.q l.n l.cap) ∧ (VOK 2 l.n l.cap (RCh.enc res) l.sp l.q ∧ (l.q = none ↔ res = [])) ∧ HV w (keys [] []) [] [⟨164, RCh.enc res, l.sp, l.q, []⟩] [] w') := by
  unfold m_strip_net_cheaper at hm
  refine g_en Tryz.func107 rfl Tryz.ntmps107 rfl (e := [(0, _)]) rfl hw (g_sr (g_val rfl rfl rfl (fun _ _ => v_nilS rfl) (g_nx ?_)))
  refine g_allocA RI (l := (List.replicate 12 0 : (List Int))) (k := 12) (fun w => Tryz.zeroValue118 w) rfl rfl rfl (fun b h3 h4 => ?_)
  refine g_nx ?_
  refine g_allocA RCh (l := (List.replicate 12 (⟨0, false⟩ : Change) : (List Change))) (k := 12) (fun w => Tryz.zeroValue171 w) rfl rfl rfl (fun b_1 h5 h6 => ?_)
  refine g_nx ?_
  refine g_allocV (fun w => Tryz.zeroValue3 w) rfl (fun b_2 h7 => ?_)
  refine g_stS (cs' := #[_]) (S' := [_, _, _]) 0 (fun w => Tryz.sizeOf3 w) rfl rfl rfl rfl rfl rfl rfl (g_nt (g_seq (g_sr (g_mv rfl rfl (g_nt ?_)))))
  obtain ⟨o, h8, h9⟩ := bindO hm
  refine g_cut (ι := Unit) (fun l => o.by4.length = 12 ∧ o.far3.length = 12) (fun l => [(0, ptr rb 0), (4, ptr b_1 0), (5, ptr b_2 0)]) (fun l => [(b_2, .cells #[.int .i64 o.last5] 3 (0, 0)), (b_1, .cells (RCh.enc o.by4).toArray 171 (0, 0)), (b, .cells (RI.enc o.far3).toArray 118 (0, 0))]) (fun l => []) ?_ ?_
  ·replace hm := h8
   refine g_block ?_
   refine g_loopF (ι := Unit) hm (fun s l_1 => s.by4.length = 12 ∧ s.far3.length = 12) (fun s l_1 => [(0, ptr rb 0), (3, ptr b 0), (4, ptr b_1 0), (5, ptr b_2 0), (9, .int .i64 s.t9)]) (fun s l_1 => [(b_2, .cells #[.int .i64 s.last5] 3 (0, 0)), (b_1, .cells (RCh.enc s.by4).toArray 171 (0, 0)), (b, .cells (RI.enc s.far3).toArray 118 (0, 0))]) (fun s l_1 => []) () (⟨h6, h4⟩) (sE rfl) (fun w hh => hh) (fun s l_1 r hpl hm h14 => ?_)
   obtain ⟨h12, h13⟩ := hpl
   unfold m_strip_net_cheaper_L0 at hm
   refine g_sr (g_ls rfl rfl rfl (g_nt (g_seq ?_)))
   refine g_cond rfl (fun h15 => ?_) (fun h15 => ?_)
   ·replace hm := ifD h15 hm
    refine g_skip (g_n_then (g_seq (g_block (g_sr (g_stS (cs' := #[_]) (S' := [_, _, _]) 0 (fun w => Tryz.sizeOf3 w) rfl rfl rfl rfl rfl rfl rfl (g_nt (g_region ?_)))))))
    refine g_mv rfl rfl (g_val rfl rfl rfl (fun _ _ => v_makeFunc (u := #[]) (u' := #[_, _, _]) rfl rfl) ?_)
    obtain ⟨t13, h16, hm⟩ := bindO hm
    refine g_se (S' := [_, _, _]) (vs' := []) [2, 1, 0] [] 0 rfl rfl rfl rfl ?_
    refine g_callH [_, _, _] [] rfl rfl rfl rfl rfl rfl rfl Tryz.call108 (fun w hh => c_strip_net_changes_4 n00 s.far3 s.by4 (-1) rb qa1 na1 ca1 b b_1 b_2 w (HV.callee (S0 := [_, _, _]) (vs0 := []) hh (roR hh 0 rfl (roR hh 1 rfl roN))) hna1 hqa1 hla1 h13 h12 h16) (fun l_2 h17 => ?_)
    obtain ⟨h18, h19⟩ := h17
    refine g_se (S' := [_, _, _]) (vs' := []) [0, 1, 2] [] 0 rfl rfl rfl rfl (g_nil (g_n_blk (g_n_then (g_region ?_))))
    obtain ⟨t14, h20, hm⟩ := bindO hm
    refine g_ac h20 rfl rfl rfl (g_mv rfl rfl (g_nil ?_))
    obtain rfl := sj hm
    refine g_n_then ?_
    exact g_again' _ () rfl (⟨h19, h18⟩) (sE rfl) (hsE [2, 1, 0] [] 0 rfl rfl rfl rfl)
   ·replace hm := ifE h15 hm
    refine g_exit (g_x_then (g_x_then (g_x_blk ?_)))
    obtain rfl := sj hm
    have hbo := h14 _ rfl
    subst hbo
    exact g_leaf () (⟨h12, h13⟩) (sE rfl) (fun w hh => hh)
  ·intro l hj
   obtain ⟨h10, h11⟩ := hj
   replace hm := h9
   refine g_n_then (g_seq (g_sr (g_lc 0 Tryz.isAgg3 rfl rfl rfl rfl (g_ls rfl rfl rfl (g_nt ?_)))))
   refine g_cond rfl (fun h21 => ?_) (fun h21 => ?_)
   ·replace hm := ifD h21 hm
    refine g_sr (g_val rfl rfl rfl (fun _ _ => v_nilS rfl) (g_nt (g_ret (g_r_then (g_vnil 164 ?_)))))
    obtain rfl := sj hm
    refine g_done rfl (fun w hh => (.tmp rfl .nil)) (fun w hh => ⟨⟨none, 0, 0, []⟩, rfl, ⟨VOK.nil, nieN⟩, hh.se [] [0] 2 rfl rfl rfl rfl⟩)
   ·replace hm := ifE h21 hm
    refine g_skip (g_n_then (g_sr (g_lc 0 Tryz.isAgg3 rfl rfl rfl rfl (g_as rfl rfl (g_nt (g_seq (g_sr ?_)))))))
    refine g_mv rfl rfl (g_nt ?_)
    obtain ⟨o_1, h22, h23⟩ := bindO hm
    refine g_cut (ι := Unit) (fun l_3 => True) (fun l_3 => [(0, ptr rb 0), (4, ptr b_1 0), (6, .int .i64 o_1)]) (fun l_3 => [(b_2, .cells #[.int .i64 o.last5] 3 (0, 0)), (b_1, .cells (RCh.enc o.by4).toArray 171 (0, 0)), (b, .cells (RI.enc o.far3).toArray 118 (0, 0))]) (fun l_3 => []) ?_ ?_
    ·replace hm := h22
     refine g_block ?_
     refine g_loopF (ι := Unit) hm (fun s_1 l_4 => True) (fun s_1 l_4 => [(0, ptr rb 0), (4, ptr b_1 0), (6, .int .i64 s_1.at6), (18, .int .i64 s_1.t18)]) (fun s_1 l_4 => [(b_2, .cells #[.int .i64 o.last5] 3 (0, 0)), (b_1, .cells (RCh.enc o.by4).toArray 171 (0, 0)), (b, .cells (RI.enc o.far3).toArray 118 (0, 0))]) (fun s_1 l_4 => []) () (trivial) (sE rfl) (fun w hh => hh) (fun s_1 l_4 r_1 hpl hm h24 => ?_)
     unfold m_strip_net_cheaper_L1 at hm
     refine g_sr (g_ls rfl rfl rfl (g_nt (g_seq ?_)))
     refine g_cond rfl (fun h25 => ?_) (fun h25 => ?_)
     ·replace hm := ifD h25 hm
      refine g_skip (g_n_then (g_seq (g_block (g_region (g_mv rfl rfl (g_mv rfl rfl ?_))))))
      obtain ⟨t23, h26, hm⟩ := bindO hm
      refine g_val rfl rfl rfl (fun w _ => v_ixB h26 h10 (Tryz.runUnderlying171 w) (Tryz.sizeOf164 w) rfl rfl) ?_
      refine g_val rfl rfl rfl (fun w hh => v_ldEA RCh 0 [.int .i64 t23.way, .bool t23.more] h26 (Tryz.isAgg164 w) (Tryz.sizeOf164 w) rfl (hh.bsegA 1 rfl) rfl (Nat.add_zero _).symm) ?_
      obtain ⟨t25, h27, hm⟩ := bindO hm
      refine g_callH [] [] rfl rfl rfl rfl rfl rfl rfl Tryz.call130 (fun w hh => c_strip_net_ends n00 t23 rb qa1 na1 ca1 w (HV.callee (S0 := []) (vs0 := []) hh (roR hh 0 rfl (roR hh 1 rfl roN))) hna1 hqa1 hla1 h27) (fun l_5 h28 => ?_)
      refine g_mv rfl rfl (g_xt rfl rfl rfl (g_xt rfl rfl rfl (g_xt rfl rfl rfl (g_xt rfl rfl rfl (g_as rfl rfl (g_nil (g_n_blk ?_)))))))
      refine g_n_then (g_region ?_)
      obtain ⟨t30, h29, hm⟩ := bindO hm
      refine g_ac h29 rfl rfl rfl (g_mv rfl rfl (g_nil ?_))
      obtain rfl := sj hm
      refine g_n_then ?_
      exact g_again' _ () rfl (trivial) (sE rfl) (fun w hh => hh)
     ·replace hm := ifE h25 hm
      refine g_exit (g_x_then (g_x_then (g_x_blk ?_)))
      obtain rfl := sj hm
      have hbo := h24 _ rfl
      subst hbo
      exact g_leaf () (trivial) (sE rfl) (fun w hh => hh)
    ·intro l_3 hj
     replace hm := h23
     refine g_n_then (g_sr (g_val rfl rfl rfl (fun _ _ => v_nilS rfl) (g_nx (g_mv rfl rfl (g_as rfl rfl (g_nt (g_vnil 164 ?_)))))))
     obtain ⟨o_2, h30, h31⟩ := bindO hm
     refine g_cut (ι := Unit) (fun j => False) (fun j => []) (fun j => [(b_2, .cells #[.int .i64 o.last5] 3 (0, 0)), (b_1, .cells (RCh.enc o.by4).toArray 171 (0, 0)), (b, .cells (RI.enc o.far3).toArray 118 (0, 0))]) (fun j => []) ?_ ?_
     ·replace hm := h30
      refine g_block ?_
      refine g_loopF (ι := VL) hm (fun s_2 l_6 => VOK 2 l_6.n l_6.cap (RCh.enc s_2.out7) l_6.sp l_6.q ∧ (l_6.q = none ↔ s_2.out7 = [])) (fun s_2 l_6 => [(0, ptr rb 0), (4, ptr b_1 0), (6, .int .i64 s_2.at6), (7, slv l_6.q l_6.n l_6.cap), (8, .int .i64 o_1)]) (fun s_2 l_6 => [(b_2, .cells #[.int .i64 o.last5] 3 (0, 0)), (b_1, .cells (RCh.enc o.by4).toArray 171 (0, 0)), (b, .cells (RI.enc o.far3).toArray 118 (0, 0))]) (fun s_2 l_6 => [⟨164, RCh.enc s_2.out7, l_6.sp, l_6.q, []⟩]) ⟨none, 0, 0, []⟩ (⟨VOK.nil, nieN⟩) (sE rfl) (fun w hh => hh) (fun s_2 l_6 r_2 hpl hm h34 => ?_)
      obtain ⟨h32, h33⟩ := hpl
      unfold m_strip_net_cheaper_L2 at hm
      refine g_block (g_sr (g_mv rfl rfl (g_mv rfl rfl ?_)))
      obtain ⟨t34, h35, hm⟩ := bindO hm
      refine g_val rfl rfl rfl (fun w _ => v_ixB h35 h10 (Tryz.runUnderlying171 w) (Tryz.sizeOf164 w) rfl rfl) ?_
      refine g_val rfl rfl rfl (fun w hh => v_ldEA RCh 0 [.int .i64 t34.way, .bool t34.more] h35 (Tryz.isAgg164 w) (Tryz.sizeOf164 w) rfl (hh.bsegA 1 rfl) rfl (Nat.add_zero _).symm) ?_
      refine g_vlit RCh [t34] (ps := [(0, _)]) (cells := [_, _]) (fun w => Tryz.runUnderlying157 w) (fun w => Tryz.sizeOf164 w) (fun w => Tryz.zeroValue164 w) rfl rfl rfl rfl rfl rfl rfl rfl (fun L h36 => ?_)
      obtain ⟨t37, h37, hm⟩ := bindO hm
      refine g_vapp RCh 1 h37 Tryz.underlying157 gxinf164 rfl rfl rfl rfl rfl h32 rfl rfl (vlen RCh h36 rfl) (AOK.q (vne h36)) (fun w hh => (hh.vsegA 0 rfl h36)) rfl (fun L_1 h38 h38n => ?_)
      refine g_se (S' := [_, _, _]) (vs' := [_, _]) [0, 1, 2] [0, 1] 0 rfl rfl rfl rfl (g_as rfl rfl (g_nx (g_mv rfl rfl (g_mv rfl rfl ?_))))
      obtain ⟨t41, h39, hm⟩ := bindO hm
      refine g_val rfl rfl rfl (fun w _ => v_ixB h39 h10 (Tryz.runUnderlying171 w) (Tryz.sizeOf164 w) rfl rfl) ?_
      refine g_val rfl rfl rfl (fun w hh => v_ldEA RCh 0 [.int .i64 t41.way, .bool t41.more] h39 (Tryz.isAgg164 w) (Tryz.sizeOf164 w) rfl (hh.bsegA 1 rfl) rfl (Nat.add_zero _).symm) ?_
      obtain ⟨t43, h40, hm⟩ := bindO hm
      refine g_callH [] [] rfl rfl rfl rfl rfl rfl rfl Tryz.call130 (fun w hh => c_strip_net_ends n00 t41 rb qa1 na1 ca1 w (HV.callee (S0 := []) (vs0 := []) hh (roR hh 0 rfl (roR hh 1 rfl roN))) hna1 hqa1 hla1 h40) (fun l_7 h41 => ?_)
      refine g_mv rfl rfl (g_xt rfl rfl rfl (g_xt rfl rfl rfl (g_xt rfl rfl rfl (g_xt rfl rfl rfl (g_as rfl rfl (g_nx (g_mv rfl rfl ?_)))))))
      refine g_mv rfl rfl (g_val rfl rfl rfl (fun _ _ => v_eql rfl rfl) (g_nt ?_))
      refine g_cond rfl (fun h42 => ?_) (fun h42 => ?_)
      ·replace hm := ifD h42 hm
       refine g_sr (g_mv rfl rfl (g_as rfl rfl (g_nt (g_ret (g_r_blk (g_r_then (g_r_blk ?_)))))))
       obtain rfl := sj hm
       have hbo := h34 _ rfl
       subst hbo
       refine g_r_then ?_
       replace hm := ocR h31
       obtain rfl := sj hm
       refine g_done rfl (fun w hh => (.tmp rfl .nil)) (fun w hh => ⟨L_1, rfl, ⟨h38, (h38n h33)⟩, hh.se [] [1] 2 rfl rfl rfl rfl⟩)
      ·replace hm := ifE h42 hm
       refine g_skip (g_n_blk ?_)
       obtain rfl := sj hm
       refine g_n_then ?_
       exact g_again' _ L_1 rfl (⟨h38, (h38n h33)⟩) (sE rfl) (hsE [0, 1, 2] [1] 0 rfl rfl rfl rfl)
     ·exact fun _ hf => hf.elim
structure m_strip_desk_filled_1_Rb where
  r1 : Lack
  t12 : (List Wy)
structure m_strip_desk_filled_1_S0 where
  t20 : Int
  t12 : (List Wy)
def m_strip_desk_filled_1_L1 (s : m_strip_desk_filled_1_S0) (d00 : (List Strip)) (d01 : (List Span)) (s_1 : (List Wy)) : Option ((List Wy) ⊕ ((List Wy) ⊕ (Lack ⊕ m_strip_desk_filled_1_Rb))) :=
 (ix s_1 s.t20).bind fun t28 =>
 (ix s_1 s.t20).bind fun t36 =>
 if t28.goes < t36.lo then
 ((ix s_1 s.t20).bind fun t45 =>
 (m_strip_net_path s_1 t45.dst t45.fr).bind fun t53 =>
 if (t53.r0.isEmpty) = true then
 ((m_strip_desk_lack d00 d01 t45 t53.r1).bind fun t61 =>
 some (.inr (.inr (.inl t61)))) else
 ((subc t45.lo t45.goes).bind fun t72 =>
 (appc 16 t53.r0 [(⟨s.t20, true⟩ : Change)]).bind fun t67 =>
 (m_strip_net_make_1 s_1 t67 t72).bind fun t73 =>
 some (.inl t73))) else
 (some (.inr (.inl s_1)))
def m_strip_desk_filled_1_L0 (t14 : (List Wy)) (d00 : (List Strip)) (d01 : (List Span)) (s : m_strip_desk_filled_1_S0) : Option (m_strip_desk_filled_1_S0 ⊕ ((List Wy) ⊕ (Lack ⊕ m_strip_desk_filled_1_Rb))) :=
 if s.t20 < (t14.length : Int) then
 ((iterM FU (m_strip_desk_filled_1_L1 s d00 d01) s.t12).bind fun o_1 =>
 oc o_1 (fun j_1 => (addc s.t20 1).bind fun t74 =>
 some (.inl (⟨t74, j_1⟩ : m_strip_desk_filled_1_S0))) (fun r_2 => some (.inr (.inr r_2)))) else
 (some (.inr (.inl s.t12)))
def m_strip_desk_filled_1_L2  (s_2 : (List Wy)) : Option ((List Wy) ⊕ (List Wy)) :=
 (m_strip_net_cheaper s_2).bind fun t76 =>
 if (t76.isEmpty) = true then
 (some (.inr s_2)) else
 ((m_strip_net_make_1 s_2 t76 1000000).bind fun t81 =>
 some (.inl t81))
def m_strip_desk_filled_1 (d00 : (List Strip)) (d01 : (List Span)) (d02 : (List (Pair × Bool))) (c1_0 : (Pair → Option Int)) : Option (Lack ⊕ m_strip_desk_filled_1_Rb) :=
 (m_strip_desk_laid_1 d00 d01 d02 c1_0).bind fun t14 =>
 (iterM FU (m_strip_desk_filled_1_L0 t14 d00 d01) (⟨0, t14⟩ : m_strip_desk_filled_1_S0)).bind fun o =>
 oc o (fun j => (iterM FU (m_strip_desk_filled_1_L2) j).bind fun o_2 =>
 some (.inr (⟨(⟨false, []⟩ : Lack), o_2⟩ : m_strip_desk_filled_1_Rb))) (fun r_4 => some r_4)
theorem c_strip_desk_filled_1 (d00 : (List Strip)) (d01 : (List Span)) (d02 : (List (Pair × Bool))) (c1_0 : (Pair → Option Int)) (rb : Nat) (qa1 : Option Addr) (na1 ca1 : Nat) (qa2 : Option Addr) (na2 ca2 : Nat) (pb : Nat) (f_c1_0 : FuncId) (fs_c1_0 cs_c1_0 : Array Value) (T_c1_0 : List Sg) (w : World) (hw : HV w (keys [(pb, gobj (kR RPr) kB d02)] []) [(pb, gobj (kR RPr) kB d02)] [] ([(rb, 0, [.slice qa1 na1 ca1, .slice qa2 na2 ca2, .map (some pb)]), (aB qa1, aO qa1, RSt.enc d00), (aB qa2, aO qa2, RSp.enc d01)] ++ T_c1_0) w)  (hna1 : d00.length = na1) (hqa1 : AOK na1 qa1) (hla1 : na1 ≤ ca1) (hna2 : d01.length = na2) (hqa2 : AOK na2 qa2) (hla2 : na2 ≤ ca2) (hcl_c1_0 : ClOK Tryz.prog f_c1_0 fs_c1_0 cs_c1_0 T_c1_0 (fun x : Pair => [.agg #[.int .i64 x.tenant, .int .i64 x.strip]]) (fun x : Int => .int .i64 x) c1_0) {res : (Lack ⊕ m_strip_desk_filled_1_Rb)} (hm : m_strip_desk_filled_1 d00 d01 d02 c1_0 = some res) :
    Calls Tryz.prog 58 #[ptr rb 0, .agg #[.func (.func f_c1_0) fs_c1_0 cs_c1_0]] w (fun en w' => match res with | .inl res_ => (∃ l : VL, en = .returned (.tuple #[.pointer none, .agg #[.bool res_.tenants, slv l.q l.n l.cap]]) ∧ (VOK 1 l.n l.cap (RI.enc res_.of_) l.sp l.q) ∧ HV w (keys [(pb, gobj (kR RPr) kB d02)] []) [(pb, gobj (kR RPr) kB d02)] [⟨3, RI.enc res_.of_, l.sp, l.q, []⟩] [] w') | .inr res_ => (∃ l : Nat × VL × VL, en = .returned (.tuple #[ptr l.1 0, .agg #[.bool res_.r1.tenants, slv l.2.1.q l.2.1.n l.2.1.cap]]) ∧ (VOK 1 l.2.1.n l.2.1.cap (RI.enc res_.r1.of_) l.2.1.sp l.2.1.q ∧ VOK 6 l.2.2.n l.2.2.cap (RWay.enc res_.t12) l.2.2.sp l.2.2.q) ∧ HV w (keys [(pb, gobj (kR RPr) kB d02)] []) [(pb, gobj (kR RPr) kB d02), (l.1, .cells #[slv l.2.2.q l.2.2.n l.2.2.cap] 154 (0, 0))] [⟨3, RI.enc res_.r1.of_, l.2.1.sp, l.2.1.q, []⟩, ⟨156, RWay.enc res_.t12, l.2.2.sp, l.2.2.q, []⟩] [] w')) := by
  unfold m_strip_desk_filled_1 at hm
  refine g_en Tryz.func58 rfl Tryz.ntmps58 rfl (e := [(0, _), (1, _)]) rfl hw (g_sr ?_)
  refine g_boxV rfl rfl (fun b h4 => ?_)
  refine g_as rfl rfl ?_
  refine g_allocV (fun w => Tryz.zeroValue30 w) rfl (fun b_1 h5 => ?_)
  refine g_nt (g_scope (g_sr (g_mv rfl rfl (g_la [_] 1 Tryz.isAgg115 Tryz.sizeOf115 rfl rfl rfl rfl ?_))))
  obtain ⟨t14, h6, hm⟩ := bindO hm
  refine g_se (S' := [_, _, _]) (vs' := []) [2, 0, 1] [] 0 rfl rfl rfl rfl ?_
  refine g_callH [_] [] rfl rfl rfl rfl rfl rfl rfl Tryz.call103 (fun w hh => c_strip_desk_laid_1 d00 d01 d02 c1_0 rb qa1 na1 ca1 qa2 na2 ca2 pb f_c1_0 fs_c1_0 cs_c1_0 T_c1_0 w (HV.callee (S0 := [_]) (vs0 := []) hh (roA (roR hh 0 rfl (roR hh 1 rfl (roR hh 2 rfl roN))) (hh.rsepT (fun t ht => (List.mem_cons_of_mem _ (List.mem_cons_of_mem _ (List.mem_cons_of_mem _ ht))))))) hna1 hqa1 hla1 hna2 hqa2 hla2 hcl_c1_0 h6) (fun l h7 => ?_)
  have h8 := h7
  refine g_se (S' := [_, _, _, _]) (vs' := [_]) [0, 1, 2, 3] [0] 0 rfl rfl rfl rfl (g_as rfl rfl (g_nt (g_seq (g_sr (g_mv rfl rfl (g_val rfl rfl rfl (fun _ _ => v_nilCheck rfl) (g_fa 0 Tryz.runUnderlying154 rfl Tryz.sizeOf152 rfl rfl ?_)))))))
  refine g_lc 1 Tryz.isAgg152 rfl rfl rfl rfl (g_val rfl rfl rfl (fun w _ => v_lenN (vlen RWay h8 rfl) (Tryz.runUnderlying152 w) rfl) (g_mv rfl rfl (g_nt ?_)))
  obtain ⟨o, h9, h10⟩ := bindO hm
  refine g_cut (ι := (List Wy)) (fun j => o = .inl j ∧ VOK 6 l.2.n l.2.cap (RWay.enc j) l.2.sp l.2.q) (fun j => [(5, ptr b_1 0), (6, ptr l.1 0)]) (fun j => [(pb, gobj (kR RPr) kB d02), (l.1, .cells #[slv l.2.q l.2.n l.2.cap] 154 (0, 0)), (b_1, .cells #[.bool false, slv none 0 0] 30 (0, 0)), (b, .cells #[.func (.func f_c1_0) fs_c1_0 cs_c1_0] 115 (0, 0))]) (fun j => [⟨156, RWay.enc j, l.2.sp, l.2.q, []⟩]) ?_ ?_
  ·replace hm := h9
   refine g_block ?_
   refine g_loopF (ι := Unit) hm (fun s l_1 => VOK 6 l.2.n l.2.cap (RWay.enc s.t12) l.2.sp l.2.q) (fun s l_1 => [(0, ptr rb 0), (5, ptr b_1 0), (6, ptr l.1 0), (19, .int .i64 (t14.length : Int)), (20, .int .i64 s.t20)]) (fun s l_1 => [(pb, gobj (kR RPr) kB d02), (l.1, .cells #[slv l.2.q l.2.n l.2.cap] 154 (0, 0)), (b_1, .cells #[.bool false, slv none 0 0] 30 (0, 0)), (b, .cells #[.func (.func f_c1_0) fs_c1_0 cs_c1_0] 115 (0, 0))]) (fun s l_1 => [⟨156, RWay.enc s.t12, l.2.sp, l.2.q, []⟩]) () (h8) (sE rfl) (fun w hh => hh) (fun s l_1 r hpl hm h13 => ?_)
   have h12 := hpl
   unfold m_strip_desk_filled_1_L0 at hm
   refine g_sr (g_ls rfl rfl rfl (g_nt (g_seq ?_)))
   refine g_cond rfl (fun h14 => ?_) (fun h14 => ?_)
   ·replace hm := ifD h14 hm
    refine g_skip (g_n_then (g_seq (g_block (g_sr (g_mv rfl rfl (g_as rfl rfl (g_nt ?_)))))))
    obtain ⟨o_1, h15, h16⟩ := bindO hm
    refine g_cut (ι := (List Wy)) (fun j_1 => o_1 = .inl j_1 ∧ VOK 6 l.2.n l.2.cap (RWay.enc j_1) l.2.sp l.2.q) (fun j_1 => [(0, ptr rb 0), (5, ptr b_1 0), (6, ptr l.1 0), (19, .int .i64 (t14.length : Int)), (20, .int .i64 s.t20)]) (fun j_1 => [(pb, gobj (kR RPr) kB d02), (l.1, .cells #[slv l.2.q l.2.n l.2.cap] 154 (0, 0)), (b_1, .cells #[.bool false, slv none 0 0] 30 (0, 0)), (b, .cells #[.func (.func f_c1_0) fs_c1_0 cs_c1_0] 115 (0, 0))]) (fun j_1 => [⟨156, RWay.enc j_1, l.2.sp, l.2.q, []⟩]) ?_ ?_
    ·replace hm := h15
     refine g_block ?_
     refine g_loopF (ι := Unit) hm (fun s_1 l_2 => VOK 6 l.2.n l.2.cap (RWay.enc s_1) l.2.sp l.2.q) (fun s_1 l_2 => [(0, ptr rb 0), (5, ptr b_1 0), (6, ptr l.1 0), (7, .int .i64 s.t20), (19, .int .i64 (t14.length : Int)), (20, .int .i64 s.t20)]) (fun s_1 l_2 => [(pb, gobj (kR RPr) kB d02), (l.1, .cells #[slv l.2.q l.2.n l.2.cap] 154 (0, 0)), (b_1, .cells #[.bool false, slv none 0 0] 30 (0, 0)), (b, .cells #[.func (.func f_c1_0) fs_c1_0 cs_c1_0] 115 (0, 0))]) (fun s_1 l_2 => [⟨156, RWay.enc s_1, l.2.sp, l.2.q, []⟩]) () (h12) (sE rfl) (fun w hh => hh) (fun s_1 l_2 r_1 hpl hm h19 => ?_)
     have h18 := hpl
     unfold m_strip_desk_filled_1_L1 at hm
     refine g_seq (g_seq ?_)
     refine g_draw none (.free 0 (.free 1 (.free 2 (.hoist 3 (.free 4 (.free 5 (.free 6 (.hoist 7 (.free 8 (.free 9 (.free 10 (.hoist 11 (.free 12 (.free 13 (.free 14 (.hoist 15 (.free 16 .done))))))))))))))))) _ rfl (by decide +kernel) (fun w k hh => hh.draw k) (fun w hh => hh) ?_
     refine p_mv rfl rfl rfl (p_free rfl rfl rfl rfl (fun _ _ => v_nilCheck rfl) (p_fa 0 Tryz.runUnderlying154 Tryz.sizeOf152 rfl rfl rfl rfl (p_lc 1 Tryz.isAgg152 rfl rfl rfl rfl rfl (p_mv rfl rfl rfl ?_))))
     obtain ⟨t28, h20, hm⟩ := bindO hm
     refine p_free rfl rfl rfl rfl (fun w _ => v_ixA h20 (Tryz.runUnderlying152 w) (Tryz.sizeOf156 w) rfl rfl (vlen RWay h18 rfl) (vne h18)) (p_fa 5 Tryz.runUnderlying156 Tryz.sizeOf3 rfl rfl rfl rfl (p_hoist rfl rfl rfl rfl (fun w hh => v_ldE RWay 5 h20 (Tryz.isAgg3 w) rfl (hh.vseg 0 rfl h18) rfl rfl) (p_mv rfl rfl rfl (p_free rfl rfl rfl rfl (fun _ _ => v_nilCheck rfl) (p_fa 0 Tryz.runUnderlying154 Tryz.sizeOf152 rfl rfl rfl rfl (p_lc 1 Tryz.isAgg152 rfl rfl rfl rfl rfl (p_mv rfl rfl rfl ?_)))))))
     obtain ⟨t36, h21, hm⟩ := bindO hm
     refine p_free rfl rfl rfl rfl (fun w _ => v_ixA h21 (Tryz.runUnderlying152 w) (Tryz.sizeOf156 w) rfl rfl (vlen RWay h18 rfl) (vne h18)) (p_fa 2 Tryz.runUnderlying156 Tryz.sizeOf3 rfl rfl rfl rfl (p_hoist rfl rfl rfl rfl (fun w hh => v_ldE RWay 2 h21 (Tryz.isAgg3 w) rfl (hh.vseg 0 rfl h18) rfl rfl) (p_free rfl rfl rfl rfl (fun _ _ => v_lss rfl rfl) (p_done (g_n_then ?_)))))
     refine g_cond rfl (fun h22 => ?_) (fun h22 => ?_)
     ·replace hm := ifD h22 hm
      refine g_skip (g_n_then (g_block (g_sr (g_mv rfl rfl (g_val rfl rfl rfl (fun _ _ => v_nilCheck rfl) (g_fa 0 Tryz.runUnderlying154 rfl Tryz.sizeOf152 rfl rfl (g_lc 1 Tryz.isAgg152 rfl rfl rfl rfl ?_)))))))
      refine g_mv rfl rfl ?_
      obtain ⟨t45, h23, hm⟩ := bindO hm
      refine g_val rfl rfl rfl (fun w _ => v_ixA h23 (Tryz.runUnderlying152 w) (Tryz.sizeOf156 w) rfl rfl (vlen RWay h18 rfl) (vne h18)) ?_
      refine g_val rfl rfl rfl (fun w hh => v_ldEA RWay 0 [.int .i64 t45.fr, .int .i64 t45.dst, .int .i64 t45.lo, .int .i64 t45.hi, .int .i64 t45.cost, .int .i64 t45.goes] h23 (Tryz.isAgg156 w) (Tryz.sizeOf156 w) rfl (hh.vseg 0 rfl h18) rfl (Nat.add_zero _).symm) ?_
      refine g_allocV (fun w => Tryz.zeroValue156 w) rfl (fun b_2 h24 => ?_)
      refine g_stSA (us := #[_, _, _, _, _, _]) (cs' := [_, _, _, _, _, _]) (S' := [_, _, _, _, _]) 0 (fun w => Tryz.sizeOf156 w) rfl rfl rfl rfl rfl rfl rfl (g_nx (g_mv rfl rfl (g_fa 1 Tryz.runUnderlying156 rfl Tryz.sizeOf3 rfl rfl (g_lc 0 Tryz.isAgg3 rfl rfl rfl rfl (g_fa 0 Tryz.runUnderlying156 rfl Tryz.sizeOf3 rfl rfl (g_lc 0 Tryz.isAgg3 rfl rfl rfl rfl ?_))))))
      obtain ⟨t53, h25, hm⟩ := bindO hm
      refine g_callH [] [] rfl rfl rfl rfl rfl rfl rfl Tryz.call104 (fun w hh => c_strip_net_path s_1 t45.dst t45.fr l.1 (qA l.2.q) l.2.n l.2.cap w (HV.callee (S0 := []) (vs0 := []) hh (roC (bsep (hh.bseg 2 rfl)) (roC (hh.vsepA 0 rfl h18) roN))) (vlen RWay h18 rfl) (AOK.q (vne h18)) (h18).hle h25) (fun l_3 h26 => ?_)
      obtain ⟨h27, h28, h29⟩ := h26
      refine g_se (S' := [_, _, _, _, _]) (vs' := [_, _]) [0, 1, 2, 3, 4] [0, 1] 0 rfl rfl rfl rfl (g_mv rfl rfl (g_xt rfl rfl rfl (g_xt rfl rfl rfl ?_)))
      refine g_allocA RB (l := (List.replicate 12 false : (List Bool))) (k := 12) (fun w => Tryz.zeroValue158 w) rfl rfl rfl (fun b_3 h30 h31 => ?_)
      refine g_as rfl rfl (g_stW RB (S' := [_, _, _, _, _, _]) 0 (fun w => Tryz.sizeOf158 w) rfl rfl rfl h31 h29 rfl rfl (g_nt (g_seq (g_sr (g_mv rfl rfl (g_val rfl rfl rfl (fun w _ => v_eqlNil h28 (Tryz.runUnderlying157 w) rfl rfl) (g_nt ?_)))))))
      refine g_cond rfl (fun h32 => ?_) (fun h32 => ?_)
      ·replace hm := ifT (h32) hm
       refine g_sr (g_mv rfl rfl (g_la [_, _, _, _, _, _] 1 Tryz.isAgg156 Tryz.sizeOf156 rfl rfl rfl rfl (g_val rfl rfl rfl (fun w hh => v_loadArr RB h29 (Tryz.isAgg158 w) (Tryz.sizeOf158 w) rfl rfl (hh.bsegA 0 rfl)) ?_)))
       obtain ⟨t61, h33, hm⟩ := bindO hm
       refine g_callH [] [] rfl rfl rfl rfl rfl rfl rfl Tryz.call105 (fun w hh => c_strip_desk_lack d00 d01 t45 t53.r1 rb qa1 na1 ca1 qa2 na2 ca2 (.map (some pb)) w (HV.callee (S0 := []) (vs0 := []) hh (roR hh 0 rfl (roR hh 1 rfl (roR hh 2 rfl roN)))) hna1 hqa1 hla1 hna2 hqa2 hla2 h29 h33) (fun l_4 h34 => ?_)
       have h35 := h34
       refine g_se (S' := [_, _, _, _, _, _]) (vs' := [_, _, _]) [0, 1, 2, 3, 4, 5] [0, 1, 2] 0 rfl rfl rfl rfl (g_as rfl rfl (g_stSA (us := #[_, _]) (cs' := [_, _]) (S' := [_, _, _, _, _, _]) 4 (fun w => Tryz.sizeOf30 w) rfl rfl rfl rfl rfl rfl rfl (g_nt (g_ret (g_r_then (g_r_blk (g_r_then ?_)))))))
       refine g_r_blk ?_
       obtain rfl := sj hm
       have hbo := h19 _ rfl
       subst hbo
       refine g_r_then ?_
       replace hm := ocR h16
       refine g_r_blk (g_r_then (g_r_then (g_r_blk ?_)))
       obtain rfl := sj hm
       have hbo := h13 _ rfl
       subst hbo
       refine g_r_then ?_
       replace hm := ocR h10
       refine g_r_then (g_r_scp ?_)
       obtain rfl := sj hm
       refine g_done rfl (fun w hh => (.tmp rfl (.cell rfl (loadVar_agg (vs := [_, _]) (Tryz.isAgg30 _) (Tryz.sizeOf30 _) (hh.cells 4 rfl rfl)) .nil))) (fun w hh => ⟨l_4, rfl, h35, hh.selN [2] [0] (by decide) (by decide) rfl rfl⟩)
      ·replace hm := ifN h32 hm
       refine g_skip (g_n_then ?_)
       refine g_draw none (.free 0 (.free 1 (.free 2 (.free 3 (.free 6 (.hoist 7 (.free 8 (.hoist 9 (.free 10 (.one 4 (.one 5 (.one 11 .done)))))))))))) (HV _ _ [(b_3, .cells (RB.enc t53.r1).toArray 158 (0, 0)), (b_2, .cells #[.int .i64 t45.fr, .int .i64 t45.dst, .int .i64 t45.lo, .int .i64 t45.hi, .int .i64 t45.cost, .int .i64 t45.goes] 156 (0, 0)), (pb, gobj (kR RPr) kB d02), (l.1, .cells #[slv l.2.q l.2.n l.2.cap] 154 (0, 0)), (b_1, .cells #[.bool false, slv none 0 0] 30 (0, 0)), (b, .cells #[.func (.func f_c1_0) fs_c1_0 cs_c1_0] 115 (0, 0))] [] _) rfl (by decide +kernel) (fun w k hh => hh.draw k) (hsE [0, 1, 2, 3, 4, 5] [] 0 rfl rfl rfl rfl) ?_
       refine p_mv rfl rfl rfl (p_mv rfl rfl rfl (p_mv rfl rfl rfl (p_free rfl rfl rfl rfl (fun _ _ => v_build (vs := [(0, _), (1, _)]) (cells := [_, _]) rfl rfl) (p_fa 2 Tryz.runUnderlying156 Tryz.sizeOf3 rfl rfl rfl rfl (p_lc 1 Tryz.isAgg3 rfl rfl rfl rfl rfl (p_fa 5 Tryz.runUnderlying156 Tryz.sizeOf3 rfl rfl rfl rfl (p_lc 1 Tryz.isAgg3 rfl rfl rfl rfl rfl ?_)))))))
       obtain ⟨t72, h36, hm⟩ := bindO hm
       refine p_free rfl rfl rfl rfl (fun _ _ => v_subc h36 rfl rfl) (p_one rfl ?_)
       refine g_vlit RCh [(⟨s.t20, true⟩ : Change)] (ps := [(0, _)]) (cells := [_, _]) (fun w => Tryz.runUnderlying157 w) (fun w => Tryz.sizeOf164 w) (fun w => Tryz.zeroValue164 w) rfl rfl rfl rfl rfl rfl rfl rfl (fun L h37 => ?_)
       refine p_next (hsE [0, 1, 2, 3, 4, 5] [] 0 rfl rfl rfl rfl) (p_one rfl ?_)
       obtain ⟨t67, h38, hm⟩ := bindO hm
       refine g_vapp RCh 1 h38 Tryz.underlying157 gxinf164 rfl rfl rfl rfl rfl h27 rfl rfl (vlen RCh h37 rfl) (AOK.q (vne h37)) (fun w hh => (hh.vsegA 0 rfl h37)) rfl (fun L_1 h39 h39n => ?_)
       refine g_se (S' := [_, _, _, _, _, _]) (vs' := [_, _, _]) [0, 1, 2, 3, 4, 5] [0, 1, 2] 0 rfl rfl rfl rfl (p_next (hsE [0, 1, 2, 3, 4, 5] [] 0 rfl rfl rfl rfl) (p_one rfl ?_))
       obtain ⟨t73, h40, hm⟩ := bindO hm
       refine g_se (S' := [_, _, _, _, _, _]) (vs' := [_, _, _]) [0, 1, 2, 3, 4, 5] [2, 0, 1] 0 rfl rfl rfl rfl ?_
       refine g_callH [] [_] rfl rfl rfl rfl rfl rfl rfl Tryz.call106 (fun w hh => c_strip_net_make_1 s_1 t67 t72 l.1 ⟨l.2.q, l.2.n, l.2.cap, l.2.sp⟩ (qA L_1.q) L_1.n L_1.cap w (HV.callee (S0 := []) (vs0 := [_]) hh (roC (hh.bsepH 3 rfl) (roC (hh.vsepA 1 rfl h39) roN))) h18 (vlen RCh h39 rfl) (AOK.q (vne h39)) (h39).hle h40) (fun l_5 h41 => ?_)
       have h42 := h41
       refine g_se (S' := [_, _, _, _, _, _]) (vs' := [_, _, _]) [0, 1, 2, 3, 4, 5] [0, 1, 2] 0 rfl rfl rfl rfl (p_next (hsE [0, 1, 2, 3, 4, 5] [] 0 rfl rfl rfl rfl) (p_done (g_n_blk ?_)))
       obtain rfl := sj hm
       refine g_n_then ?_
       exact g_again' _ () rfl (h42) (sE rfl) (hsE [2, 3, 4, 5] [0] 0 rfl rfl rfl rfl)
     ·replace hm := ifE h22 hm
      refine g_exit (g_x_then (g_x_then (g_x_blk ?_)))
      obtain rfl := sj hm
      have hbo := h19 _ rfl
      subst hbo
      exact g_leaf s_1 (⟨rfl, h18⟩) (sE rfl) (fun w hh => hh)
    ·intro j_1 hj
     obtain ⟨h43, h17⟩ := hj
     subst h43
     replace hm := ocL h16
     refine g_n_blk (g_n_then (g_region ?_))
     obtain ⟨t74, h44, hm⟩ := bindO hm
     refine g_ac h44 rfl rfl rfl (g_mv rfl rfl (g_nil ?_))
     obtain rfl := sj hm
     refine g_n_then ?_
     exact g_again' _ () rfl (h17) (sE rfl) (fun w hh => hh)
   ·replace hm := ifE h14 hm
    refine g_exit (g_x_then (g_x_then (g_x_blk ?_)))
    obtain rfl := sj hm
    have hbo := h13 _ rfl
    subst hbo
    exact g_leaf s.t12 (⟨rfl, h12⟩) (sE rfl) (fun w hh => hh)
  ·intro j hj
   obtain ⟨h45, h11⟩ := hj
   subst h45
   replace hm := ocL h10
   refine g_n_then (g_seq (g_label (g_n_then (g_seq ?_))))
   obtain ⟨o_2, h46, h47⟩ := bindO hm
   refine g_cut (ι := Unit) (fun l_6 => VOK 6 l.2.n l.2.cap (RWay.enc o_2) l.2.sp l.2.q) (fun l_6 => [(5, ptr b_1 0), (6, ptr l.1 0)]) (fun l_6 => [(pb, gobj (kR RPr) kB d02), (l.1, .cells #[slv l.2.q l.2.n l.2.cap] 154 (0, 0)), (b_1, .cells #[.bool false, slv none 0 0] 30 (0, 0)), (b, .cells #[.func (.func f_c1_0) fs_c1_0 cs_c1_0] 115 (0, 0))]) (fun l_6 => [⟨156, RWay.enc o_2, l.2.sp, l.2.q, []⟩]) ?_ ?_
   ·replace hm := h46
    refine g_block ?_
    refine g_loopF (ι := Unit) hm (fun s_2 l_7 => VOK 6 l.2.n l.2.cap (RWay.enc s_2) l.2.sp l.2.q) (fun s_2 l_7 => [(5, ptr b_1 0), (6, ptr l.1 0)]) (fun s_2 l_7 => [(pb, gobj (kR RPr) kB d02), (l.1, .cells #[slv l.2.q l.2.n l.2.cap] 154 (0, 0)), (b_1, .cells #[.bool false, slv none 0 0] 30 (0, 0)), (b, .cells #[.func (.func f_c1_0) fs_c1_0 cs_c1_0] 115 (0, 0))]) (fun s_2 l_7 => [⟨156, RWay.enc s_2, l.2.sp, l.2.q, []⟩]) () (h11) (sE rfl) (fun w hh => hh) (fun s_2 l_7 r_3 hpl hm h50 => ?_)
    have h49 := hpl
    unfold m_strip_desk_filled_1_L2 at hm
    refine g_block (g_sr (g_mv rfl rfl ?_))
    obtain ⟨t76, h51, hm⟩ := bindO hm
    refine g_callH [] [] rfl rfl rfl rfl rfl rfl rfl Tryz.call107 (fun w hh => c_strip_net_cheaper s_2 l.1 (qA l.2.q) l.2.n l.2.cap w (HV.callee (S0 := []) (vs0 := []) hh (roC (bsep (hh.bseg 1 rfl)) (roC (hh.vsepA 0 rfl h49) roN))) (vlen RWay h49 rfl) (AOK.q (vne h49)) (h49).hle h51) (fun l_8 h52 => ?_)
    obtain ⟨h53, h54⟩ := h52
    refine g_se (S' := [_, _, _, _]) (vs' := [_, _]) [0, 1, 2, 3] [0, 1] 0 rfl rfl rfl rfl (g_as rfl rfl (g_nt (g_seq (g_sr (g_mv rfl rfl (g_val rfl rfl rfl (fun w _ => v_eqlNil h54 (Tryz.runUnderlying157 w) rfl rfl) (g_nt ?_)))))))
    refine g_cond rfl (fun h55 => ?_) (fun h55 => ?_)
    ·replace hm := ifT (h55) hm
     refine g_exit (g_x_then (g_x_out rfl (g_x_then (g_x_blk ?_))))
     obtain rfl := sj hm
     have hbo := h50 _ rfl
     subst hbo
     exact g_leaf () (h49) (sE rfl) (hsE [0, 1, 2, 3] [1] 0 rfl rfl rfl rfl)
    ·replace hm := ifN h55 hm
     refine g_skip (g_n_then (g_region (g_mv rfl rfl (g_mv rfl rfl ?_))))
     obtain ⟨t81, h56, hm⟩ := bindO hm
     refine g_se (S' := [_, _, _, _]) (vs' := [_, _]) [0, 1, 2, 3] [1, 0] 0 rfl rfl rfl rfl ?_
     refine g_callH [] [_] rfl rfl rfl rfl rfl rfl rfl Tryz.call106 (fun w hh => c_strip_net_make_1 s_2 t76 1000000 l.1 ⟨l.2.q, l.2.n, l.2.cap, l.2.sp⟩ (qA l_8.q) l_8.n l_8.cap w (HV.callee (S0 := []) (vs0 := [_]) hh (roC (hh.bsepH 1 rfl) (roC (hh.vsepA 0 rfl h53) roN))) h49 (vlen RCh h53 rfl) (AOK.q (vne h53)) (h53).hle h56) (fun l_9 h57 => ?_)
     have h58 := h57
     refine g_se (S' := [_, _, _, _]) (vs' := [_, _]) [0, 1, 2, 3] [0, 1] 0 rfl rfl rfl rfl (g_nil (g_n_blk ?_))
     obtain rfl := sj hm
     refine g_n_then ?_
     exact g_again' _ () rfl (h58) (sE rfl) (hsE [0, 1, 2, 3] [0] 0 rfl rfl rfl rfl)
   ·intro l_6 hj
    have h48 := hj
    replace hm := h47
    refine g_n_then (g_sr (g_mv rfl rfl (g_val rfl rfl rfl (fun _ _ => v_build (vs := []) (cells := [_, _]) rfl rfl) (g_as rfl rfl (g_stSA (us := #[_, _]) (cs' := [_, _]) (S' := [_, _, _, _]) 2 (fun w => Tryz.sizeOf30 w) rfl rfl rfl rfl rfl rfl rfl (g_nt (g_ret ?_)))))))
    refine g_r_scp (g_vnil 3 ?_)
    obtain rfl := sj hm
    refine g_done rfl (fun w hh => (.tmp rfl (.cell rfl (loadVar_agg (vs := [_, _]) (Tryz.isAgg30 _) (Tryz.sizeOf30 _) (hh.cells 2 rfl rfl)) .nil))) (fun w hh => ⟨(l.1, ⟨none, 0, 0, []⟩, l.2), rfl, ⟨VOK.nil, h48⟩, hh.selN [0, 1] [0, 1] (by decide) (by decide) rfl rfl⟩)
structure m_strip_net_shares_S0 where
  t18 : Int
  out5 : (List (List Int))
def m_strip_net_shares_L0 (t15 : (List (List Int))) (d10 : (List Strip)) (s : m_strip_net_shares_S0) : Option (m_strip_net_shares_S0 ⊕ (List (List Int))) :=
 if s.t18 < (t15.length : Int) then
 ((makec 8 0 (d10.length : Int) (d10.length : Int)).bind fun t29 =>
 (ix s.out5 s.t18).bind fun t30 =>
 (some (s.out5.set (Int.toNat s.t18) t29)).bind fun out5 =>
 (addc s.t18 1).bind fun t31 =>
 some (.inl (⟨t31, out5⟩ : m_strip_net_shares_S0))) else
 (some (.inr s.out5))
structure m_strip_net_shares_S1 where
  t37 : Int
  out5 : (List (List Int))
def m_strip_net_shares_L1 (n00 : (List Wy)) (s_1 : m_strip_net_shares_S1) : Option (m_strip_net_shares_S1 ⊕ (List (List Int))) :=
 if s_1.t37 < (n00.length : Int) then
 (((ix n00 s_1.t37).bind fun t39 =>
 (if t39.fr = 0 then
 (some false) else
 (some (!decide (t39.dst = 0)))).bind fun o_3 =>
 if o_3 = true then
 ((subc t39.dst 1).bind fun t52 =>
 (subc t52 6).bind fun t53 =>
 (ix s_1.out5 t53).bind fun t54 =>
 (subc t39.fr 1).bind fun t58 =>
 (ix t54 t58).bind fun t61 =>
 (some (t54.set (Int.toNat t58) t39.goes)).bind fun row =>
 (some (s_1.out5.set (Int.toNat t53) row)).bind fun out5_1 =>
 some out5_1) else
 (some s_1.out5)).bind fun o_2 =>
 (addc s_1.t37 1).bind fun t62 =>
 some (.inl (⟨t62, o_2⟩ : m_strip_net_shares_S1))) else
 (some (.inr s_1.out5))
def m_strip_net_shares (n00 : (List Wy)) (d10 : (List Strip)) (d11 : (List Span)) : Option (List (List Int)) :=
 (makec 24 ([] : (List Int)) (d11.length : Int) (d11.length : Int)).bind fun t15 =>
 (iterM FU (m_strip_net_shares_L0 t15 d10) (⟨0, t15⟩ : m_strip_net_shares_S0)).bind fun o =>
 (iterM FU (m_strip_net_shares_L1 n00) (⟨0, o⟩ : m_strip_net_shares_S1)).bind fun o_1 =>
 some o_1
theorem c_strip_net_shares (n00 : (List Wy)) (d10 : (List Strip)) (d11 : (List Span)) (rb : Nat) (qa1 : Option Addr) (na1 ca1 : Nat) (rb_1 : Nat) (qa3 : Option Addr) (na3 ca3 : Nat) (qa4 : Option Addr) (na4 ca4 : Nat) (mv : Value) (w : World) (hw : HV w (keys [] []) [] [] [(rb, 0, [.slice qa1 na1 ca1]), (aB qa1, aO qa1, RWay.enc n00), (rb_1, 0, [.slice qa3 na3 ca3, .slice qa4 na4 ca4, mv]), (aB qa3, aO qa3, RSt.enc d10), (aB qa4, aO qa4, RSp.enc d11)] w)  (hna1 : n00.length = na1) (hqa1 : AOK na1 qa1) (hla1 : na1 ≤ ca1)  (hna3 : d10.length = na3) (hqa3 : AOK na3 qa3) (hla3 : na3 ≤ ca3) (hna4 : d11.length = na4) (hqa4 : AOK na4 qa4) (hla4 : na4 ≤ ca4) {res : (List (List Int))} (hm : m_strip_net_shares n00 d10 d11 = some res) :
    Calls Tryz.prog 99 #[ptr rb 0, ptr rb_1 0] w (fun en w' => ∃ l : DL, en = .returned (slv l.v.q l.v.n l.v.cap) ∧ (VOK 1 l.v.n l.v.cap (RwH.enc l.rs) l.v.sp l.v.q ∧ DOK RI res l.rs) ∧ HV w (keys [] []) [] [⟨26, RwH.enc l.rs, l.v.sp, l.v.q, dbl 3 RI res l.rs⟩] [] w') := by
  unfold m_strip_net_shares at hm
  refine g_en Tryz.func99 rfl Tryz.ntmps99 rfl (e := [(0, _), (1, _)]) rfl hw (g_sr (g_val rfl rfl rfl (fun _ _ => v_nilS rfl) (g_nx (g_mv rfl rfl (g_val rfl rfl rfl (fun _ _ => v_nilCheck rfl) (g_fa 0 Tryz.runUnderlying144 rfl Tryz.sizeOf25 rfl rfl (g_fa 1 Tryz.runUnderlying25 rfl Tryz.sizeOf23 rfl rfl ?_)))))))
  refine g_val rfl rfl rfl (fun w hh => v_load (Tryz.isAgg23 w) rfl (segCell (hh.seg 2 rfl) 1 rfl)) (g_val rfl rfl rfl (fun w _ => v_lenR hna4 (Tryz.runUnderlying23 w) rfl) ?_)
  obtain ⟨t15, h3, hm⟩ := bindO hm
  refine g_vmake RwH vl0 (makecL vl0 h3) Tryz.underlying70 gxinf26 rfl rfl rfl rfl rfl (fun L h4 => ?_)
  refine g_drep (E2 := 3) RI (Int.toNat (d11.length : Int)) (makecO h3).1.symm (fun h5 => ?_)
  refine g_as rfl rfl (g_nt (g_seq (g_sr (g_mv rfl rfl (g_val rfl rfl rfl (fun w _ => v_lenN (Eq.trans (h5).len (vlen RwH h4 rfl)) (Tryz.runUnderlying70 w) rfl) (g_mv rfl rfl (g_nt ?_)))))))
  obtain ⟨o, h6, h7⟩ := bindO hm
  refine g_cut (ι := DL) (fun l => VOK 1 l.v.n l.v.cap (RwH.enc l.rs) l.v.sp l.v.q ∧ DOK RI o l.rs) (fun l => [(0, ptr rb 0), (5, slv l.v.q l.v.n l.v.cap)]) (fun l => []) (fun l => [⟨26, RwH.enc l.rs, l.v.sp, l.v.q, dbl 3 RI o l.rs⟩]) ?_ ?_
  ·replace hm := h6
   refine g_block ?_
   refine g_loopF (ι := DL) hm (fun s l_1 => VOK 1 l_1.v.n l_1.v.cap (RwH.enc l_1.rs) l_1.v.sp l_1.v.q ∧ DOK RI s.out5 l_1.rs) (fun s l_1 => [(0, ptr rb 0), (1, ptr rb_1 0), (5, slv l_1.v.q l_1.v.n l_1.v.cap), (17, .int .i64 (t15.length : Int)), (18, .int .i64 s.t18)]) (fun s l_1 => []) (fun s l_1 => [⟨26, RwH.enc l_1.rs, l_1.v.sp, l_1.v.q, dbl 3 RI s.out5 l_1.rs⟩]) (⟨⟨L.q, L.n, L.cap, L.sp⟩, (List.replicate (Int.toNat (d11.length : Int)) vl0)⟩) (⟨h4, h5⟩) (sE rfl) (fun w hh => hh) (fun s l_1 r hpl hm h12 => ?_)
   obtain ⟨h10, h11⟩ := hpl
   unfold m_strip_net_shares_L0 at hm
   refine g_sr (g_ls rfl rfl rfl (g_nt (g_seq ?_)))
   refine g_cond rfl (fun h13 => ?_) (fun h13 => ?_)
   ·replace hm := ifD h13 hm
    refine g_skip (g_n_then (g_seq (g_block (g_sr (g_mv rfl rfl (g_as rfl rfl (g_nt ?_)))))))
    refine g_region (g_mv rfl rfl (g_mv rfl rfl (g_mv rfl rfl (g_val rfl rfl rfl (fun _ _ => v_nilCheck rfl) (g_fa 0 Tryz.runUnderlying144 rfl Tryz.sizeOf25 rfl rfl (g_fa 0 Tryz.runUnderlying25 rfl Tryz.sizeOf22 rfl rfl (g_val rfl rfl rfl (fun w hh => v_load (Tryz.isAgg22 w) rfl (segCell (hh.seg 2 rfl) 0 rfl)) ?_)))))))
    refine g_val rfl rfl rfl (fun w _ => v_lenR hna3 (Tryz.runUnderlying22 w) rfl) ?_
    obtain ⟨t29, h14, hm⟩ := bindO hm
    refine g_vmake RI 0 h14 Tryz.underlying26 gxinf3 rfl rfl rfl rfl rfl (fun L_1 h15 => ?_)
    obtain ⟨t30, h16, hm⟩ := bindO hm
    obtain ⟨L_2, h17, h18⟩ := (h11).row h16
    refine g_val rfl rfl rfl (fun w _ => v_ixA h17 (Tryz.runUnderlying70 w) (Tryz.sizeOf26 w) rfl rfl (vlen RwH h10 rfl) (vne h10)) ?_
    obtain ⟨out5, hout5, hm⟩ := bindO hm
    refine g_vst RwH 1 0 (⟨L_1.q, L_1.n, L_1.cap, L_1.sp⟩ : VL) (fun w => Tryz.sizeOf26 w) rfl rfl rfl rfl h10 rfl (Nat.add_zero _).symm rfl h17 rfl rfl rfl (fun h19 => ?_)
    refine g_se (S' := []) (vs' := [_, _]) [] [0, 1] 0 rfl rfl rfl rfl (g_se (S' := []) (vs' := [_, _]) [] [1, 0] 0 rfl rfl rfl rfl ?_)
    refine g_dput RI s.t18 L_1.n L_1.cap h11 h15 h16 (Option.some.inj hout5) (fun h20 => ?_)
    refine g_nil (g_n_blk (g_n_then (g_region ?_)))
    obtain ⟨t31, h21, hm⟩ := bindO hm
    refine g_ac h21 rfl rfl rfl (g_mv rfl rfl (g_nil ?_))
    obtain rfl := sj hm
    refine g_n_then ?_
    exact g_again' _ (⟨⟨l_1.v.q, l_1.v.n, l_1.v.cap, l_1.v.sp⟩, (l_1.rs.set (Int.toNat s.t18) (⟨L_1.q, L_1.n, L_1.cap, L_1.sp⟩ : VL))⟩) rfl (⟨h19, h20⟩) (sE rfl) (fun w hh => hh)
   ·replace hm := ifE h13 hm
    refine g_exit (g_x_then (g_x_then (g_x_blk ?_)))
    obtain rfl := sj hm
    have hbo := h12 _ rfl
    subst hbo
    exact g_leaf l_1 (⟨h10, h11⟩) (sE rfl) (fun w hh => hh)
  ·intro l hj
   obtain ⟨h8, h9⟩ := hj
   replace hm := h7
   refine g_n_then (g_seq (g_sr (g_mv rfl rfl (g_val rfl rfl rfl (fun _ _ => v_nilCheck rfl) (g_fa 0 Tryz.runUnderlying154 rfl Tryz.sizeOf152 rfl rfl (g_val rfl rfl rfl (fun w hh => v_load (Tryz.isAgg152 w) rfl (segCell (hh.seg 0 rfl) 0 rfl)) (g_val rfl rfl rfl (fun w _ => v_lenR hna1 (Tryz.runUnderlying152 w) rfl) ?_)))))))
   refine g_mv rfl rfl (g_nt ?_)
   obtain ⟨o_1, h22, h23⟩ := bindO hm
   refine g_cut (ι := Unit) (fun l_2 => DOK RI o_1 l.rs) (fun l_2 => [(5, slv l.v.q l.v.n l.v.cap)]) (fun l_2 => []) (fun l_2 => [⟨26, RwH.enc l.rs, l.v.sp, l.v.q, dbl 3 RI o_1 l.rs⟩]) ?_ ?_
   ·replace hm := h22
    refine g_block ?_
    refine g_loopF (ι := Unit) hm (fun s_1 l_3 => DOK RI s_1.out5 l.rs) (fun s_1 l_3 => [(5, slv l.v.q l.v.n l.v.cap), (35, .slice qa1 na1 ca1), (36, .int .i64 (n00.length : Int)), (37, .int .i64 s_1.t37)]) (fun s_1 l_3 => []) (fun s_1 l_3 => [⟨26, RwH.enc l.rs, l.v.sp, l.v.q, dbl 3 RI s_1.out5 l.rs⟩]) () (h9) (sE rfl) (fun w hh => hh) (fun s_1 l_3 r_1 hpl hm h26 => ?_)
    have h25 := hpl
    unfold m_strip_net_shares_L1 at hm
    refine g_sr (g_ls rfl rfl rfl (g_nt (g_seq ?_)))
    refine g_cond rfl (fun h27 => ?_) (fun h27 => ?_)
    ·replace hm := ifD h27 hm
     refine g_skip (g_n_then (g_seq ?_))
     obtain ⟨o_2, h28, h29⟩ := bindO hm
     refine g_cut (ι := Unit) (fun l_4 => DOK RI o_2 l.rs) (fun l_4 => [(5, slv l.v.q l.v.n l.v.cap), (35, .slice qa1 na1 ca1), (36, .int .i64 (n00.length : Int)), (37, .int .i64 s_1.t37)]) (fun l_4 => []) (fun l_4 => [⟨26, RwH.enc l.rs, l.v.sp, l.v.q, dbl 3 RI o_2 l.rs⟩]) ?_ ?_
     ·replace hm := h28
      refine g_block (g_sr ?_)
      obtain ⟨t39, h31, hm⟩ := bindO hm
      refine g_val rfl rfl rfl (fun w _ => v_ixR h31 (Tryz.runUnderlying152 w) (Tryz.sizeOf156 w) rfl rfl hna1 hqa1) ?_
      refine g_val rfl rfl rfl (fun w hh => v_ldEA RWay 0 [.int .i64 t39.fr, .int .i64 t39.dst, .int .i64 t39.lo, .int .i64 t39.hi, .int .i64 t39.cost, .int .i64 t39.goes] h31 (Tryz.isAgg156 w) (Tryz.sizeOf156 w) rfl (hh.seg 1 rfl) rfl (Nat.add_zero _).symm) ?_
      refine g_allocV (fun w => Tryz.zeroValue156 w) rfl (fun b h32 => ?_)
      refine g_stSA (us := #[_, _, _, _, _, _]) (cs' := [_, _, _, _, _, _]) (S' := [_]) 0 (fun w => Tryz.sizeOf156 w) rfl rfl rfl rfl rfl rfl rfl (g_nt (g_seq ?_))
      obtain ⟨o_3, h33, h34⟩ := bindO hm
      refine g_cut (ι := Unit) (fun l_5 => True) (fun l_5 => [(5, slv l.v.q l.v.n l.v.cap), (8, ptr b 0), (35, .slice qa1 na1 ca1), (36, .int .i64 (n00.length : Int)), (37, .int .i64 s_1.t37), (48, .bool o_3)]) (fun l_5 => [(b, .cells #[.int .i64 t39.fr, .int .i64 t39.dst, .int .i64 t39.lo, .int .i64 t39.hi, .int .i64 t39.cost, .int .i64 t39.goes] 156 (0, 0))]) (fun l_5 => [⟨26, RwH.enc l.rs, l.v.sp, l.v.q, dbl 3 RI s_1.out5 l.rs⟩]) ?_ ?_
      ·replace hm := h33
       refine g_region (g_fa 0 Tryz.runUnderlying156 rfl Tryz.sizeOf3 rfl rfl (g_lc 0 Tryz.isAgg3 rfl rfl rfl rfl (g_val rfl rfl rfl (fun _ _ => v_neq rfl rfl) (g_mv rfl rfl ?_))))
       refine g_case 44 rfl (fun h35 => ?_) (fun h35 => ?_)
       ·replace hm := ifF (of_ndec_true h35) hm
        refine v_unguard rfl rfl (g_fa 1 Tryz.runUnderlying156 rfl Tryz.sizeOf3 rfl rfl (v_unguard rfl rfl (g_lc 0 Tryz.isAgg3 rfl rfl rfl rfl (v_unguard rfl rfl (g_val rfl rfl rfl (fun _ _ => v_neq rfl rfl) (g_pt rfl rfl rfl (g_nil ?_)))))))
        obtain rfl := sj hm
        exact g_leaf () (trivial) (sE rfl) (fun w hh => hh)
       ·replace hm := ifT (of_ndec_false h35) hm
        refine g_k rfl rfl rfl rfl (g_k rfl rfl rfl rfl (g_k rfl rfl rfl rfl (g_pf rfl rfl rfl (g_nil ?_))))
        obtain rfl := sj hm
        exact g_leaf () (trivial) (sE rfl) (fun w hh => hh)
      ·intro l_5 hj
       replace hm := h34
       refine g_n_then ?_
       refine g_cond rfl (fun h36 => ?_) (fun h36 => ?_)
       ·replace hm := ifT (h36) hm
        refine g_draw (some 13) (.free 0 (.free 1 (.hoist 2 (.free 3 (.free 4 (.free 5 (.hoist 6 (.free 7 (.hoist 8 (.free 9 (.free 10 (.hoist 11 (.free 12 (.last 13 .done)))))))))))))) _ rfl (by decide +kernel) (fun w k hh => hh.draw k) (fun w hh => hh) ?_
        refine p_mv rfl rfl rfl (p_fa 1 Tryz.runUnderlying156 Tryz.sizeOf3 rfl rfl rfl rfl (p_lc 0 Tryz.isAgg3 rfl rfl rfl rfl rfl ?_))
        obtain ⟨t52, h37, hm⟩ := bindO hm
        refine p_free rfl rfl rfl rfl (fun _ _ => v_subc h37 rfl rfl) ?_
        obtain ⟨t53, h38, hm⟩ := bindO hm
        refine p_free rfl rfl rfl rfl (fun _ _ => v_subc h38 rfl rfl) ?_
        obtain ⟨t54, h39, hm⟩ := bindO hm
        obtain ⟨L_3, h40, h41⟩ := (h25).row h39
        refine p_free rfl rfl rfl rfl (fun w _ => v_ixA h40 (Tryz.runUnderlying70 w) (Tryz.sizeOf26 w) rfl rfl (vlen RwH h8 rfl) (vne h8)) (p_hoist rfl rfl rfl rfl (fun w hh => v_ldE RwH 0 h40 (Tryz.isAgg26 w) rfl (hh.vseg 0 rfl h8) rfl (Nat.add_zero _).symm) (p_fa 0 Tryz.runUnderlying156 Tryz.sizeOf3 rfl rfl rfl rfl (p_lc 0 Tryz.isAgg3 rfl rfl rfl rfl rfl ?_)))
        obtain ⟨t58, h42, hm⟩ := bindO hm
        refine p_free rfl rfl rfl rfl (fun _ _ => v_subc h42 rfl rfl) (p_fa 5 Tryz.runUnderlying156 Tryz.sizeOf3 rfl rfl rfl rfl (p_lc 0 Tryz.isAgg3 rfl rfl rfl rfl rfl ?_))
        obtain ⟨t61, h43, hm⟩ := bindO hm
        refine p_free rfl rfl rfl rfl (fun w _ => v_ixA h43 (Tryz.runUnderlying26 w) (Tryz.sizeOf3 w) rfl rfl (vlen RI h41 rfl) (vne h41)) (p_last rfl ?_)
        obtain ⟨row, hrow, hm⟩ := bindO hm
        obtain ⟨out5_1, hout5_1, hm⟩ := bindO hm
        refine g_se (S' := [_]) (vs' := [_]) [0] [0] 0 rfl rfl rfl rfl ?_
        refine g_dtake RI t53 h25 h39 h40 (fun _ => ?_)
        refine g_vst RI 1 0 t39.goes (fun w => Tryz.sizeOf3 w) rfl rfl rfl rfl h41 rfl (Nat.add_zero _).symm rfl h43 rfl rfl (Option.some.inj hrow) (fun h44 => ?_)
        refine g_se (S' := [_]) (vs' := [_, _]) [0] [0, 1] 0 rfl rfl rfl rfl ?_
        refine g_dback RI t53 h25 h39 h40 h44 (Option.some.inj hout5_1) (fun h45 => ?_)
        refine p_nextL (p_done (g_n_blk ?_))
        obtain rfl := sj hm
        exact g_leaf () (h45) (sE rfl) (hsE [] [0] 0 rfl rfl rfl rfl)
       ·replace hm := ifN h36 hm
        refine g_skip (g_n_blk ?_)
        obtain rfl := sj hm
        exact g_leaf () (h25) (sE rfl) (hsE [] [0] 0 rfl rfl rfl rfl)
     ·intro l_4 hj
      have h30 := hj
      replace hm := h29
      refine g_n_then (g_region ?_)
      obtain ⟨t62, h46, hm⟩ := bindO hm
      refine g_ac h46 rfl rfl rfl (g_mv rfl rfl (g_nil ?_))
      obtain rfl := sj hm
      refine g_n_then ?_
      exact g_again' _ () rfl (h30) (sE rfl) (fun w hh => hh)
    ·replace hm := ifE h27 hm
     refine g_exit (g_x_then (g_x_then (g_x_blk ?_)))
     obtain rfl := sj hm
     have hbo := h26 _ rfl
     subst hbo
     exact g_leaf () (h25) (sE rfl) (fun w hh => hh)
   ·intro l_2 hj
    have h24 := hj
    replace hm := h23
    refine g_n_then (g_sr (g_mv rfl rfl (g_as rfl rfl (g_nt (g_ret ?_)))))
    obtain rfl := sj hm
    refine g_done rfl (fun w hh => (.tmp rfl .nil)) (fun w hh => ⟨l, rfl, ⟨h8, h24⟩, hh.se [] [0] 5 rfl rfl rfl rfl⟩)
end Go.Proofs.Ws

