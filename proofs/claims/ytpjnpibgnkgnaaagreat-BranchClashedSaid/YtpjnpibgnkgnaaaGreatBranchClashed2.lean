/- What the functions that the law BranchClashed reaches come to, and why it holds: part 2. -/
import Derived.Test.YtpjnpibgnkgnaaaGreatBranchClashed1
import Derived.Test.YtpjnpibgnkgnaaaGreatProg
namespace Go.Gx
open Go Go.Fw
section
variable {P : Program}
theorem run_copy_rows (w : World) (dT sT ty elem : TypeId) (g dLen dCap : Nat) (a : Addr) (sLen sCap k n : Nat) (cur : Array Value) (t : TypeId) (cs : List Value)
    (hu : P.underlying dT = some (.slice elem)) (hs : (P.info? elem).map (·.size) = some k) (hg : w.heap[g]? = some (.cells cur t (0, 0))) (hn : n = Nat.min sLen dLen) (hc : cs.length = n * k)
    (hsrc : ∀ j v, cs[j]? = some v → w.cell? (a.add j) = some v) (hfit : cs.length ≤ cur.size) (h1 : ∀ v ∈ cs, v.oneCell' = true) :
    (Builtin.copy_ #[dT, sT] ty #[.slice (some ⟨g, 0, none⟩) dLen dCap, .slice (some a) sLen sCap]).run P w = .ok (goInt n) (w.setRow g (cs ++ cur.toList.drop cs.length).toArray) := by
  have hl := run_loadCells_list (P := P) w a cs hsrc
  have hst := run_storeCells_at P g 0 t cs 0 cur w hg (by simpa using hfit) h1
  simp only [Nat.zero_add, List.take_zero, List.nil_append] at hst
  cases hq : P.info? elem with
  | none => simp [hq] at hs
  | some i =>
    have hi : i.size = k := by simpa [hq] using hs
    simp [Builtin.copy_, run_underlying hu, Builtin.lenOf, Builtin.firstCells, sizeOf, typeInfo, hq, hi, ← hn, ← hc, hl, hst]
theorem run_copy_zero (w : World) (dT sT ty elem : TypeId) (d a : Option Addr) (dLen dCap sLen sCap k : Nat) (hu : P.underlying dT = some (.slice elem)) (hs : (P.info? elem).map (·.size) = some k) (hn : Nat.min sLen dLen = 0) :
    (Builtin.copy_ #[dT, sT] ty #[.slice d dLen dCap, .slice a sLen sCap]).run P w = .ok (goInt 0) w := by
  cases hq : P.info? elem with
  | none => simp [hq] at hs
  | some i =>
    have hi : i.size = k := by simpa [hq] using hs
    have hl : ∀ a : Addr, (loadCells a 0).run P w = .ok #[] w := fun a => by simp [loadCells, loadCellsFrom]
    cases d <;> cases a <;> simp [Builtin.copy_, run_underlying hu, Builtin.lenOf, Builtin.firstCells, sizeOf, typeInfo, hq, hi, hn, hl, storeCells]
end
section
variable {n : Nat} {ds : List Deferred} {e : EnvL} {P : Program} {r : Option Nat} {Q : Exit → Act → World → Prop} {ops : Array Oper} {w0 : World} {M : List Nat} {S : List (Nat × Obj)} {vs : List VR} {ro : List Sg} {rest : List Oper}
theorem ja7 {α : Type} (R : Row α) (i : Nat) {d : Nat} {t ty E : TypeId} {x y : Operand} {sz ln cap : Nat} {l m lm : List α} {sp : List Value} {q : Option (Nat × Nat)} {q2 : Option Addr} {n2 c2 : Nat} {mo : List (Nat × Obj)} {pos : String} {after : Array Edge}
    (hu : P.underlying t = some (.slice E)) (hs : (P.info? E).map (·.size) = some sz) (hsz : sz = R.sz) (hs0 : Nat.blt 0 R.sz = true) (hx : ev e x = some (slv q ln cap)) (hy : ev e y = some (.slice q2 n2 c2)) (hvi : vs[i]? = some ⟨E, R.enc l, sp, q, mo⟩) (hv : VOK sz ln cap (R.enc l) sp q)
    (hm : m.length = n2) (hq2 : AOK n2 q2) (hsrc : ∀ w, HV w0 M S vs ro w → segOK w (aB q2, aO q2, R.enc m)) (hle : m.length ≤ l.length) (hlm : m ++ l.drop m.length = lm) (hn : Nat.blt d n = true)
    (h : VOK sz ln cap (R.enc lm) sp q → G n ds ((d, .int .i64 (m.length : Int)) :: e) (HV w0 M S (vs.set i ⟨E, R.enc lm, sp, q, mo⟩) ro) (wpListIn (fw r) 0 P ops Q rest)) :
    G n ds e (HV w0 M S vs ro) (wpListIn (fw r) 0 P ops Q (⟨some d, .call ⟨.builtin .copy, #[x, y], #[t, t]⟩, ty, pos, after, none⟩ :: rest)) := fun a w he hh => by
  subst hsz hm
  have hln := vlen R hv hs0
  have hlen2 : lm.length = l.length := by rw [← hlm]; simp; omega
  have hv' : VOK R.sz ln cap (R.enc lm) sp q := by
    have e1 : (R.enc lm).length = (R.enc l).length := by rw [R.enc_len, R.enc_len, hlen2]
    exact ⟨by rw [e1]; exact hv.hlen, by rw [List.length_append, e1, ← List.length_append]; exact hv.hcap, hv.hle, hv.hmax, (fun hn' => by
      have := hv.hnone hn'
      refine ⟨this.1, ?_⟩
      exact this.2), hv.hoff⟩
  by_cases h0 : m = []
  · subst h0
    have e1 : lm = l := by rw [← hlm]; simp
    subst e1
    have hrun := run_copy_zero (P := P) w t t ty E (q.map fun p => ⟨p.1, p.2, none⟩) q2 ln cap 0 c2 R.sz hu hs (by exact Nat.zero_min ln)
    refine wpListIn_value (wanted_none rfl _) (v := .int .i64 0) (w' := w) (by
      have hx' : a.eval x = .slice (q.map fun p => ⟨p.1, p.2, none⟩) ln cap := he.eval hx
      have hy' : a.eval y = .slice q2 0 c2 := he.eval hy
      simp only [execOp, resolve]
      simp [invoke, builtin, hx', hy', hrun, goInt]) ?_
    refine h hv _ _ (he.put hn _) ?_
    have : vs.set i ⟨E, R.enc lm, sp, q, mo⟩ = vs := by
      apply List.ext_getElem?
      intro j
      rw [List.getElem?_set]
      split
      · rename_i hj; subst hj; split
        · exact hvi.symm
        · rename_i hlt; rw [List.getElem?_eq_none (by omega)]
      · rfl
    rw [this]
    exact hh
  · have hm0 : 0 < m.length := List.length_pos_iff.2 h0
    obtain ⟨b2, o2, rfl⟩ := hq2 hm0
    cases q with
    | none => have := (hv.hnone rfl).1; omega
    | some p =>
      have hoff := hv.hoff p rfl
      have hbk : w.heap[p.1]? = some (.cells (R.enc l ++ sp).toArray E (0, 0)) := hh.hs.ownOK (p.1, _) (HV.vmem i hvi _ (by simp [VR.bl, vown]))
      have hx' : a.eval x = .slice (some ⟨p.1, 0, none⟩) ln cap := by rw [he.eval hx]; simp [slv, hoff]
      have hy' : a.eval y = .slice (some ⟨b2, o2, none⟩) m.length c2 := he.eval hy
      have hsr : ∀ j v, (R.enc m)[j]? = some v → w.cell? ((⟨b2, o2, none⟩ : Addr).add j) = some v := fun j v hj => by
        rw [addr_add]
        exact segOK.at (hsrc w hh) hj
      have hrun := run_copy_rows (P := P) w t t ty E p.1 ln cap ⟨b2, o2, none⟩ m.length c2 R.sz m.length (R.enc l ++ sp).toArray E (R.enc m) hu hs hbk (by rw [← hln]; exact (Nat.min_eq_left hle).symm) (R.enc_len m) hsr (by
        have : m.length * R.sz ≤ l.length * R.sz := Nat.mul_le_mul_right _ hle
        simp [R.enc_len]; omega) (R.enc_one m)
      have hcs : (R.enc m ++ (R.enc l ++ sp).toArray.toList.drop (R.enc m).length).toArray = (R.enc lm ++ sp).toArray := by
        congr 1
        have h2 : l.take m.length ++ l.drop m.length = l := List.take_append_drop _ _
        have h3 : (R.enc (l.take m.length)).length = (R.enc m).length := by rw [R.enc_len, R.enc_len]; congr 1; simp; omega
        have h4 : R.enc l = R.enc (l.take m.length) ++ R.enc (l.drop m.length) := by rw [← R.enc_append, h2]
        show R.enc m ++ (R.enc l ++ sp).drop (R.enc m).length = R.enc lm ++ sp
        rw [← hlm, R.enc_append, List.append_assoc]
        congr 1
        rw [h4, List.append_assoc, ← h3, List.drop_left]
      rw [hcs] at hrun
      refine wpListIn_value (wanted_none rfl _) (v := .int .i64 m.length) (w' := w.setRow p.1 (R.enc lm ++ sp).toArray) (by simp only [execOp, resolve]; simp [invoke, builtin, hx', hy', hrun, goInt]) ?_
      refine h hv' _ _ (he.put hn _) (hh.vupd i hvi Ext.setRow (setRow_heap w p.1 _ _ E (0, 0) hbk))
end
section
variable {P : Program} {e : EnvL} {w : World} {dst : Option Tmp} {ty : TypeId} {pos : String} {after : Array Edge} {g : Option (Nat × Bool)}
end
end Go.Gx

namespace Go.Gx
open Go Go.Fw
section
variable {n : Nat} {ds : List Deferred} {e : EnvL} {P : Program} {r : Option Nat} {Q : Exit → Act → World → Prop} {ops : Array Oper} {w0 : World} {M : List Nat} {S : List (Nat × Obj)} {vs : List VR} {ro : List Sg} {rest : List Oper}
theorem Row.part {α : Type} (R : Row α) (l : List α) (j f : Nat) (x0 x1 : α) (us sp : List Value) (hx : l[j]? = some x0) (hf : f + us.length ≤ R.sz) (hset : (R.cells x0).take f ++ us ++ (R.cells x0).drop (f + us.length) = R.cells x1) :
    (R.enc l ++ sp).take (j * R.sz + f) ++ us ++ (R.enc l ++ sp).drop (j * R.sz + f + us.length) = R.enc (l.set j x1) ++ sp := by
  have hjl : j < l.length := (List.getElem?_eq_some_iff.1 hx).1
  have e0 := R.enc_set l j x0 x0 hx
  have e1 := R.enc_set l j x0 x1 hx
  have es : l.set j x0 = l := by
    apply List.ext_getElem?
    intro k
    rw [List.getElem?_set]
    split
    · rename_i hk; subst hk; simp [hjl]; exact (List.getElem?_eq_some_iff.1 hx).2.symm
    · rfl
  rw [es] at e0
  have hle : (j + 1) * R.sz ≤ l.length * R.sz := Nat.mul_le_mul_right _ hjl
  rw [Nat.add_mul, Nat.one_mul] at hle
  have hA : ((R.enc l).take (j * R.sz)).length = j * R.sz := by rw [List.length_take, R.enc_len]; omega
  have hC : (R.cells x0).length = R.sz := R.len x0
  generalize hAd : (R.enc l).take (j * R.sz) = A at e0 e1 hA
  generalize (R.enc l).drop (j * R.sz + R.sz) = D at e0 e1
  rw [← e0, ← e1, ← hset]
  have t1 : (A ++ R.cells x0 ++ D ++ sp).take (j * R.sz + f) = A ++ (R.cells x0).take f := by
    rw [List.append_assoc, List.append_assoc, List.take_append, hA, List.take_of_length_le (by omega), show j * R.sz + f - j * R.sz = f by omega, List.take_append_of_le_length (by omega)]
  have t2 : (A ++ R.cells x0 ++ D ++ sp).drop (j * R.sz + f + us.length) = (R.cells x0).drop (f + us.length) ++ D ++ sp := by
    rw [List.append_assoc, List.append_assoc, List.drop_append, hA, List.drop_eq_nil_of_le (by omega), List.nil_append, show j * R.sz + f + us.length - j * R.sz = f + us.length by omega, List.drop_append_of_le_length (by omega), List.append_assoc]
  rw [t1, t2]
  simp only [List.append_assoc]
end
end Go.Gx

namespace Go.Gx
open Go Go.Fw
section
variable {P : Program}
inductive EqG (P : Program) (xs ys : Array Value) : List Field → Bool → Prop
  | nil : EqG P xs ys [] true
  | int {f : Field} {fs : List Field} {k : IntKind} {a c : Int} {b : Bool} (hn : (f.name == "_") = false) (hg : ∀ w, (isAgg f.type).run P w = .ok false w) (hu : ∃ k', P.underlying f.type = some (.int k')) (hx : xs[f.offset]? = some (.int k a)) (hy : ys[f.offset]? = some (.int k c)) (h : EqG P xs ys fs b) : EqG P xs ys (f :: fs) (decide (a = c) && b)
  | bool {f : Field} {fs : List Field} {a c : Bool} {b : Bool} (hn : (f.name == "_") = false) (hg : ∀ w, (isAgg f.type).run P w = .ok false w) (hu : P.underlying f.type = some .bool) (hx : xs[f.offset]? = some (.bool a)) (hy : ys[f.offset]? = some (.bool c)) (h : EqG P xs ys fs b) : EqG P xs ys (f :: fs) (decide (a = c) && b)
  | sub {f : Field} {fs : List Field} {us vs : List Value} {k : Nat} {fs' : Array Field} {b b' : Bool} (hn : (f.name == "_") = false) (hg : ∀ w, (isAgg f.type).run P w = .ok true w) (hz : ∀ w, (sizeOf f.type).run P w = .ok k w) (hlx : us.length = k) (hly : vs.length = k) (hx : (xs.toList.drop f.offset).take k = us) (hy : (ys.toList.drop f.offset).take k = vs)
      (hu : P.underlying f.type = some (.struct fs')) (hp : P.stoodInHeld f.type = false) (h' : EqF P us.toArray vs.toArray fs'.toList b') (h : EqG P xs ys fs b) : EqG P xs ys (f :: fs) (b' && b)
theorem part_agg {T : TypeId} {cs : Array Value} {o : Nat} {us : List Value} {w : World} (hg : (isAgg T).run P w = .ok true w) (hz : (sizeOf T).run P w = .ok us.length w) (hv : (cs.toList.drop o).take us.length = us) : (part T cs o).run P w = .ok (.agg us.toArray) w := by
  have hsub : cs.extract o (o + us.length) = us.toArray := by
    apply Array.toList_inj.1
    rw [Array.toList_extract, List.extract_eq_take_drop]
    simpa using hv
  simp [part, hg, hz, hsub]
theorem EqG.run {xs ys : Array Value} {fs : List Field} {b : Bool} (h : EqG P xs ys fs b) (d : Nat) (w : World) : (Op.eqFields (d + 2) xs ys fs).run P w = .ok b w := by
  induction h with
  | nil => rfl
  | @int f fs k a c b hn hg hu hx hy h ih =>
    obtain ⟨k', hu⟩ := hu
    have hn' : f.name ≠ "_" := by simpa using hn
    simp only [Op.eqFields, hn', ne_eq, not_false_eq_true, if_true, Sem.run_bind, part_one (hg w) hx, part_one (hg w) hy, Result.andThen_ok, Go.run_equalIn_int w (d + 1) f.type k k' a c hu, Sem.run_ite]
    by_cases he : a = c
    · subst he; simp [ih]
    · simp [he]
  | @bool f fs a c b hn hg hu hx hy h ih =>
    have hn' : f.name ≠ "_" := by simpa using hn
    simp only [Op.eqFields, hn', ne_eq, not_false_eq_true, if_true, Sem.run_bind, part_one (hg w) hx, part_one (hg w) hy, Result.andThen_ok, run_equalIn_bool' w (d + 1) f.type a c hu, Sem.run_ite]
    by_cases he : a = c
    · subst he; simp [ih]
    · simp [he]
  | @sub f fs us vs k fs' b b' hn hg hz hlx hly hx hy hu hp h' h ih =>
    have hn' : f.name ≠ "_" := by simpa using hn
    have hf : P.fieldsOf f.type = fs' := by simp [Program.fieldsOf, hu]
    have he : (Op.equalIn (d + 2) f.type (.agg us.toArray) (.agg vs.toArray)).run P w = .ok b' w := by
      rw [run_equalIn_agg w (d + 1) f.type us.toArray vs.toArray (by rw [hf]; exact hu) hp, hf]
      exact h'.run d w
    simp only [Op.eqFields, hn', ne_eq, not_false_eq_true, if_true, Sem.run_bind, part_agg (us := us) (hg w) (by rw [hlx]; exact hz w) (by rw [hlx]; exact hx), part_agg (us := vs) (hg w) (by rw [hly]; exact hz w) (by rw [hly]; exact hy), Result.andThen_ok, he, Sem.run_ite]
    cases b' with
    | true => simp [ih]
    | false => simp
end
end Go.Gx

namespace Go.Fw
open Go Go.Gx
section
variable {n : Nat} {ds : List Deferred} {e : EnvL} {H : World → Prop} {P : Program} {F : Fence} {Q : Exit → Act → World → Prop} {r : Option Nat} {ops : Array Oper} {rest : List Oper} {d : Nat} {v : Value} {ty : TypeId} {pos : String} {after : Array Edge}
theorem jq {ops : Array Oper} {K : Act → World → Prop} (h : G n ds e H K) : G n ds e H (wpListIn F 0 P ops (thenQ K Q) []) := jx (ja h)
theorem jr {id : Nat} {l : List Oper} {y : Code} (h : G n ds e H (wpListIn F 0 P l.toArray (thenQ (y.wpIn F 0 P Q) Q) l)) : G n ds e H ((Code.seq (Code.region id l.toArray false) y).wpIn F 0 P Q) := ji (jg h)
theorem kY {ops : Array Oper} {id : Nat} {l : List Oper} {y : Code} {Q' : Exit → Act → World → Prop} (h : G n ds e H (wpListIn F 0 P l.toArray (thenQ (y.wpIn F 0 P Q) Q) l)) : G n ds e H (wpListIn F 0 P ops (thenQ ((Code.seq (Code.region id l.toArray false) y).wpIn F 0 P Q) Q') []) := jx (ja (ji (jg h)))
theorem jh {x : Operand} (hn : Nat.blt d n = true) (hx : ev e x = some v) (h : G n ds ((d, v) :: e) H (wpListIn (fw r) 0 P ops Q rest)) : G n ds e H (wpListIn (fw r) 0 P ops Q (⟨some d, .move x, ty, pos, after, none⟩ :: rest)) := jc rfl rfl hn (fun _ _ => k9 hx) h
theorem jo {x : Operand} (hn : Nat.blt d n = true) (hx : ev e x = some v) (h : G n ds ((d, v) :: e) H (wpListIn (fw r) 0 P ops Q rest)) : G n ds e H (wpListIn (fw r) 0 P ops Q (⟨some d, .assign x, ty, pos, after, none⟩ :: rest)) := jc rfl rfl hn (fun _ _ => km hx) h
theorem zG {x : Operand} {i : Nat} {vs : Array Value} (hn : Nat.blt d n = true) (hx : ev e x = some (.tuple vs)) (hi : vs.toList[i]? = some v) (h : G n ds ((d, v) :: e) H (wpListIn (fw r) 0 P ops Q rest)) : G n ds e H (wpListIn (fw r) 0 P ops Q (⟨some d, .extract x i, ty, pos, after, none⟩ :: rest)) := jc rfl rfl hn (fun _ _ => Zd hx hi) h
theorem zu {c x y : Operand} (hn : Nat.blt d n = true) (hc : ev e c = some (.bool true)) (hx : ev e x = some v) (h : G n ds ((d, v) :: e) H (wpListIn (fw r) 0 P ops Q rest)) : G n ds e H (wpListIn (fw r) 0 P ops Q (⟨some d, .pick c x y, ty, pos, after, none⟩ :: rest)) := jc rfl rfl hn (fun _ _ => Qi hc hx) h
theorem zx {c x y : Operand} (hn : Nat.blt d n = true) (hc : ev e c = some (.bool false)) (hy : ev e y = some v) (h : G n ds ((d, v) :: e) H (wpListIn (fw r) 0 P ops Q rest)) : G n ds e H (wpListIn (fw r) 0 P ops Q (⟨some d, .pick c x y, ty, pos, after, none⟩ :: rest)) := jc rfl rfl hn (fun _ _ => J9 hc hy) h
theorem Ki {t u : TypeId} {x y : Operand} {a b c : Int} (hm : addc a b = some c) (hn : Nat.blt d n = true) (hx : ev e x = some (.int .i64 a)) (hy : ev e y = some (.int .i64 b)) (h : G n ds ((d, .int .i64 c) :: e) H (wpListIn (fw r) 0 P ops Q rest)) : G n ds e H (wpListIn (fw r) 0 P ops Q (⟨some d, .binOp .add t x y u, ty, pos, after, none⟩ :: rest)) := jc rfl rfl hn (fun _ _ => Kf hm hx hy) h
theorem Kk {t u : TypeId} {x y : Operand} {k : IntKind} {m m' : Int} (hn : Nat.blt d n = true) (hx : ev e x = some (.int k m)) (hy : ev e y = some (.int k m')) (h : G n ds ((d, .bool (decide (m < m'))) :: e) H (wpListIn (fw r) 0 P ops Q rest)) : G n ds e H (wpListIn (fw r) 0 P ops Q (⟨some d, .binOp .lss t x y u, ty, pos, after, none⟩ :: rest)) := jc rfl rfl hn (fun _ _ => jaC hx hy) h
theorem yJ {s T : TypeId} {x : Operand} {f b o sz : Nat} {fs : Array Field} (k : Nat) (hu : ∀ w, (underlying s).run P w = .ok (.struct fs) w) (hf : (fs[f]?).map (fun fd => (fd.type, fd.offset)) = some (T, k)) (hz : ∀ w, (sizeOf T).run P w = .ok (sz + 1) w) (hx : ev e x = some (ptr b o)) (hn : Nat.blt d n = true) (h : G n ds ((d, ptr b (o + k)) :: e) H (wpListIn (fw r) 0 P ops Q rest)) : G n ds e H (wpListIn (fw r) 0 P ops Q (⟨some d, .fieldAddr s x f, ty, pos, after, none⟩ :: rest)) := jc rfl rfl hn (fun w _ => jS k (hu w) hf (hz w) hx) h
end
end Go.Fw
namespace Go.Gx
open Go Go.Fw
theorem yl {n : Nat} {ds : List Deferred} {e : EnvL} {w0 : World} {M : List Nat} {S : List (Nat × Obj)} {vs : List VR} {ro : List (Nat × Nat × List Value)} {P : Program} {Q : Exit → Act → World → Prop} {r : Option Nat} {ops : Array Oper} {rest : List Oper} {d : Nat} {v : Value} {ty : TypeId} {pos : String} {after : Array Edge} {t T : TypeId} {x : Operand} {b o : Nat} {cs : Array Value} {fr : Nat × Nat} (i : Nat) (hg' : ∀ w, (isAgg t).run P w = .ok false w) (hx : ev e x = some (ptr b o)) (hn : Nat.blt d n = true) (hi : S[i]? = some (b, .cells cs T fr)) (hv : cs.toList[o]? = some v) (h : G n ds ((d, v) :: e) (HV w0 M S vs ro) (wpListIn (fw r) 0 P ops Q rest)) : G n ds e (HV w0 M S vs ro) (wpListIn (fw r) 0 P ops Q (⟨some d, .load t x, ty, pos, after, none⟩ :: rest)) := jc rfl rfl hn (fun w hh => jy (hg' w) hx (hh.cell i hi hv)) h
theorem sE {e : EnvL} : ∀ {e' : EnvL}, e'.map (fun p => lk e p.1) = e'.map (fun p => some p.2) → Sub e e'
  | [], _ => .nil
  | (t, v) :: l, h => by
    simp only [List.map_cons, List.cons.injEq] at h
    exact .cons h.1 (sE h.2)
def ndB : List Nat → Bool
  | [] => true
  | x :: l => !(l.any (Nat.beq x)) && ndB l
theorem ndB_ok : ∀ {l : List Nat}, ndB l = true → l.Nodup
  | [], _ => List.nodup_nil
  | x :: l, h => by
    unfold ndB at h
    rw [Bool.and_eq_true, Bool.not_eq_true'] at h
    refine List.nodup_cons.2 ⟨fun hx => ?_, ndB_ok h.2⟩
    rw [List.any_eq_false] at h
    exact h.1 x hx (Nat.beq_refl x)
section
variable {w0 w : World} {M : List Nat} {S S' : List (Nat × Obj)} {vs vs' : List VR} {ro ro' : List Sg}
theorem HV.se (h : HV w0 M S vs ro w) (iS iV : List Nat) (k : Nat) (hn : (ndB iS && ndB iV) = true) (hS : iS.map (fun i => S[i]?) = S'.map some) (hV : iV.map (fun i => vs[i]?) = vs'.map some) (hr : ro.drop k = ro') : HV w0 M S' vs' ro' w :=
  h.sel iS iV k (ndB_ok (Bool.and_eq_true_iff.1 hn).1) (ndB_ok (Bool.and_eq_true_iff.1 hn).2) hS hV hr
theorem ka {n : Nat} {ds : List Deferred} {e : EnvL} {X : Act → World → Prop} (iS iV : List Nat) (k : Nat) (hn : (ndB iS && ndB iV) = true) (hS : iS.map (fun i => S[i]?) = S'.map some) (hV : iV.map (fun i => vs[i]?) = vs'.map some) (hr : ro.drop k = ro') (h : G n ds e (HV w0 M S' vs' ro') X) : G n ds e (HV w0 M S vs ro) X :=
  h.pre fun _ hh => hh.se iS iV k hn hS hV hr
theorem q5 {n : Nat} {P : Program} {f : FuncId} {fn : Func} {c : Code} {args : List Value} {R : Ending → World → Prop} {e : EnvL}
    (hf : P.funcs[f]? = some fn) (hb : fn.body = some c) (hn : fn.ntmps = n) (hl : Nat.ble args.length n = true) (he : argEnv 0 args = e) (hw : HV w M S vs ro w)
    (h : G n [] e (HV w M S vs ro) (c.wpIn (fw none) 0 P (bodyPost P fn R))) : Calls P f args.toArray w R := YW hf hb hn hl he hw h
theorem g_k {n : Nat} {ds : List Deferred} {e : EnvL} {H : World → Prop} {P : Program} {Q : Exit → Act → World → Prop} {r : Option Nat} {ops : Array Oper} {rest : List Oper} {d : Nat} {op : Op} {ty : TypeId} {pos : String} {after : Array Edge} {j t : Nat} {want b : Bool} (hj : (ops[j]?).bind (·.dst) = some t) (ht : lk e t = some (.bool b)) (hb : (b == want) = false) (hn : Nat.blt d n = true)
    (h : G n ds ((d, undef) :: e) H (wpListIn (fw r) 0 P ops Q rest)) : G n ds e H (wpListIn (fw r) 0 P ops Q (⟨some d, op, ty, pos, after, some (j, want)⟩ :: rest)) := ZE rfl rfl hj ht hb hn h
end
section
variable {n : Nat} {ds : List Deferred} {e : EnvL} {w0 : World} {M : List Nat} {S : List (Nat × Obj)} {vs : List VR} {ro : List Sg} {P : Program} {Q : Exit → Act → World → Prop} {r : Option Nat} {ops : Array Oper} {rest : List Oper} {d : Nat} {v : Value} {ty : TypeId} {pos : String} {after : Array Edge} {t T : TypeId} {x : Operand} {b o : Nat} {cs : Array Value} {fr : Nat × Nat} {us : List Value}
theorem Jy (us : List Value) (i : Nat) (hg' : ∀ w, (isAgg t).run P w = .ok true w) (hz : ∀ w, (sizeOf t).run P w = .ok us.length w) (hx : ev e x = some (ptr b o)) (hn : Nat.blt d n = true) (hi : S[i]? = some (b, .cells cs T fr)) (hv : (cs.toList.drop o).take us.length = us) (h : G n ds ((d, .agg us.toArray) :: e) (HV w0 M S vs ro) (wpListIn (fw r) 0 P ops Q rest)) : G n ds e (HV w0 M S vs ro) (wpListIn (fw r) 0 P ops Q (⟨some d, .load t x, ty, pos, after, none⟩ :: rest)) := jc rfl rfl hn (fun w hh => jP (vs := us) (hg' w) (hz w) hx (hh.cells i hi hv)) h
theorem roR {w : World} {S0 : List (Nat × Obj)} {vs0 : List VR} {s : Sg} {ro' : List Sg} (h : HV w0 M (S0 ++ S) (vs0 ++ vs) ro w) (i : Nat) (hi : ro[i]? = some s) (hr : ∀ t, t ∈ ro' → segOK w t ∧ (t.2.2 ≠ [] → t.1 ∉ keys S0 vs0)) : ∀ t, t ∈ s :: ro' → segOK w t ∧ (t.2.2 ≠ [] → t.1 ∉ keys S0 vs0) := roC (h.rsep i hi) hr
end
theorem hsE {w0 : World} {M : List Nat} {S S' : List (Nat × Obj)} {vs vs' : List VR} {ro ro' : List Sg} (iS iV : List Nat) (k : Nat) (hn : (ndB iS && ndB iV) = true) (hS : iS.map (fun i => S[i]?) = S'.map some) (hV : iV.map (fun i => vs[i]?) = vs'.map some) (hr : ro.drop k = ro') : ∀ w, HV w0 M S vs ro w → HV w0 M S' vs' ro' w := fun _ h => h.se iS iV k hn hS hV hr
section
variable {n : Nat} {ds : List Deferred} {e : EnvL} {P : Program} {r : Option Nat} {ops : Array Oper} {C : World → Prop} {X : Act → World → Prop} {i d : Nat} {p : Plan} {v : Value} {ty : TypeId} {pos : String} {after : Array Edge} {H : World → Prop}
theorem za {x : Operand} (ho : ops[i]? = some ⟨some d, .move x, ty, pos, after, none⟩) (hn : Nat.blt d n = true) (hx : ev e x = some v) (h : G n ds ((d, v) :: e) H (walk r P ops C X p)) : G n ds e H (walk r P ops C X (.free i p)) := jp ho rfl rfl hn (fun _ _ => k9 hx) h
theorem KH {s T : TypeId} {x : Operand} {f b o sz : Nat} {fs : Array Field} (k : Nat) (hu : ∀ w, (underlying s).run P w = .ok (.struct fs) w) (hz : ∀ w, (sizeOf T).run P w = .ok (sz + 1) w) (ho : ops[i]? = some ⟨some d, .fieldAddr s x f, ty, pos, after, none⟩) (hf : (fs[f]?).map (fun fd => (fd.type, fd.offset)) = some (T, k)) (hn : Nat.blt d n = true) (hx : ev e x = some (ptr b o)) (h : G n ds ((d, ptr b (o + k)) :: e) H (walk r P ops C X p)) : G n ds e H (walk r P ops C X (.free i p)) := jp ho rfl rfl hn (fun w _ => jS k (hu w) hf (hz w) hx) h
theorem K2 {w0 : World} {M : List Nat} {S : List (Nat × Obj)} {vs : List VR} {ro : List Sg} {t T : TypeId} {x : Operand} {b o : Nat} {cs : Array Value} {fr : Nat × Nat} (j : Nat) (hg' : ∀ w, (isAgg t).run P w = .ok false w) (ho : ops[i]? = some ⟨some d, .load t x, ty, pos, after, none⟩) (hx : ev e x = some (ptr b o)) (hn : Nat.blt d n = true) (hi : S[j]? = some (b, .cells cs T fr)) (hv : cs.toList[o]? = some v) (h : G n ds ((d, v) :: e) H (walk r P ops (HV w0 M S vs ro) X p)) : G n ds e H (walk r P ops (HV w0 M S vs ro) X (.hoist i p)) := jz ho rfl rfl hn (fun w hh => jy (hg' w) hx (hh.cell j hi hv)) h
end
theorem sj {α : Type} {a b : α} (h : some a = some b) : a = b := Option.some.inj h
theorem ifN {α : Type} {x : Bool} {a b r : α} (hx : x = false) (h : (if x = true then a else b) = r) : b = r := ifF (fun hh => Bool.noConfusion (hx.symm.trans hh)) h
theorem ifE {α : Type} {c : Prop} [Decidable c] {a b r : α} (hc : decide c = false) (h : (if c then a else b) = r) : b = r := ifF (of_decide_eq_false hc) h
theorem ifD {α : Type} {c : Prop} [Decidable c] {a b r : α} (hc : decide c = true) (h : (if c then a else b) = r) : a = r := ifT (of_decide_eq_true hc) h
end Go.Gx

namespace Go.Gx
open Go Go.Fw
section
variable {n : Nat} {ds : List Deferred} {e : EnvL} {w0 : World} {M : List Nat} {S : List (Nat × Obj)} {vs : List VR} {ro : List (Nat × Nat × List Value)} {P : Program} {Q : Exit → Act → World → Prop} {r : Option Nat} {ops : Array Oper} {rest : List Oper}
theorem zero_rep {α : Type} {R : Row α} {z : Value} {z0 : α} (h : z.cells.toList = R.cells z0) (k : Nat) : (Builtin.zeroCells z.cells k).toList = R.enc (List.replicate k z0) := by
  have hs : z.cells.size = R.sz := by rw [← Array.length_toList, h, R.len]
  have e : (Builtin.zeroCells z.cells k).toList = (madeCells z.cells (k * R.sz)).toList := by
    unfold Builtin.zeroCells madeCells
    rw [hs]
  rw [e, made_get hs, h, ← enc_rep]
end
end Go.Gx

namespace Go.Gx
open Go Go.Fw
theorem Y {α : Sort _} {a : α} : a = a := rfl
abbrev kc (b : Nat) (cs : Array Value) (T : TypeId) : Nat × Obj := (b, .cells cs T (0, 0))
end Go.Gx

namespace Go.Gx
open Go Go.Fw
def set3 (a b c i v : Int) : Int × Int × Int := if i = 0 then (v, b, c) else if i = 1 then (a, v, c) else (a, b, v)
theorem set3_list {a b c i v x : Int} (h : ix [a, b, c] i = some x) (f : Int → Value) (pre post : List Value) {o : Nat} (hp : pre.length = o) :
    (pre ++ (f a :: f b :: f c :: post)).set (o + i.toNat) (f v) = pre ++ (f (set3 a b c i v).1 :: f (set3 a b c i v).2.1 :: f (set3 a b c i v).2.2 :: post) := by
  obtain ⟨h0, h1, _⟩ := ixO h
  simp only [List.length_cons, List.length_nil] at h1
  have hc : i = 0 ∨ i = 1 ∨ i = 2 := by omega
  rw [List.set_append_right _ _ (by omega), ← hp, Nat.add_sub_cancel_left]
  rcases hc with rfl | rfl | rfl <;> rfl
section ops
variable {n : Nat} {ds : List Deferred} {e : EnvL} {P : Program} {r : Option Nat} {Q : Exit → Act → World → Prop} {ops : Array Oper} {w0 : World} {M : List Nat} {S : List (Nat × Obj)} {vs : List VR} {ro : List Sg} {rest : List Oper}
theorem jaq (i : Nat) (pre post : List Value) {t : TypeId} {x y : Operand} {b at_ : Nat} {T : TypeId} {a1 a2 a3 j v x0 : Int} {u : Int × Int × Int} {cs cs' : Array Value} {S' : List (Nat × Obj)} {ty : TypeId} {pos : String} {after : Array Edge}
    (hz : ∀ w, (sizeOf t).run P w = .ok 1 w) (hx : ev e x = some (ptr b at_)) (hy : ev e y = some (.int .i64 v)) (hi : S[i]? = some (b, .cells cs T (0, 0))) (hj : ix [a1, a2, a3] j = some x0) (hc : cs.toList = pre ++ (.int .i64 a1 :: .int .i64 a2 :: .int .i64 a3 :: post)) (ha : at_ = pre.length + j.toNat)
    (hu : set3 a1 a2 a3 j v = u) (hc' : cs'.toList = pre ++ (.int .i64 u.1 :: .int .i64 u.2.1 :: .int .i64 u.2.2 :: post)) (hS : S.set i (b, .cells cs' T (0, 0)) = S')
    (h : G n ds e (HV w0 M S' vs ro) (wpListIn (fw r) 0 P ops Q rest)) :
    G n ds e (HV w0 M S vs ro) (wpListIn (fw r) 0 P ops Q (⟨none, .store t x y, ty, pos, after, none⟩ :: rest)) := by
  subst hu ha
  have h1 := set3_list hj (fun z => Value.int .i64 z) pre post (v := v) rfl
  obtain ⟨j0, j1, _⟩ := ixO hj
  simp only [List.length_cons, List.length_nil] at j1
  refine q6 (cs' := cs') i hz hx hy rfl hi ?_ ?_ hS h
  · rw [← Array.length_toList, hc]; simp; omega
  · apply Array.toList_inj.1
    rw [Array.toList_setIfInBounds, hc, hc']
    exact h1
end ops
end Go.Gx

namespace Go.Gx
open Go Go.Fw
section
variable {P : Program} {e : EnvL} {w : World} {dst : Option Nat} {ty : TypeId} {pos : String} {after : Array Edge} {g : Option (Nat × Bool)}
theorem jbg {t E : TypeId} {x hi : Operand} {b o len sz : Nat} {k : IntKind} {i : Int} (hu : (underlying t).run P w = .ok (.array len E) w) (hz : (sizeOf E).run P w = .ok sz w)
    (hx : ev e x = some (ptr b o)) (hhi : ev e hi = some (.int k i)) (h : 0 ≤ i ∧ i ≤ (len : Int)) (hl : Nat.blt 0 len = true) : Val P e w ⟨dst, .slice t x none (some hi) none, ty, pos, after, g⟩ (slv (some (b, o)) i.toNat len) := fun n ds a he => by
  have key : (Instr.sliceBounds false len len none (some (.int k i)) none).run P w = .ok (0, i.toNat, len) w := by
    have h2 : i ≤ (len : Int) := h.2
    simp [Instr.sliceBounds, Instr.sliceBound, asIntOf, h.1, h2]
  have hl' : ¬ len = 0 := by simp at hl; omega
  simp [execOp, he.eval hx, he.eval hhi, Instr.sliceAt, hu, Instr.sureAddr, key, hz, slv, hl', addr_add]
end
theorem asub {α : Type} (R : Row α) {w : World} {b : Nat} {K : List Nat} {xs : List Value} (o : Nat) (l : List α) (h : segOK w (b, 0, xs) ∧ (xs ≠ [] → b ∉ K)) (hx : (xs.drop o).take (R.enc l).length = R.enc l) (hne : xs.isEmpty = false) : segOK w (b, o, R.enc l) ∧ (R.enc l ≠ [] → b ∉ K) := by
  refine ⟨fun j hj => ?_, fun _ => h.2 (by intro h0; simp [h0] at hne)⟩
  have := segCells h.1 o (us := R.enc l) hx j hj
  exact this
end Go.Gx

namespace Go.Sb
structure Span where
  lo : Int
  hi : Int
  deriving DecidableEq, Inhabited
structure Sand where
  span : Span
  reach : Int
  deriving DecidableEq, Inhabited
structure Sight where
  after : Int
  cell : Int
  upright : Bool
  deriving DecidableEq, Inhabited
structure Channel where
  cells : Int
  tides : Int
  fords : List Int
  sands : List Sand
  sights : List Sight
  deriving DecidableEq, Inhabited
structure Cells where
  c0 : Int
  c1 : Int
  c2 : Int
  deriving DecidableEq, Inhabited
structure State where
  after : Int
  at_ : Cells
  deriving DecidableEq, Inhabited
end Go.Sb

namespace Go.Proofs.Wb
open Go Go.Fw Go.Gx Go.Sb
def RSp : Row Span := ⟨2, fun x => [.int .i64 x.lo, .int .i64 x.hi], fun _ => rfl, fun _ => rfl⟩
def RSa : Row Sand := ⟨3, fun x => [.int .i64 x.span.lo, .int .i64 x.span.hi, .int .i64 x.reach], fun _ => rfl, fun _ => rfl⟩
def RSi : Row Sight := ⟨3, fun x => [.int .i64 x.after, .int .i64 x.cell, .bool x.upright], fun _ => rfl, fun _ => rfl⟩
def RSta : Row State := ⟨4, fun x => [.int .i64 x.after, .int .i64 x.at_.c0, .int .i64 x.at_.c1, .int .i64 x.at_.c2], fun _ => rfl, fun _ => rfl⟩
end Go.Proofs.Wb

