/- What the functions that the law StripMirrored reaches come to, and why it holds: part 2. -/
import Derived.Test.YtnkphlgohnlooaaStripMirrored1
namespace Go.Gx
open Go Go.Fw
section
variable {P : Program}
theorem run_copy_rows (w : World) (dT sT ty elem : TypeId) (g dLen dCap : Nat) (a : Addr) (sLen sCap k n : Nat) (cur : Array Value) (t : TypeId) (cs : List Value)
    (hu : P.underlying dT = some (.slice elem)) (hs : (P.info? elem).map (·.size) = some k) (hg : w.heap[g]? = some (.cells cur t (0, 0))) (hn : n = Nat.min sLen dLen) (hc : cs.length = n * k)
    (hsrc : ∀ j v, cs[j]? = some v → w.cell? (a.add j) = some v) (hfit : cs.length ≤ cur.size) (h1 : ∀ v ∈ cs, v.oneCell' = true) :
    (Builtin.copy_ #[dT, sT] ty #[.slice (some ⟨g, 0, none⟩) dLen dCap, .slice (some a) sLen sCap]).run P w = .ok (goInt n) (w.setRow g (cs ++ cur.toList.drop cs.length).toArray) := by
  have hl := run_loadCells_list (P := P) w a cs hsrc
  have hst := run_storeCells_at P g 0 t cs 0 cur w hg (by simpa using hfit) h1
  simp only [Nat.zero_add, List.take_zero, List.nil_append] at hst
  cases hq : P.info? elem with
  | none => simp [hq] at hs
  | some i =>
    have hi : i.size = k := by simpa [hq] using hs
    simp [Builtin.copy_, run_underlying hu, Builtin.lenOf, Builtin.firstCells, sizeOf, typeInfo, hq, hi, ← hn, ← hc, hl, hst]
theorem run_copy_zero (w : World) (dT sT ty elem : TypeId) (d a : Option Addr) (dLen dCap sLen sCap k : Nat) (hu : P.underlying dT = some (.slice elem)) (hs : (P.info? elem).map (·.size) = some k) (hn : Nat.min sLen dLen = 0) :
    (Builtin.copy_ #[dT, sT] ty #[.slice d dLen dCap, .slice a sLen sCap]).run P w = .ok (goInt 0) w := by
  cases hq : P.info? elem with
  | none => simp [hq] at hs
  | some i =>
    have hi : i.size = k := by simpa [hq] using hs
    have hl : ∀ a : Addr, (loadCells a 0).run P w = .ok #[] w := fun a => by simp [loadCells, loadCellsFrom]
    cases d <;> cases a <;> simp [Builtin.copy_, run_underlying hu, Builtin.lenOf, Builtin.firstCells, sizeOf, typeInfo, hq, hi, hn, hl, storeCells]
end
section
variable {n : Nat} {ds : List Deferred} {e : EnvL} {P : Program} {r : Option Nat} {Q : Exit → Act → World → Prop} {ops : Array Oper} {w0 : World} {M : List Nat} {S : List (Nat × Obj)} {vs : List VR} {ro : List Sg} {rest : List Oper}
theorem ZT {α : Type} (R : Row α) (i : Nat) {d : Nat} {t ty E : TypeId} {x y : Operand} {sz ln cap : Nat} {l m lm : List α} {sp : List Value} {q : Option (Nat × Nat)} {q2 : Option Addr} {n2 c2 : Nat} {mo : List (Nat × Obj)} {pos : String} {after : Array Edge}
    (hu : P.underlying t = some (.slice E)) (hs : (P.info? E).map (·.size) = some sz) (hsz : sz = R.sz) (hs0 : Nat.blt 0 R.sz = true) (hx : ev e x = some (slv q ln cap)) (hy : ev e y = some (.slice q2 n2 c2)) (hvi : vs[i]? = some ⟨E, R.enc l, sp, q, mo⟩) (hv : VOK sz ln cap (R.enc l) sp q)
    (hm : m.length = n2) (hq2 : AOK n2 q2) (hsrc : ∀ w, HV w0 M S vs ro w → segOK w (aB q2, aO q2, R.enc m)) (hle : m.length ≤ l.length) (hlm : m ++ l.drop m.length = lm) (hn : Nat.blt d n = true)
    (h : VOK sz ln cap (R.enc lm) sp q → G n ds ((d, .int .i64 (m.length : Int)) :: e) (HV w0 M S (vs.set i ⟨E, R.enc lm, sp, q, mo⟩) ro) (wpListIn (fw r) 0 P ops Q rest)) :
    G n ds e (HV w0 M S vs ro) (wpListIn (fw r) 0 P ops Q (⟨some d, .call ⟨.builtin .copy, #[x, y], #[t, t]⟩, ty, pos, after, none⟩ :: rest)) := fun a w he hh => by
  subst hsz hm
  have hln := vlen R hv hs0
  have hlen2 : lm.length = l.length := by rw [← hlm]; simp; omega
  have hv' : VOK R.sz ln cap (R.enc lm) sp q := by
    have e1 : (R.enc lm).length = (R.enc l).length := by rw [R.enc_len, R.enc_len, hlen2]
    exact ⟨by rw [e1]; exact hv.hlen, by rw [List.length_append, e1, ← List.length_append]; exact hv.hcap, hv.hle, hv.hmax, (fun hn' => by
      have := hv.hnone hn'
      refine ⟨this.1, ?_⟩
      exact this.2), hv.hoff⟩
  by_cases h0 : m = []
  · subst h0
    have e1 : lm = l := by rw [← hlm]; simp
    subst e1
    have hrun := run_copy_zero (P := P) w t t ty E (q.map fun p => ⟨p.1, p.2, none⟩) q2 ln cap 0 c2 R.sz hu hs (by exact Nat.zero_min ln)
    refine wpListIn_value (wanted_none rfl _) (v := .int .i64 0) (w' := w) (by
      have hx' : a.eval x = .slice (q.map fun p => ⟨p.1, p.2, none⟩) ln cap := he.eval hx
      have hy' : a.eval y = .slice q2 0 c2 := he.eval hy
      simp only [execOp, resolve]
      simp [invoke, builtin, hx', hy', hrun, goInt]) ?_
    refine h hv _ _ (he.put hn _) ?_
    have : vs.set i ⟨E, R.enc lm, sp, q, mo⟩ = vs := by
      apply List.ext_getElem?
      intro j
      rw [List.getElem?_set]
      split
      · rename_i hj; subst hj; split
        · exact hvi.symm
        · rename_i hlt; rw [List.getElem?_eq_none (by omega)]
      · rfl
    rw [this]
    exact hh
  · have hm0 : 0 < m.length := List.length_pos_iff.2 h0
    obtain ⟨b2, o2, rfl⟩ := hq2 hm0
    cases q with
    | none => have := (hv.hnone rfl).1; omega
    | some p =>
      have hoff := hv.hoff p rfl
      have hbk : w.heap[p.1]? = some (.cells (R.enc l ++ sp).toArray E (0, 0)) := hh.hs.ownOK (p.1, _) (HV.vmem i hvi _ (by simp [VR.bl, vown]))
      have hx' : a.eval x = .slice (some ⟨p.1, 0, none⟩) ln cap := by rw [he.eval hx]; simp [slv, hoff]
      have hy' : a.eval y = .slice (some ⟨b2, o2, none⟩) m.length c2 := he.eval hy
      have hsr : ∀ j v, (R.enc m)[j]? = some v → w.cell? ((⟨b2, o2, none⟩ : Addr).add j) = some v := fun j v hj => by
        rw [addr_add]
        exact segOK.at (hsrc w hh) hj
      have hrun := run_copy_rows (P := P) w t t ty E p.1 ln cap ⟨b2, o2, none⟩ m.length c2 R.sz m.length (R.enc l ++ sp).toArray E (R.enc m) hu hs hbk (by rw [← hln]; exact (Nat.min_eq_left hle).symm) (R.enc_len m) hsr (by
        have : m.length * R.sz ≤ l.length * R.sz := Nat.mul_le_mul_right _ hle
        simp [R.enc_len]; omega) (R.enc_one m)
      have hcs : (R.enc m ++ (R.enc l ++ sp).toArray.toList.drop (R.enc m).length).toArray = (R.enc lm ++ sp).toArray := by
        congr 1
        have h2 : l.take m.length ++ l.drop m.length = l := List.take_append_drop _ _
        have h3 : (R.enc (l.take m.length)).length = (R.enc m).length := by rw [R.enc_len, R.enc_len]; congr 1; simp; omega
        have h4 : R.enc l = R.enc (l.take m.length) ++ R.enc (l.drop m.length) := by rw [← R.enc_append, h2]
        show R.enc m ++ (R.enc l ++ sp).drop (R.enc m).length = R.enc lm ++ sp
        rw [← hlm, R.enc_append, List.append_assoc]
        congr 1
        rw [h4, List.append_assoc, ← h3, List.drop_left]
      rw [hcs] at hrun
      refine wpListIn_value (wanted_none rfl _) (v := .int .i64 m.length) (w' := w.setRow p.1 (R.enc lm ++ sp).toArray) (by simp only [execOp, resolve]; simp [invoke, builtin, hx', hy', hrun, goInt]) ?_
      refine h hv' _ _ (he.put hn _) (hh.vupd i hvi Ext.setRow (setRow_heap w p.1 _ _ E (0, 0) hbk))
end
section
variable {P : Program} {e : EnvL} {w : World} {dst : Option Tmp} {ty : TypeId} {pos : String} {after : Array Edge} {g : Option (Nat × Bool)}
theorem run_eqPtr {t E : TypeId} {a : Option Addr} (hu : (underlying t).run P w = .ok (.pointer E) w) : (Op.equal t (.pointer a) (.pointer none)).run P w = .ok a.isNone w := by
  unfold Op.equal
  rw [show Op.maxDepth = 9999 + 1 from rfl, Op.equalIn]
  simp only [Sem.run_bind, hu, Result.andThen_ok]
  cases a <;> rfl
theorem Jz {t u E : TypeId} {x y : Operand} {a : Option Addr} (hu : (underlying t).run P w = .ok (.pointer E) w) (hx : ev e x = some (.pointer a)) (hy : ev e y = some (.pointer none)) :
    Val P e w ⟨dst, .binOp .eql t x y u, ty, pos, after, g⟩ (.bool a.isNone) := fun n ds ac he => by
  have h1 : (eqGuard .eql t x y (.pointer a) (.pointer none)).run P w = .ok () w := by cases a <;> rfl
  have h2 : (binOp .eql t (.pointer a) (.pointer none)).run P w = .ok (.bool a.isNone) w := by
    simp only [binOp, Sem.run_bind, run_eqPtr hu, Result.andThen_ok, Sem.run_pure]
  simp only [execOp, he.eval hx, he.eval hy, Sem.run_bind, h1, Result.andThen_ok, h2, Sem.run_pure]
theorem YQ {t u E : TypeId} {x y : Operand} {a : Option Addr} (hu : (underlying t).run P w = .ok (.pointer E) w) (hx : ev e x = some (.pointer a)) (hy : ev e y = some (.pointer none)) :
    Val P e w ⟨dst, .binOp .neq t x y u, ty, pos, after, g⟩ (.bool (!a.isNone)) := fun n ds ac he => by
  have h1 : (eqGuard .neq t x y (.pointer a) (.pointer none)).run P w = .ok () w := by cases a <;> rfl
  have h2 : (binOp .neq t (.pointer a) (.pointer none)).run P w = .ok (.bool (!a.isNone)) w := by
    simp only [binOp, Sem.run_bind, run_eqPtr hu, Result.andThen_ok, Sem.run_pure]
  simp only [execOp, he.eval hx, he.eval hy, Sem.run_bind, h1, Result.andThen_ok, h2, Sem.run_pure]
end
end Go.Gx

namespace Go.Gx
open Go Go.Fw
structure ClOK (P : Program) (f : FuncId) (fs cs : Array Value) (T : List Sg) {α β : Type} (ea : α → List Value) (er : β → Value) (cf : α → Option β) : Prop where
  call : ∀ args w, (callFunc f args).run P w = .ok (.enter f args) w
  ok : ∀ x r, cf x = some r → ∀ w, (∀ t, t ∈ T → segOK w t) → Ret P f (fs.toList ++ ea x ++ cs.toList) w (er r)
theorem HVstart {w : World} {ro : List Sg} (h : ∀ s, s ∈ ro → segOK w s) : HV w (keys [] []) [] [] ro w := HS.start w [] ro h
theorem clRet {P : Program} {f : FuncId} {args : List Value} {w : World} {v : Value} (h : Calls P f args.toArray w (fun en w' => ∃ _ : Unit, en = .returned v ∧ True ∧ HV w (keys [] []) [] [] [] w')) : Ret P f args w v :=
  Calls.mono h fun _ _ hr => ⟨hr.choose_spec.1, HS.toExt hr.choose_spec.2.2⟩
theorem HV.selN {w0 w : World} {M : List Nat} {S S' : List (Nat × Obj)} {vs vs' : List VR} {ro : List Sg} (h : HV w0 M S vs ro w) (iS iV : List Nat) (hn : iS.Nodup) (hm : iV.Nodup) (hS : iS.map (fun i => S[i]?) = S'.map some) (hV : iV.map (fun i => vs[i]?) = vs'.map some) : HV w0 M S' vs' [] w :=
  h.sel iS iV ro.length hn hm hS hV (List.drop_length)
section
variable {n : Nat} {ds : List Deferred} {e : EnvL} {P : Program} {r : Option Nat} {Q : Exit → Act → World → Prop} {ops : Array Oper} {w0 : World} {M : List Nat} {S : List (Nat × Obj)} {vs : List VR} {ro : List Sg}
theorem Q5 {α β : Type} {ea : α → List Value} {er : β → Value} {cf : α → Option β} {f : FuncId} {fs cs : Array Value} {T : List Sg} (hc : ClOK P f fs cs T ea er cf) (hT : ∀ t, t ∈ T → t ∈ ro) {y : α} {z : β} (hy : cf y = some z)
    {o : Oper} {rest : List Oper} {d : Nat} {x : Operand} {xs : List Operand} {ts : Array TypeId}
    (ho : o.op = .call ⟨.value x, xs.toArray, ts⟩) (hd : o.dst = some d) (hg : o.guard = none) (hn : Nat.blt d n = true)
    (hx : ev e x = some (.func (.func f) fs cs)) (hxs : evs e xs = some (ea y))
    (h : G n ds ((d, er z) :: e) (HV w0 M S vs ro) (wpListIn (fw r) 0 P ops Q rest)) : G n ds e (HV w0 M S vs ro) (wpListIn (fw r) 0 P ops Q (o :: rest)) := by
  exact Z0 ho hd hg hn hx hxs rfl hc.call (fun w hh => hc.ok y z hy w (fun t ht => HV.segm (show HV w0 M S vs ro w from hh) (hT t ht))) h
end
end Go.Gx

namespace Go.Gx
open Go Go.Fw
section
variable {n : Nat} {ds : List Deferred} {e : EnvL} {P : Program} {r : Option Nat} {Q : Exit → Act → World → Prop} {ops : Array Oper} {w0 : World} {M : List Nat} {S : List (Nat × Obj)} {vs : List VR} {ro : List Sg} {rest : List Oper}
theorem Row.part {α : Type} (R : Row α) (l : List α) (j f : Nat) (x0 x1 : α) (us sp : List Value) (hx : l[j]? = some x0) (hf : f + us.length ≤ R.sz) (hset : (R.cells x0).take f ++ us ++ (R.cells x0).drop (f + us.length) = R.cells x1) :
    (R.enc l ++ sp).take (j * R.sz + f) ++ us ++ (R.enc l ++ sp).drop (j * R.sz + f + us.length) = R.enc (l.set j x1) ++ sp := by
  have hjl : j < l.length := (List.getElem?_eq_some_iff.1 hx).1
  have e0 := R.enc_set l j x0 x0 hx
  have e1 := R.enc_set l j x0 x1 hx
  have es : l.set j x0 = l := by
    apply List.ext_getElem?
    intro k
    rw [List.getElem?_set]
    split
    · rename_i hk; subst hk; simp [hjl]; exact (List.getElem?_eq_some_iff.1 hx).2.symm
    · rfl
  rw [es] at e0
  have hle : (j + 1) * R.sz ≤ l.length * R.sz := Nat.mul_le_mul_right _ hjl
  rw [Nat.add_mul, Nat.one_mul] at hle
  have hA : ((R.enc l).take (j * R.sz)).length = j * R.sz := by rw [List.length_take, R.enc_len]; omega
  have hC : (R.cells x0).length = R.sz := R.len x0
  generalize hAd : (R.enc l).take (j * R.sz) = A at e0 e1 hA
  generalize (R.enc l).drop (j * R.sz + R.sz) = D at e0 e1
  rw [← e0, ← e1, ← hset]
  have t1 : (A ++ R.cells x0 ++ D ++ sp).take (j * R.sz + f) = A ++ (R.cells x0).take f := by
    rw [List.append_assoc, List.append_assoc, List.take_append, hA, List.take_of_length_le (by omega), show j * R.sz + f - j * R.sz = f by omega, List.take_append_of_le_length (by omega)]
  have t2 : (A ++ R.cells x0 ++ D ++ sp).drop (j * R.sz + f + us.length) = (R.cells x0).drop (f + us.length) ++ D ++ sp := by
    rw [List.append_assoc, List.append_assoc, List.drop_append, hA, List.drop_eq_nil_of_le (by omega), List.nil_append, show j * R.sz + f + us.length - j * R.sz = f + us.length by omega, List.drop_append_of_le_length (by omega), List.append_assoc]
  rw [t1, t2]
  simp only [List.append_assoc]
theorem Zh {α : Type} (R : Row α) (i f : Nat) (x1 : α) {t : TypeId} {x y : Operand} {b a : Nat} {E : TypeId} {sz ln cap : Nat} {l l' : List α} {j : Int} {x0 : α} {us : Array Value} {sp : List Value} {q : Option (Nat × Nat)} {ty : TypeId} {pos : String} {after : Array Edge}
    (hz : ∀ w, (sizeOf t).run P w = .ok us.size w) (hx : ev e x = some (ptr b a)) (hy : ev e y = some (.agg us)) {mo : List (Nat × Obj)} (hvi : vs[i]? = some ⟨E, R.enc l, sp, q, mo⟩) (hv : VOK sz ln cap (R.enc l) sp q)
    (hb : b = bk q) (ha : a = off q + j.toNat * sz + f) (hsz : sz = R.sz) (hs0 : Nat.blt 0 R.sz = true) (hf : Nat.ble (f + us.toList.length) R.sz = true) (h1 : ones us.toList = true) (hj : ix l j = some x0) (hset : (R.cells x0).take f ++ us.toList ++ (R.cells x0).drop (f + us.toList.length) = R.cells x1) (hl' : l.set j.toNat x1 = l')
    (h : VOK sz ln cap (R.enc l') sp q → G n ds e (HV w0 M S (vs.set i ⟨E, R.enc l', sp, q, mo⟩) ro) (wpListIn (fw r) 0 P ops Q rest)) :
    G n ds e (HV w0 M S vs ro) (wpListIn (fw r) 0 P ops Q (⟨none, .store t x y, ty, pos, after, none⟩ :: rest)) := fun ac w he hh => by
  subst hsz hl'
  obtain ⟨hj0, hjl, hjx⟩ := ixO hj
  have hf' : f + us.toList.length ≤ R.sz := by simpa using hf
  cases q with
  | none =>
    have h1 := (hv.hnone rfl).1
    have h2 := hv.hlen
    rw [R.enc_len, h1, Nat.zero_mul] at h2
    have h3 : 0 < l.length * R.sz := Nat.mul_pos (by omega) (by simpa using hs0)
    omega
  | some p =>
    have hoff := hv.hoff p rfl
    have hbk : w.heap[p.1]? = some (.cells (R.enc l ++ sp).toArray E (0, 0)) := hh.hs.ownOK (p.1, _) (HV.vmem i hvi _ (by simp [VR.bl, vown]))
    simp only [bk, off, Option.getD_some, hoff, Nat.zero_add] at hb ha
    subst hb ha
    have hle : j.toNat * R.sz + R.sz ≤ (R.enc l).length := by
      rw [R.enc_len]
      have : (j.toNat + 1) * R.sz ≤ l.length * R.sz := Nat.mul_le_mul_right _ hjl
      rw [Nat.add_mul] at this
      omega
    have hst := run_storeCells_at P p.1 (j.toNat * R.sz + f) E us.toList 0 (R.enc l ++ sp).toArray w hbk (by simp only [List.size_toArray, List.length_append]; omega) (fun v hv => ones_all h1 v hv)
    have hcs : (R.enc l ++ sp).toArray.toList.take (j.toNat * R.sz + f + 0) ++ us.toList ++ (R.enc l ++ sp).toArray.toList.drop (j.toNat * R.sz + f + 0 + us.toList.length) = R.enc (l.set j.toNat x1) ++ sp := Row.part R l j.toNat f x0 x1 us.toList sp hjx hf' hset
    rw [hcs] at hst
    have hs : (storeVar t ⟨p.1, j.toNat * R.sz + f, none⟩ (.agg us)).run P w = .ok () (w.setRow p.1 (R.enc (l.set j.toNat x1) ++ sp).toArray) := by
      simp [storeVar, hz, Value.cells, hst]
    refine wpListIn_skipped (w' := w.setRow p.1 (R.enc (l.set j.toNat x1) ++ sp).toArray) (by simp) (wanted_none rfl _) (by simp [execOp, he.eval hx, he.eval hy, Instr.storeAt, Instr.sureAddr, hs]) ?_
    have hlen : (R.enc (l.set j.toNat x1)).length = (R.enc l).length := by rw [R.enc_len, R.enc_len, List.length_set]
    refine h ⟨by rw [hlen]; exact hv.hlen, by rw [List.length_append, hlen, ← List.length_append]; exact hv.hcap, hv.hle, hv.hmax, (fun hn => by cases hn), hv.hoff⟩ ac _ he (hh.vupd i hvi Ext.setRow (setRow_heap w p.1 _ _ E (0, 0) hbk))
end
end Go.Gx

namespace Go.Proofs.Ws
open Go Go.Fw Go.Gx Go.Sp
set_option maxRecDepth 100000 in
theorem jai : Try.prog.stoodInHeld 128 = false := by decide +kernel
set_option maxRecDepth 100000 in
theorem jao (x y : Pair) (w : World) : (Op.equalIn 10000 128 (.agg (RPr.cells x).toArray) (.agg (RPr.cells y).toArray)).run Try.prog w = .ok (decide (x = y)) w := by
  have h := equal_struct (xs := (RPr.cells x).toArray) (ys := (RPr.cells y).toArray) Try.underlying128 jai (.int rfl (fun w => Try.isAgg3 w) ⟨_, Try.underlying3⟩ rfl rfl (.int rfl (fun w => Try.isAgg3 w) ⟨_, Try.underlying3⟩ rfl rfl .nil)) w
  rw [h]
  congr 1
  cases x; cases y
  rw [Bool.eq_iff_iff]
  simp only [Bool.and_eq_true, decide_eq_true_eq, Pair.mk.injEq, and_true]
theorem jad : KeyOK Try.prog 128 (kR RPr) := KeyOK.row RPr (fun w => Try.runUnderlying128 w) (fun x => (.int (fun w => Try.isAgg3 w) (fun w => Try.runUnderlying3 w) rfl (.int (fun w => Try.isAgg3 w) (fun w => Try.runUnderlying3 w) rfl .nil))) jao (fun x => by cases x; simp [RPr, Instr.sameBits])
def reachL (n : Nat) (mp : List (Pair × Bool)) (t : Int) : List Int := ((List.range n).map fun k : Nat => (k : Int)).filter fun k => (aget mp ⟨t, k⟩).getD false
structure RdReach (b2 b3 bd bm : Nat) (t : Int) (q : Option Addr) (n c : Nat) (mp : List (Pair × Bool)) (w : World) : Prop where
  c2 : w.cell? ⟨b2, 0, none⟩ = some (ptr bd 0)
  c3 : w.cell? ⟨b3, 0, none⟩ = some (.int .i64 t)
  st : w.cell? ⟨bd, 0, none⟩ = some (.slice q n c)
  mc : w.cell? ⟨bd, 2, none⟩ = some (.map (some bm))
  mo : w.heap[bm]? = some (gobj (kR RPr) kB mp)
def rIdx (mp : List (Pair × Bool)) (t : Int) (k : Nat) : Nat := (reachL k mp t).length
theorem reachL_succ {mp : List (Pair × Bool)} {t : Int} {k : Nat} : reachL (k + 1) mp t = if (aget mp ⟨t, (k : Int)⟩).getD false = true then reachL k mp t ++ [(k : Int)] else reachL k mp t := by
  unfold reachL
  rw [List.range_succ, List.map_append, List.filter_append]
  simp only [List.map_cons, List.map_nil, List.filter_cons, List.filter_nil]
  split <;> simp_all
theorem reachL_pre {mp : List (Pair × Bool)} {t : Int} {k n : Nat} (h : k ≤ n) : ∃ r, reachL n mp t = reachL k mp t ++ r := by
  induction n with
  | zero => obtain rfl : k = 0 := by omega
            exact ⟨[], by simp⟩
  | succ n ih =>
    by_cases hk : k = n + 1
    · subst hk; exact ⟨[], by simp⟩
    · obtain ⟨r, hr⟩ := ih (by omega)
      rw [reachL_succ]
      split
      · exact ⟨r ++ [(n : Int)], by rw [hr, List.append_assoc]⟩
      · exact ⟨r, hr⟩
theorem reach_at {mp : List (Pair × Bool)} {t : Int} {k n : Nat} (h : k < n) (hr : (aget mp ⟨t, (k : Int)⟩).getD false = true) : ((reachL n mp t).map (fun k => Value.int .i64 k))[rIdx mp t k]? = some (.int .i64 (k : Int)) ∧ rIdx mp t (k + 1) = rIdx mp t k + 1 := by
  obtain ⟨r, h1⟩ := reachL_pre (mp := mp) (t := t) (show k + 1 ≤ n by omega)
  have h2 := reachL_succ (mp := mp) (t := t) (k := k)
  rw [if_pos hr] at h2
  constructor
  · rw [List.getElem?_map, h1, h2, List.append_assoc, rIdx, List.getElem?_append_right (Nat.le_refl _)]
    simp
  · unfold rIdx
    rw [h2]
    simp
theorem reach_no {mp : List (Pair × Bool)} {t : Int} {k : Nat} (hr : ¬ (aget mp ⟨t, (k : Int)⟩).getD false = true) : rIdx mp t (k + 1) = rIdx mp t k := by
  unfold rIdx
  rw [reachL_succ, if_neg hr]
set_option maxRecDepth 100000 in
theorem it_reach0 (w0 : World) (M : List Nat) (ro : List Sg) (b2 b3 bd bm : Nat) (t : Int) (q : Option Addr) (n c : Nat) (mp : List (Pair × Bool)) (hn : n ≤ 1000000) :
    ItX Try.prog 134 [ptr b2 0, ptr b3 0] ((reachL n mp t).map (fun k => Value.int .i64 k)) w0 M ro (RdReach b2 b3 bd bm t q n c mp) := by
  intro γ Y St Sp l hrd hrdS hy g0 h0 w X0 hh
  refine Zj (args := [.func (.yield l) #[] #[], ptr b2 0, ptr b3 0]) Try.func134 rfl Try.ntmps134 rfl (e := [(0, _), (1, _), (2, _)]) rfl (hh) ?_
  refine jk ?_
  refine jh ?_
  refine jb rfl rfl rfl (fun w hh => jQ (Try.isAgg115 w) rfl (hrd 0 g0 X0 w h0 hh).c2) ?_
  refine jb rfl rfl rfl (fun _ _ => jw rfl) ?_
  refine jb rfl rfl rfl (fun w _ => ky 0 (Try.runUnderlying163 w) rfl (Try.sizeOf28 w) rfl) ?_
  refine jb rfl rfl rfl (fun w _ => ky 0 (Try.runUnderlying28 w) rfl (Try.sizeOf25 w) rfl) ?_
  refine jb rfl rfl rfl (fun w hh => jQ (Try.isAgg25 w) rfl (hrd 0 g0 X0 w h0 hh).st) ?_
  refine jb rfl rfl rfl (fun w _ => jaa (Try.runUnderlying25 w) rfl) ?_
  refine jb rfl rfl rfl (fun _ _ => KN rfl) ?_
  refine jx ?_
  refine ja ?_
  refine jj ?_
  refine Zf (e' := [(11, _), (0, _), (1, _), (2, _), (10, _)]) ((.cons rfl (.cons rfl (.cons rfl (.cons rfl (.cons rfl .nil)))))) ?_
  refine ZU (ι := Nat × γ) (fun (k, g) => [(11, .int .i64 (k : Nat))]) (fun (k, g) => Y g) (fun (k, g) => k ≤ n ∧ St (rIdx mp t k) g) (fun (k, g) => n - k) (0, g0) (⟨Nat.zero_le _, h0⟩) ?_
  intro ⟨k, g⟩ hI0
  simp only at hI0
  refine jk ?_
  refine jh ?_
  refine jb rfl rfl rfl (fun _ _ => YN rfl rfl) ?_
  refine jx ?_
  refine ja ?_
  refine jk ?_
  refine jr rfl (fun hc => ?_) (fun hc => ?_)
  · replace hc := of_decide_eq_true hc
    have hc' : k < n := by omega
    refine js ?_
    refine ja ?_
    refine jk ?_
    refine jj ?_
    refine jk ?_
    refine jh ?_
    refine jb rfl rfl rfl (fun _ _ => KN rfl) ?_
    refine jb rfl rfl rfl (fun _ _ => jU rfl) ?_
    refine jx ?_
    refine ja ?_
    refine jk ?_
    refine j4 none (.hoist 0 (.free 1 (.free 2 (.hoist 3 (.hoist 4 (.free 5 (.free 6 (.hoist 7 (.free 8 (.free 9 (.free 10 (.one 11 (.free 12 (.free 13 .done)))))))))))))) (RdReach b2 b3 bd bm t q n c mp) rfl (by decide +kernel) (fun w k hh => HS.draw hh k) (fun w hh => hrd _ g X0 w hI0.2 hh) ?_
    refine jG rfl rfl rfl rfl (fun w hh => jQ (Try.isAgg115 w) rfl hh.c2) ?_
    refine jg rfl rfl rfl rfl (fun w hh => jw rfl) ?_
    refine jg rfl rfl rfl rfl (fun w hh => ky 2 (Try.runUnderlying163 w) rfl (Try.sizeOf161 w) rfl) ?_
    refine jG rfl rfl rfl rfl (fun w hh => jQ (Try.isAgg161 w) rfl hh.mc) ?_
    refine jG rfl rfl rfl rfl (fun w hh => jQ (Try.isAgg3 w) rfl hh.c3) ?_
    refine jg rfl rfl rfl rfl (fun w hh => KN rfl) ?_
    refine jg rfl rfl rfl rfl (fun w hh => jA (vs := [(0, _), (1, _)]) (cells := [_, _]) rfl rfl) ?_
    refine jG rfl rfl rfl rfl (fun w hh => YG (k := (⟨t, (k : Int)⟩ : Pair)) (z := false) (Try.runUnderlying161 w) jad (Try.zeroValue4 w) rfl rfl hh.mo) ?_
    refine jg rfl rfl rfl rfl (fun w hh => KN rfl) ?_
    refine jZ 22 rfl (fun hA => ?_) (fun hA => ?_)
    · obtain ⟨hat, hix⟩ := reach_at hc' hA
      refine qQ rfl rfl rfl rfl rfl rfl (fun w hh => KN rfl) ?_
      refine qQ rfl rfl rfl rfl rfl rfl (fun w hh => KN rfl) ?_
      refine jK rfl ?_
      refine jc rfl rfl ?_
      refine ZG (ι := γ × Bool) (ret := fun z => .bool z.2) (H' := fun z w' => (if z.2 = true then St (rIdx mp t (k + 1)) z.1 else Sp z.1) ∧ HS w0 M (Y z.1 ++ X0) ro w') rfl rfl (fun a he => rfl) rfl rfl rfl (fun w hh => ?_) ?_
      · refine (hy _ _ g X0 w hat hI0.2 hh).mono ?_
        rintro en w' (⟨rfl, g', hs', hh'⟩ | ⟨rfl, g', hs', hh'⟩)
        · exact ⟨(g', true), rfl, by rw [hix]; exact hs', hh'⟩
        · exact ⟨(g', false), rfl, hs', hh'⟩
      intro ⟨g2, b⟩
      cases b with
      | true =>
      refine Zk (fun w hh => hh.1) (fun hsg2 => ?_)
      replace hsg2 : St (rIdx mp t (k + 1)) g2 := hsg2
      refine G.pre (H' := HS w0 M (Y g2 ++ X0) ro) ?_ (fun w hh => hh.2)
      refine jv (fun w hh => hrd _ g2 X0 w hsg2 hh) ?_
      refine qQ rfl rfl rfl rfl rfl rfl (fun w hh => qv rfl) ?_
      refine jg rfl rfl rfl rfl (fun w hh => Kg rfl rfl) ?_
      refine jN ?_
      refine ja ?_
      refine qS rfl rfl ?_
      refine js ?_
      refine jt ?_
      refine ja ?_
      refine jh ?_
      refine jb rfl rfl rfl (fun _ _ => Z7 rfl rfl (wrap_i64 (by omega))) ?_
      refine jb rfl rfl rfl (fun _ _ => KN rfl) ?_
      refine jx ?_
      refine ja ?_
      exact YW (i := ⟨k, g⟩) (k + 1, g2) 0 ((.cons rfl (.cons rfl (.cons rfl (.cons rfl (.cons rfl .nil)))))) rfl (⟨by omega, hsg2⟩) (by simp only; omega)
      | false =>
      refine Zk (fun w hh => hh.1) (fun hsg2 => ?_)
      replace hsg2 : Sp g2 := hsg2
      refine G.pre (H' := HS w0 M (Y g2 ++ X0) ro) ?_ (fun w hh => hh.2)
      refine jv (fun w hh => hrdS g2 X0 w hsg2 hh) ?_
      refine qQ rfl rfl rfl rfl rfl rfl (fun w hh => qv rfl) ?_
      refine jg rfl rfl rfl rfl (fun w hh => Kg rfl rfl) ?_
      refine jN ?_
      refine ja ?_
      refine y8 rfl rfl ?_
      refine ju ?_
      refine jy ?_
      refine jf ?_
      refine jf ?_
      refine jy ?_
      refine jm rfl (fun w hh => .nil) (fun w hh => ⟨_, rfl, g2, .inr hsg2, hh⟩)
    · have hA' : ¬ (aget mp ⟨t, (k : Int)⟩).getD false = true := by rw [hA]; decide
      have hno := reach_no (k := k) hA'
      refine kk rfl rfl rfl rfl rfl rfl rfl ?_
      refine kk rfl rfl rfl rfl rfl rfl rfl ?_
      refine jK rfl ?_
      refine Zm rfl rfl rfl rfl rfl rfl ?_
      refine jv (fun w hh => hrd _ g X0 w hI0.2 hh) ?_
      refine kk rfl rfl rfl rfl rfl rfl rfl ?_
      refine jg rfl rfl rfl rfl (fun w hh => K6 rfl rfl) ?_
      refine jN ?_
      refine ja ?_
      refine qS rfl rfl ?_
      refine js ?_
      refine jt ?_
      refine ja ?_
      refine jh ?_
      refine jb rfl rfl rfl (fun _ _ => Z7 rfl rfl (wrap_i64 (by omega))) ?_
      refine jb rfl rfl rfl (fun _ _ => KN rfl) ?_
      refine jx ?_
      refine ja ?_
      exact YW (i := ⟨k, g⟩) (k + 1, g) 0 ((.cons rfl (.cons rfl (.cons rfl (.cons rfl (.cons rfl .nil)))))) rfl (⟨by omega, by rw [hno]; exact hI0.2⟩) (by simp only; omega)
  · replace hc := of_decide_eq_false hc
    refine jP ?_
    refine ji ?_
    refine ji ?_
    refine jC ?_
    have ek : k = n := by omega
    subst ek
    refine Kb rfl (fun w hh => .nil) (fun w hh => ⟨_, rfl, g, .inl (by simpa [rIdx] using hI0.2), hh⟩)
theorem it_reach (w0 : World) (M : List Nat) (ro : List Sg) (b2 b3 bd bm : Nat) (t : Int) (q : Option Addr) (n c : Nat) (l : List Strip) (mp : List (Pair × Bool)) (hl : l.length = n) (hn : (l.length : Int) ≤ 1000000) :
    ItX Try.prog 134 [ptr b2 0, ptr b3 0] ((reachL l.length mp t).map (fun k => Value.int .i64 k)) w0 M ro (RdReach b2 b3 bd bm t q n c mp) := by
  subst hl
  exact it_reach0 w0 M ro b2 b3 bd bm t q _ c mp (by omega)
end Go.Proofs.Ws

