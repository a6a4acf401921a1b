/- What the functions that the law StripChecks reaches come to, and why it holds: part 2. -/
import Derived.Test.YtnkphlgohnlooaaGreatStripChecks1
namespace Go.Gx
open Go Go.Fw
section
variable {P : Program}
theorem run_copy_rows (w : World) (dT sT ty elem : TypeId) (g dLen dCap : Nat) (a : Addr) (sLen sCap k n : Nat) (cur : Array Value) (t : TypeId) (cs : List Value)
    (hu : P.underlying dT = some (.slice elem)) (hs : (P.info? elem).map (·.size) = some k) (hg : w.heap[g]? = some (.cells cur t (0, 0))) (hn : n = Nat.min sLen dLen) (hc : cs.length = n * k)
    (hsrc : ∀ j v, cs[j]? = some v → w.cell? (a.add j) = some v) (hfit : cs.length ≤ cur.size) (h1 : ∀ v ∈ cs, v.oneCell' = true) :
    (Builtin.copy_ #[dT, sT] ty #[.slice (some ⟨g, 0, none⟩) dLen dCap, .slice (some a) sLen sCap]).run P w = .ok (goInt n) (w.setRow g (cs ++ cur.toList.drop cs.length).toArray) := by
  have hl := run_loadCells_list (P := P) w a cs hsrc
  have hst := run_storeCells_at P g 0 t cs 0 cur w hg (by simpa using hfit) h1
  simp only [Nat.zero_add, List.take_zero, List.nil_append] at hst
  cases hq : P.info? elem with
  | none => simp [hq] at hs
  | some i =>
    have hi : i.size = k := by simpa [hq] using hs
    simp [Builtin.copy_, run_underlying hu, Builtin.lenOf, Builtin.firstCells, sizeOf, typeInfo, hq, hi, ← hn, ← hc, hl, hst]
theorem run_copy_zero (w : World) (dT sT ty elem : TypeId) (d a : Option Addr) (dLen dCap sLen sCap k : Nat) (hu : P.underlying dT = some (.slice elem)) (hs : (P.info? elem).map (·.size) = some k) (hn : Nat.min sLen dLen = 0) :
    (Builtin.copy_ #[dT, sT] ty #[.slice d dLen dCap, .slice a sLen sCap]).run P w = .ok (goInt 0) w := by
  cases hq : P.info? elem with
  | none => simp [hq] at hs
  | some i =>
    have hi : i.size = k := by simpa [hq] using hs
    have hl : ∀ a : Addr, (loadCells a 0).run P w = .ok #[] w := fun a => by simp [loadCells, loadCellsFrom]
    cases d <;> cases a <;> simp [Builtin.copy_, run_underlying hu, Builtin.lenOf, Builtin.firstCells, sizeOf, typeInfo, hq, hi, hn, hl, storeCells]
end
section
variable {n : Nat} {ds : List Deferred} {e : EnvL} {P : Program} {r : Option Nat} {Q : Exit → Act → World → Prop} {ops : Array Oper} {w0 : World} {M : List Nat} {S : List (Nat × Obj)} {vs : List VR} {ro : List Sg} {rest : List Oper}
theorem g_vcopy {α : Type} (R : Row α) (i : Nat) {d : Nat} {t ty E : TypeId} {x y : Operand} {sz ln cap : Nat} {l m lm : List α} {sp : List Value} {q : Option (Nat × Nat)} {q2 : Option Addr} {n2 c2 : Nat} {mo : List (Nat × Obj)} {pos : String} {after : Array Edge}
    (hu : P.underlying t = some (.slice E)) (hs : (P.info? E).map (·.size) = some sz) (hsz : sz = R.sz) (hs0 : Nat.blt 0 R.sz = true) (hx : ev e x = some (slv q ln cap)) (hy : ev e y = some (.slice q2 n2 c2)) (hvi : vs[i]? = some ⟨E, R.enc l, sp, q, mo⟩) (hv : VOK sz ln cap (R.enc l) sp q)
    (hm : m.length = n2) (hq2 : AOK n2 q2) (hsrc : ∀ w, HV w0 M S vs ro w → segOK w (aB q2, aO q2, R.enc m)) (hle : m.length ≤ l.length) (hlm : m ++ l.drop m.length = lm) (hn : Nat.blt d n = true)
    (h : VOK sz ln cap (R.enc lm) sp q → G n ds ((d, .int .i64 (m.length : Int)) :: e) (HV w0 M S (vs.set i ⟨E, R.enc lm, sp, q, mo⟩) ro) (wpListIn (fw r) 0 P ops Q rest)) :
    G n ds e (HV w0 M S vs ro) (wpListIn (fw r) 0 P ops Q (⟨some d, .call ⟨.builtin .copy, #[x, y], #[t, t]⟩, ty, pos, after, none⟩ :: rest)) := fun a w he hh => by
  subst hsz hm
  have hln := vlen R hv hs0
  have hlen2 : lm.length = l.length := by rw [← hlm]; simp; omega
  have hv' : VOK R.sz ln cap (R.enc lm) sp q := by
    have e1 : (R.enc lm).length = (R.enc l).length := by rw [R.enc_len, R.enc_len, hlen2]
    exact ⟨by rw [e1]; exact hv.hlen, by rw [List.length_append, e1, ← List.length_append]; exact hv.hcap, hv.hle, hv.hmax, (fun hn' => by
      have := hv.hnone hn'
      refine ⟨this.1, ?_⟩
      exact this.2), hv.hoff⟩
  by_cases h0 : m = []
  · subst h0
    have e1 : lm = l := by rw [← hlm]; simp
    subst e1
    have hrun := run_copy_zero (P := P) w t t ty E (q.map fun p => ⟨p.1, p.2, none⟩) q2 ln cap 0 c2 R.sz hu hs (by exact Nat.zero_min ln)
    refine wpListIn_value (wanted_none rfl _) (v := .int .i64 0) (w' := w) (by
      have hx' : a.eval x = .slice (q.map fun p => ⟨p.1, p.2, none⟩) ln cap := he.eval hx
      have hy' : a.eval y = .slice q2 0 c2 := he.eval hy
      simp only [execOp, resolve]
      simp [invoke, builtin, hx', hy', hrun, goInt]) ?_
    refine h hv _ _ (he.put hn _) ?_
    have : vs.set i ⟨E, R.enc lm, sp, q, mo⟩ = vs := by
      apply List.ext_getElem?
      intro j
      rw [List.getElem?_set]
      split
      · rename_i hj; subst hj; split
        · exact hvi.symm
        · rename_i hlt; rw [List.getElem?_eq_none (by omega)]
      · rfl
    rw [this]
    exact hh
  · have hm0 : 0 < m.length := List.length_pos_iff.2 h0
    obtain ⟨b2, o2, rfl⟩ := hq2 hm0
    cases q with
    | none => have := (hv.hnone rfl).1; omega
    | some p =>
      have hoff := hv.hoff p rfl
      have hbk : w.heap[p.1]? = some (.cells (R.enc l ++ sp).toArray E (0, 0)) := hh.hs.ownOK (p.1, _) (HV.vmem i hvi _ (by simp [VR.bl, vown]))
      have hx' : a.eval x = .slice (some ⟨p.1, 0, none⟩) ln cap := by rw [he.eval hx]; simp [slv, hoff]
      have hy' : a.eval y = .slice (some ⟨b2, o2, none⟩) m.length c2 := he.eval hy
      have hsr : ∀ j v, (R.enc m)[j]? = some v → w.cell? ((⟨b2, o2, none⟩ : Addr).add j) = some v := fun j v hj => by
        rw [addr_add]
        exact segOK.at (hsrc w hh) hj
      have hrun := run_copy_rows (P := P) w t t ty E p.1 ln cap ⟨b2, o2, none⟩ m.length c2 R.sz m.length (R.enc l ++ sp).toArray E (R.enc m) hu hs hbk (by rw [← hln]; exact (Nat.min_eq_left hle).symm) (R.enc_len m) hsr (by
        have : m.length * R.sz ≤ l.length * R.sz := Nat.mul_le_mul_right _ hle
        simp [R.enc_len]; omega) (R.enc_one m)
      have hcs : (R.enc m ++ (R.enc l ++ sp).toArray.toList.drop (R.enc m).length).toArray = (R.enc lm ++ sp).toArray := by
        congr 1
        have h2 : l.take m.length ++ l.drop m.length = l := List.take_append_drop _ _
        have h3 : (R.enc (l.take m.length)).length = (R.enc m).length := by rw [R.enc_len, R.enc_len]; congr 1; simp; omega
        have h4 : R.enc l = R.enc (l.take m.length) ++ R.enc (l.drop m.length) := by rw [← R.enc_append, h2]
        show R.enc m ++ (R.enc l ++ sp).drop (R.enc m).length = R.enc lm ++ sp
        rw [← hlm, R.enc_append, List.append_assoc]
        congr 1
        rw [h4, List.append_assoc, ← h3, List.drop_left]
      rw [hcs] at hrun
      refine wpListIn_value (wanted_none rfl _) (v := .int .i64 m.length) (w' := w.setRow p.1 (R.enc lm ++ sp).toArray) (by simp only [execOp, resolve]; simp [invoke, builtin, hx', hy', hrun, goInt]) ?_
      refine h hv' _ _ (he.put hn _) (hh.vupd i hvi Ext.setRow (setRow_heap w p.1 _ _ E (0, 0) hbk))
end
section
variable {P : Program} {e : EnvL} {w : World} {dst : Option Tmp} {ty : TypeId} {pos : String} {after : Array Edge} {g : Option (Nat × Bool)}
theorem run_eqPtr {t E : TypeId} {a : Option Addr} (hu : (underlying t).run P w = .ok (.pointer E) w) : (Op.equal t (.pointer a) (.pointer none)).run P w = .ok a.isNone w := by
  unfold Op.equal
  rw [show Op.maxDepth = 9999 + 1 from rfl, Op.equalIn]
  simp only [Sem.run_bind, hu, Result.andThen_ok]
  cases a <;> rfl
theorem v_eqlPtr {t u E : TypeId} {x y : Operand} {a : Option Addr} (hu : (underlying t).run P w = .ok (.pointer E) w) (hx : ev e x = some (.pointer a)) (hy : ev e y = some (.pointer none)) :
    Val P e w ⟨dst, .binOp .eql t x y u, ty, pos, after, g⟩ (.bool a.isNone) := fun n ds ac he => by
  have h1 : (eqGuard .eql t x y (.pointer a) (.pointer none)).run P w = .ok () w := by cases a <;> rfl
  have h2 : (binOp .eql t (.pointer a) (.pointer none)).run P w = .ok (.bool a.isNone) w := by
    simp only [binOp, Sem.run_bind, run_eqPtr hu, Result.andThen_ok, Sem.run_pure]
  simp only [execOp, he.eval hx, he.eval hy, Sem.run_bind, h1, Result.andThen_ok, h2, Sem.run_pure]
end
end Go.Gx

namespace Go.Gx
open Go Go.Fw
structure ClOK (P : Program) (f : FuncId) (fs cs : Array Value) (T : List Sg) {α β : Type} (ea : α → List Value) (er : β → Value) (cf : α → Option β) : Prop where
  call : ∀ args w, (callFunc f args).run P w = .ok (.enter f args) w
  ok : ∀ x r, cf x = some r → ∀ w, (∀ t, t ∈ T → segOK w t) → Ret P f (fs.toList ++ ea x ++ cs.toList) w (er r)
theorem HVstart {w : World} {ro : List Sg} (h : ∀ s, s ∈ ro → segOK w s) : HV w (keys [] []) [] [] ro w := HS.start w [] ro h
theorem clRet {P : Program} {f : FuncId} {args : List Value} {w : World} {v : Value} (h : Calls P f args.toArray w (fun en w' => ∃ _ : Unit, en = .returned v ∧ True ∧ HV w (keys [] []) [] [] [] w')) : Ret P f args w v :=
  Calls.mono h fun _ _ hr => ⟨hr.choose_spec.1, HS.toExt hr.choose_spec.2.2⟩
theorem HV.selN {w0 w : World} {M : List Nat} {S S' : List (Nat × Obj)} {vs vs' : List VR} {ro : List Sg} (h : HV w0 M S vs ro w) (iS iV : List Nat) (hn : iS.Nodup) (hm : iV.Nodup) (hS : iS.map (fun i => S[i]?) = S'.map some) (hV : iV.map (fun i => vs[i]?) = vs'.map some) : HV w0 M S' vs' [] w :=
  h.sel iS iV ro.length hn hm hS hV (List.drop_length)
section
variable {n : Nat} {ds : List Deferred} {e : EnvL} {P : Program} {r : Option Nat} {Q : Exit → Act → World → Prop} {ops : Array Oper} {w0 : World} {M : List Nat} {S : List (Nat × Obj)} {vs : List VR} {ro : List Sg}
theorem g_callFX {α β : Type} {ea : α → List Value} {er : β → Value} {cf : α → Option β} {f : FuncId} {fs cs : Array Value} {T : List Sg} (hc : ClOK P f fs cs T ea er cf) (hT : ∀ t, t ∈ T → t ∈ ro) {y : α} {z : β} (hy : cf y = some z)
    {o : Oper} {rest : List Oper} {d : Nat} {x : Operand} {xs : List Operand} {ts : Array TypeId}
    (ho : o.op = .call ⟨.value x, xs.toArray, ts⟩) (hd : o.dst = some d) (hg : o.guard = none) (hn : Nat.blt d n = true)
    (hx : ev e x = some (.func (.func f) fs cs)) (hxs : evs e xs = some (ea y))
    (h : G n ds ((d, er z) :: e) (HV w0 M S vs ro) (wpListIn (fw r) 0 P ops Q rest)) : G n ds e (HV w0 M S vs ro) (wpListIn (fw r) 0 P ops Q (o :: rest)) := by
  exact g_callv ho hd hg hn hx hxs rfl hc.call (fun w hh => hc.ok y z hy w (fun t ht => HV.segm (show HV w0 M S vs ro w from hh) (hT t ht))) h
end
end Go.Gx

namespace Go.Gx
open Go Go.Fw
section
variable {n : Nat} {ds : List Deferred} {e : EnvL} {P : Program} {r : Option Nat} {Q : Exit → Act → World → Prop} {ops : Array Oper} {w0 : World} {M : List Nat} {S : List (Nat × Obj)} {vs : List VR} {ro : List Sg} {rest : List Oper}
theorem Row.part {α : Type} (R : Row α) (l : List α) (j f : Nat) (x0 x1 : α) (us sp : List Value) (hx : l[j]? = some x0) (hf : f + us.length ≤ R.sz) (hset : (R.cells x0).take f ++ us ++ (R.cells x0).drop (f + us.length) = R.cells x1) :
    (R.enc l ++ sp).take (j * R.sz + f) ++ us ++ (R.enc l ++ sp).drop (j * R.sz + f + us.length) = R.enc (l.set j x1) ++ sp := by
  have hjl : j < l.length := (List.getElem?_eq_some_iff.1 hx).1
  have e0 := R.enc_set l j x0 x0 hx
  have e1 := R.enc_set l j x0 x1 hx
  have es : l.set j x0 = l := by
    apply List.ext_getElem?
    intro k
    rw [List.getElem?_set]
    split
    · rename_i hk; subst hk; simp [hjl]; exact (List.getElem?_eq_some_iff.1 hx).2.symm
    · rfl
  rw [es] at e0
  have hle : (j + 1) * R.sz ≤ l.length * R.sz := Nat.mul_le_mul_right _ hjl
  rw [Nat.add_mul, Nat.one_mul] at hle
  have hA : ((R.enc l).take (j * R.sz)).length = j * R.sz := by rw [List.length_take, R.enc_len]; omega
  have hC : (R.cells x0).length = R.sz := R.len x0
  generalize hAd : (R.enc l).take (j * R.sz) = A at e0 e1 hA
  generalize (R.enc l).drop (j * R.sz + R.sz) = D at e0 e1
  rw [← e0, ← e1, ← hset]
  have t1 : (A ++ R.cells x0 ++ D ++ sp).take (j * R.sz + f) = A ++ (R.cells x0).take f := by
    rw [List.append_assoc, List.append_assoc, List.take_append, hA, List.take_of_length_le (by omega), show j * R.sz + f - j * R.sz = f by omega, List.take_append_of_le_length (by omega)]
  have t2 : (A ++ R.cells x0 ++ D ++ sp).drop (j * R.sz + f + us.length) = (R.cells x0).drop (f + us.length) ++ D ++ sp := by
    rw [List.append_assoc, List.append_assoc, List.drop_append, hA, List.drop_eq_nil_of_le (by omega), List.nil_append, show j * R.sz + f + us.length - j * R.sz = f + us.length by omega, List.drop_append_of_le_length (by omega), List.append_assoc]
  rw [t1, t2]
  simp only [List.append_assoc]
end
end Go.Gx

namespace Go.Proofs.Ws
open Go Go.Fw Go.Gx Go.Sp
set_option maxRecDepth 100000 in
theorem gxsthR : Tryz.prog.stoodInHeld 126 = false := by decide +kernel
set_option maxRecDepth 100000 in
theorem gxeqR (x y : Pair) (w : World) : (Op.equalIn 10000 126 (.agg (RPr.cells x).toArray) (.agg (RPr.cells y).toArray)).run Tryz.prog w = .ok (decide (x = y)) w := by
  have h := equal_struct (xs := (RPr.cells x).toArray) (ys := (RPr.cells y).toArray) Tryz.underlying126 gxsthR (.int rfl (fun w => Tryz.isAgg3 w) ⟨_, Tryz.underlying3⟩ rfl rfl (.int rfl (fun w => Tryz.isAgg3 w) ⟨_, Tryz.underlying3⟩ rfl rfl .nil)) w
  rw [h]
  congr 1
  cases x; cases y
  rw [Bool.eq_iff_iff]
  simp only [Bool.and_eq_true, decide_eq_true_eq, Pair.mk.injEq, and_true]
theorem gxkeyR : KeyOK Tryz.prog 126 (kR RPr) := KeyOK.row RPr (fun w => Tryz.runUnderlying126 w) (fun x => (.int (fun w => Tryz.isAgg3 w) (fun w => Tryz.runUnderlying3 w) rfl (.int (fun w => Tryz.isAgg3 w) (fun w => Tryz.runUnderlying3 w) rfl .nil))) gxeqR (fun x => by cases x; simp [RPr, Instr.sameBits])
def reachL (n : Nat) (mp : List (Pair × Bool)) (t : Int) : List Int := ((List.range n).map fun k : Nat => (k : Int)).filter fun k => (aget mp ⟨t, k⟩).getD false
structure RdReach (b2 b3 bd bm : Nat) (t : Int) (q : Option Addr) (n c : Nat) (mp : List (Pair × Bool)) (w : World) : Prop where
  c2 : w.cell? ⟨b2, 0, none⟩ = some (ptr bd 0)
  c3 : w.cell? ⟨b3, 0, none⟩ = some (.int .i64 t)
  st : w.cell? ⟨bd, 0, none⟩ = some (.slice q n c)
  mc : w.cell? ⟨bd, 2, none⟩ = some (.map (some bm))
  mo : w.heap[bm]? = some (gobj (kR RPr) kB mp)
def rIdx (mp : List (Pair × Bool)) (t : Int) (k : Nat) : Nat := (reachL k mp t).length
theorem reachL_succ {mp : List (Pair × Bool)} {t : Int} {k : Nat} : reachL (k + 1) mp t = if (aget mp ⟨t, (k : Int)⟩).getD false = true then reachL k mp t ++ [(k : Int)] else reachL k mp t := by
  unfold reachL
  rw [List.range_succ, List.map_append, List.filter_append]
  simp only [List.map_cons, List.map_nil, List.filter_cons, List.filter_nil]
  split <;> simp_all
theorem reachL_pre {mp : List (Pair × Bool)} {t : Int} {k n : Nat} (h : k ≤ n) : ∃ r, reachL n mp t = reachL k mp t ++ r := by
  induction n with
  | zero => obtain rfl : k = 0 := by omega
            exact ⟨[], by simp⟩
  | succ n ih =>
    by_cases hk : k = n + 1
    · subst hk; exact ⟨[], by simp⟩
    · obtain ⟨r, hr⟩ := ih (by omega)
      rw [reachL_succ]
      split
      · exact ⟨r ++ [(n : Int)], by rw [hr, List.append_assoc]⟩
      · exact ⟨r, hr⟩
theorem reach_at {mp : List (Pair × Bool)} {t : Int} {k n : Nat} (h : k < n) (hr : (aget mp ⟨t, (k : Int)⟩).getD false = true) : ((reachL n mp t).map (fun k => Value.int .i64 k))[rIdx mp t k]? = some (.int .i64 (k : Int)) ∧ rIdx mp t (k + 1) = rIdx mp t k + 1 := by
  obtain ⟨r, h1⟩ := reachL_pre (mp := mp) (t := t) (show k + 1 ≤ n by omega)
  have h2 := reachL_succ (mp := mp) (t := t) (k := k)
  rw [if_pos hr] at h2
  constructor
  · rw [List.getElem?_map, h1, h2, List.append_assoc, rIdx, List.getElem?_append_right (Nat.le_refl _)]
    simp
  · unfold rIdx
    rw [h2]
    simp
theorem reach_no {mp : List (Pair × Bool)} {t : Int} {k : Nat} (hr : ¬ (aget mp ⟨t, (k : Int)⟩).getD false = true) : rIdx mp t (k + 1) = rIdx mp t k := by
  unfold rIdx
  rw [reachL_succ, if_neg hr]
set_option maxRecDepth 100000 in
theorem it_reach0 (w0 : World) (M : List Nat) (ro : List Sg) (b2 b3 bd bm : Nat) (t : Int) (q : Option Addr) (n c : Nat) (mp : List (Pair × Bool)) (hn : n ≤ 1000000) :
    ItX Tryz.prog 112 [ptr b2 0, ptr b3 0] ((reachL n mp t).map (fun k => Value.int .i64 k)) w0 M ro (RdReach b2 b3 bd bm t q n c mp) := by
  intro γ Y St Sp l hrd hrdS hy g0 h0 w X0 hh
  refine g_enter (args := [.func (.yield l) #[] #[], ptr b2 0, ptr b3 0]) Tryz.func112 rfl Tryz.ntmps112 rfl (e := [(0, _), (1, _), (2, _)]) rfl (hh) ?_
  refine g_seq ?_
  refine g_region ?_
  refine g_val rfl rfl rfl (fun w hh => v_load (Tryz.isAgg107 w) rfl (hrd 0 g0 X0 w h0 hh).c2) ?_
  refine g_val rfl rfl rfl (fun _ _ => v_nilCheck rfl) ?_
  refine g_val rfl rfl rfl (fun w _ => v_fieldAddr 0 (Tryz.runUnderlying144 w) rfl (Tryz.sizeOf25 w) rfl) ?_
  refine g_val rfl rfl rfl (fun w _ => v_fieldAddr 0 (Tryz.runUnderlying25 w) rfl (Tryz.sizeOf22 w) rfl) ?_
  refine g_val rfl rfl rfl (fun w hh => v_load (Tryz.isAgg22 w) rfl (hrd 0 g0 X0 w h0 hh).st) ?_
  refine g_val rfl rfl rfl (fun w _ => v_len (Tryz.runUnderlying22 w) rfl) ?_
  refine g_val rfl rfl rfl (fun _ _ => v_move rfl) ?_
  refine g_nil ?_
  refine g_n_then ?_
  refine g_block ?_
  refine g_sub (e' := [(11, _), (0, _), (1, _), (2, _), (10, _)]) ((.cons rfl (.cons rfl (.cons rfl (.cons rfl (.cons rfl .nil)))))) ?_
  refine g_loopM (ι := Nat × γ) (fun (k, g) => [(11, .int .i64 (k : Nat))]) (fun (k, g) => Y g) (fun (k, g) => k ≤ n ∧ St (rIdx mp t k) g) (fun (k, g) => n - k) (0, g0) (⟨Nat.zero_le _, h0⟩) ?_
  intro ⟨k, g⟩ hI0
  simp only at hI0
  refine g_seq ?_
  refine g_region ?_
  refine g_val rfl rfl rfl (fun _ _ => v_lss rfl rfl) ?_
  refine g_nil ?_
  refine g_n_then ?_
  refine g_seq ?_
  refine g_cond rfl (fun hc => ?_) (fun hc => ?_)
  · replace hc := of_decide_eq_true hc
    have hc' : k < n := by omega
    refine g_skip ?_
    refine g_n_then ?_
    refine g_seq ?_
    refine g_block ?_
    refine g_seq ?_
    refine g_region ?_
    refine g_val rfl rfl rfl (fun _ _ => v_move rfl) ?_
    refine g_val rfl rfl rfl (fun _ _ => v_assign rfl) ?_
    refine g_nil ?_
    refine g_n_then ?_
    refine g_seq ?_
    refine g_draw none (.hoist 0 (.free 1 (.free 2 (.hoist 3 (.hoist 4 (.free 5 (.free 6 (.hoist 7 (.free 8 (.free 9 (.free 10 (.one 11 (.free 12 (.free 13 .done)))))))))))))) (RdReach b2 b3 bd bm t q n c mp) rfl (by decide +kernel) (fun w k hh => HS.draw hh k) (fun w hh => hrd _ g X0 w hI0.2 hh) ?_
    refine p_hoist rfl rfl rfl rfl (fun w hh => v_load (Tryz.isAgg107 w) rfl hh.c2) ?_
    refine p_free rfl rfl rfl rfl (fun w hh => v_nilCheck rfl) ?_
    refine p_free rfl rfl rfl rfl (fun w hh => v_fieldAddr 2 (Tryz.runUnderlying144 w) rfl (Tryz.sizeOf142 w) rfl) ?_
    refine p_hoist rfl rfl rfl rfl (fun w hh => v_load (Tryz.isAgg142 w) rfl hh.mc) ?_
    refine p_hoist rfl rfl rfl rfl (fun w hh => v_load (Tryz.isAgg3 w) rfl hh.c3) ?_
    refine p_free rfl rfl rfl rfl (fun w hh => v_move rfl) ?_
    refine p_free rfl rfl rfl rfl (fun w hh => v_build (vs := [(0, _), (1, _)]) (cells := [_, _]) rfl rfl) ?_
    refine p_hoist rfl rfl rfl rfl (fun w hh => v_lookG (k := (⟨t, (k : Int)⟩ : Pair)) (z := false) (Tryz.runUnderlying142 w) gxkeyR (Tryz.zeroValue4 w) rfl rfl hh.mo) ?_
    refine p_free rfl rfl rfl rfl (fun w hh => v_move rfl) ?_
    refine g_case 22 rfl (fun hA => ?_) (fun hA => ?_)
    · obtain ⟨hat, hix⟩ := reach_at hc' hA
      refine p_freeG rfl rfl rfl rfl rfl rfl (fun w hh => v_move rfl) ?_
      refine p_freeG rfl rfl rfl rfl rfl rfl (fun w hh => v_move rfl) ?_
      refine p_one rfl ?_
      refine v_unguard rfl rfl ?_
      refine g_yieldG (ι := γ × Bool) (ret := fun z => .bool z.2) (H' := fun z w' => (if z.2 = true then St (rIdx mp t (k + 1)) z.1 else Sp z.1) ∧ HS w0 M (Y z.1 ++ X0) ro w') rfl rfl (fun a he => rfl) rfl rfl rfl (fun w hh => ?_) ?_
      · refine (hy _ _ g X0 w hat hI0.2 hh).mono ?_
        rintro en w' (⟨rfl, g', hs', hh'⟩ | ⟨rfl, g', hs', hh'⟩)
        · exact ⟨(g', true), rfl, by rw [hix]; exact hs', hh'⟩
        · exact ⟨(g', false), rfl, hs', hh'⟩
      intro ⟨g2, b⟩
      cases b with
      | true =>
      refine g_pure (fun w hh => hh.1) (fun hsg2 => ?_)
      replace hsg2 : St (rIdx mp t (k + 1)) g2 := hsg2
      refine G.pre (H' := HS w0 M (Y g2 ++ X0) ro) ?_ (fun w hh => hh.2)
      refine p_next (fun w hh => hrd _ g2 X0 w hsg2 hh) ?_
      refine p_freeG rfl rfl rfl rfl rfl rfl (fun w hh => v_not rfl) ?_
      refine p_free rfl rfl rfl rfl (fun w hh => v_pickT rfl rfl) ?_
      refine p_done ?_
      refine g_n_then ?_
      refine g_condF rfl rfl ?_
      refine g_skip ?_
      refine g_n_blk ?_
      refine g_n_then ?_
      refine g_region ?_
      refine g_val rfl rfl rfl (fun _ _ => v_add rfl rfl (wrap_i64 (by omega))) ?_
      refine g_val rfl rfl rfl (fun _ _ => v_move rfl) ?_
      refine g_nil ?_
      refine g_n_then ?_
      exact g_againD (i := ⟨k, g⟩) (k + 1, g2) 0 ((.cons rfl (.cons rfl (.cons rfl (.cons rfl (.cons rfl .nil)))))) rfl (⟨by omega, hsg2⟩) (by simp only; omega)
      | false =>
      refine g_pure (fun w hh => hh.1) (fun hsg2 => ?_)
      replace hsg2 : Sp g2 := hsg2
      refine G.pre (H' := HS w0 M (Y g2 ++ X0) ro) ?_ (fun w hh => hh.2)
      refine p_next (fun w hh => hrdS g2 X0 w hsg2 hh) ?_
      refine p_freeG rfl rfl rfl rfl rfl rfl (fun w hh => v_not rfl) ?_
      refine p_free rfl rfl rfl rfl (fun w hh => v_pickT rfl rfl) ?_
      refine p_done ?_
      refine g_n_then ?_
      refine g_condT rfl rfl ?_
      refine g_ret ?_
      refine g_r_blk ?_
      refine g_r_then ?_
      refine g_r_then ?_
      refine g_r_blk ?_
      refine g_done rfl (fun w hh => .nil) (fun w hh => ⟨_, rfl, g2, .inr hsg2, hh⟩)
    · have hA' : ¬ (aget mp ⟨t, (k : Int)⟩).getD false = true := by rw [hA]; decide
      have hno := reach_no (k := k) hA'
      refine p_skipF rfl rfl rfl rfl rfl rfl rfl ?_
      refine p_skipF rfl rfl rfl rfl rfl rfl rfl ?_
      refine p_one rfl ?_
      refine g_skipG rfl rfl rfl rfl rfl rfl ?_
      refine p_next (fun w hh => hrd _ g X0 w hI0.2 hh) ?_
      refine p_skipF rfl rfl rfl rfl rfl rfl rfl ?_
      refine p_free rfl rfl rfl rfl (fun w hh => v_pickF rfl rfl) ?_
      refine p_done ?_
      refine g_n_then ?_
      refine g_condF rfl rfl ?_
      refine g_skip ?_
      refine g_n_blk ?_
      refine g_n_then ?_
      refine g_region ?_
      refine g_val rfl rfl rfl (fun _ _ => v_add rfl rfl (wrap_i64 (by omega))) ?_
      refine g_val rfl rfl rfl (fun _ _ => v_move rfl) ?_
      refine g_nil ?_
      refine g_n_then ?_
      exact g_againD (i := ⟨k, g⟩) (k + 1, g) 0 ((.cons rfl (.cons rfl (.cons rfl (.cons rfl (.cons rfl .nil)))))) rfl (⟨by omega, by rw [hno]; exact hI0.2⟩) (by simp only; omega)
  · replace hc := of_decide_eq_false hc
    refine g_exit ?_
    refine g_x_then ?_
    refine g_x_then ?_
    refine g_x_blk ?_
    have ek : k = n := by omega
    subst ek
    refine g_doneN rfl (fun w hh => .nil) (fun w hh => ⟨_, rfl, g, .inl (by simpa [rIdx] using hI0.2), hh⟩)
theorem it_reach (w0 : World) (M : List Nat) (ro : List Sg) (b2 b3 bd bm : Nat) (t : Int) (q : Option Addr) (n c : Nat) (l : List Strip) (mp : List (Pair × Bool)) (hl : l.length = n) (hn : (l.length : Int) ≤ 1000000) :
    ItX Tryz.prog 112 [ptr b2 0, ptr b3 0] ((reachL l.length mp t).map (fun k => Value.int .i64 k)) w0 M ro (RdReach b2 b3 bd bm t q n c mp) := by
  subst hl
  exact it_reach0 w0 M ro b2 b3 bd bm t q _ c mp (by omega)
end Go.Proofs.Ws

