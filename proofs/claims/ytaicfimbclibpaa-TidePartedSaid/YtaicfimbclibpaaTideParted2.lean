/- What the functions that the law TideParted reaches come to, and why it holds: part 2. -/
import Derived.Test.YtaicfimbclibpaaTideParted1
namespace Go.Gx
open Go Go.Fw
set_option linter.unusedVariables false
/-! ### loops of known rounds; slices that stand still -/
section
variable {n : Nat} {ds : List Deferred} {e : EnvL} {H : World → Prop} {P : Program} {F : Fence} {Q : Exit → Act → World → Prop}
end
section
variable {P : Program} {e : EnvL} {w : World} {dst : Option Nat} {ty : TypeId} {pos : String} {after : Array Edge} {g : Option (Nat × Bool)}
end
section ops
variable {n : Nat} {ds : List Deferred} {e : EnvL} {P : Program} {r : Option Nat} {Q : Exit → Act → World → Prop} {ops : Array Oper} {w0 : World} {M : List Nat} {S : List (Nat × Obj)} {vs : List VR} {ro : List Sg} {rest : List Oper}
end ops
section skips
variable {n : Nat} {ds : List Deferred} {e : EnvL} {H : World → Prop} {P : Program} {r : Option Nat} {ops : Array Oper} {C : World → Prop} {X : Act → World → Prop}
theorem p_skipU_ {i d j t : Nat} {want : Bool} {p : Plan} {o : Oper} (ho : ops[i]? = some o) (hd : o.dst = some d) (hg : o.guard = some (j, want)) (hj : (ops[j]?).bind (·.dst) = some t) (ht : lk e t = some undef) (hn : Nat.blt d n = true)
    (h : G n ds ((d, undef) :: e) H (walk r P ops C X p)) : G n ds e H (walk r P ops C X (.hoist i p)) := fun a w he hh =>
  ⟨o, undef, ho, .inr ⟨by rw [wanted_undef' he hg hj ht], rfl⟩, by rw [hd]; exact h _ w (he.put hn undef) hh⟩
theorem p_skipUF_ {i d j t : Nat} {want : Bool} {p : Plan} {o : Oper} (ho : ops[i]? = some o) (hd : o.dst = some d) (hg : o.guard = some (j, want)) (hj : (ops[j]?).bind (·.dst) = some t) (ht : lk e t = some undef) (hn : Nat.blt d n = true)
    (h : G n ds ((d, undef) :: e) H (walk r P ops C X p)) : G n ds e H (walk r P ops C X (.free i p)) := fun a w he hh =>
  ⟨o, undef, ho, .inr ⟨by rw [wanted_undef' he hg hj ht], rfl⟩, by rw [hd]; exact h _ w (he.put hn undef) hh⟩
end skips
section share
variable {n : Nat} {ds : List Deferred} {e : EnvL} {H : World → Prop} {P : Program} {r : Option Nat} {ops : Array Oper} {C : World → Prop} {X : Act → World → Prop} {w0 : World} {M : List Nat} {S : List (Nat × Obj)} {vs : List VR} {ro : List Sg}
end share
theorem dec_cases {p : Prop} {X : Prop} [Decidable p] (h1 : p → X) (h2 : ¬ p → X) : X := if h : p then h1 h else h2 h
section desks
variable {n : Nat} {ds : List Deferred} {e : EnvL} {P : Program} {r : Option Nat} {Q : Exit → Act → World → Prop} {ops : Array Oper} {w0 : World} {M : List Nat} {S : List (Nat × Obj)} {vs : List VR} {ro : List Sg} {rest : List Oper}
theorem HV.bseg {w : World} (h : HV w0 M S vs ro w) (i : Nat) {b : Nat} {cs : Array Value} {T : TypeId} {fr : Nat × Nat} (hi : S[i]? = some (b, .cells cs T fr)) : segOK w (b, 0, cs.toList) := .of_block (h.get i hi)
theorem bsep {w : World} {b o : Nat} {xs : List Value} (h : segOK w (b, o, xs)) : segOK w (b, o, xs) ∧ (xs ≠ [] → b ∉ keys [] []) := ⟨h, fun _ => by simp [keys, vbl]⟩
theorem HV.freshV {w w' : World} {L : List (Nat × Obj)} (h : HV w0 M S vs ro w) (hf : Fresh w w' L) : HV w0 M (L ++ S) vs ro w' := by
  have := HS.fresh h hf
  unfold HV
  rw [List.append_assoc]
  exact this
theorem g_callFV {ι : Type} {o : Oper} {d : Nat} {L : ι → List (Nat × Obj)} {ret : ι → Value} {f : FuncId} {x : Operand} {xs : List Operand} {ts : Array TypeId} {fst cap : Array Value} {us args : List Value}
    (ho : o.op = .call ⟨.value x, xs.toArray, ts⟩) (hd : o.dst = some d) (hg : o.guard = none) (hn : Nat.blt d n = true)
    (hx : ev e x = some (.func (.func f) fst cap)) (hxs : evs e xs = some us) (ha : fst.toList ++ us ++ cap.toList = args)
    (hf : ∀ args w, (callFunc f args).run P w = .ok (.enter f args) w)
    (hc : ∀ w, HV w0 M S vs ro w → Calls P f args.toArray w (fun en w' => ∃ i, en = .returned (ret i) ∧ Fresh w w' (L i)))
    (h : ∀ i, G n ds ((d, ret i) :: e) (HV w0 M (L i ++ S) vs ro) (wpListIn (fw r) 0 P ops Q rest)) : G n ds e (HV w0 M S vs ro) (wpListIn (fw r) 0 P ops Q (o :: rest)) :=
  g_call (H' := fun i w' => HV w0 M (L i ++ S) vs ro w') ho hd hg hn hx hxs ha hf (fun w hh => (hc w hh).mono (by rintro en w' ⟨i, rfl, hF⟩; exact ⟨i, rfl, hh.freshV hF⟩)) h
end desks
section
variable {P : Program} {e : EnvL} {w : World} {dst : Option Nat} {ty : TypeId} {pos : String} {after : Array Edge} {g : Option (Nat × Bool)}
theorem v_neqT {t u : TypeId} {x y : Operand} {k : IntKind} {m m' : Int} (h : ¬ (m = m')) (hx : ev e x = some (.int k m)) (hy : ev e y = some (.int k m')) : Val P e w ⟨dst, .binOp .neq t x y u, ty, pos, after, g⟩ (.bool true) := by
  have := v_neq (P := P) (w := w) (dst := dst) (ty := ty) (pos := pos) (after := after) (g := g) (t := t) (u := u) hx hy
  simpa [h] using this
end
section tails
theorem enc_drop {α : Type} (R : Row α) : ∀ (m : Nat) (l : List α), R.enc (l.drop m) = (R.enc l).drop (m * R.sz)
  | 0, l => by simp
  | m + 1, [] => by simp [Row.enc]
  | m + 1, x :: l => by
    rw [List.drop_succ_cons, enc_drop R m l, Nat.succ_mul, Nat.add_comm, ← List.drop_drop]
    congr 1
    have h := R.len x
    show R.enc l = (R.cells x ++ R.enc l).drop R.sz
    rw [← h, List.drop_left]
/-- where the tail of a slice lies -/
def tailQ (q : Option (Nat × Nat)) (sz m cap : Nat) : Option (Nat × Nat) := q.map fun p => (p.1, if cap = m then p.2 else p.2 + m * sz)
variable {w0 w : World} {M : List Nat} {S : List (Nat × Obj)} {vs : List VR} {ro : List Sg}
theorem HV.tail {α : Type} (R : Row α) (h : HV w0 M S vs ro w) (i : Nat) {l : List α} {q : Option (Nat × Nat)} {m cap : Nat} (hi : ro[i]? = some (bk q, off q, R.enc l)) (hq : 0 < l.length → q ≠ none) (hc : l.length ≤ cap) (hm : m ≤ l.length) :
    HV w0 M S vs ((bk (tailQ q R.sz m cap), off (tailQ q R.sz m cap), R.enc (l.drop m)) :: ro) w := by
  have h0 : HS w0 M (S ++ vbl vs) ro w := h
  have hs := h0.roOK _ (List.mem_of_getElem? hi)
  have hp := h0.sep _ (List.mem_of_getElem? hi)
  have e : R.enc (l.drop m) ≠ [] → m < l.length := fun hne => by
    refine Classical.byContradiction fun hc => hne ?_
    rw [List.drop_eq_nil_of_le (by omega)]
    rfl
  have hne : R.enc (l.drop m) ≠ [] → R.enc l ≠ [] := fun h1 h2 => by
    rw [enc_drop, h2] at h1
    simp at h1
  have hb : bk (tailQ q R.sz m cap) = bk q := by cases q <;> rfl
  refine (⟨h0.os, h0.tape, h0.output, h0.size, h0.old, h0.ownOK, h0.new, h0.nodup, fun s hs' => ?_, fun s hs' hx => ?_⟩ : HS w0 M (S ++ vbl vs) _ w)
  · rcases List.mem_cons.1 hs' with rfl | hs'
    · by_cases hn : m < l.length
      · have hoff : off (tailQ q R.sz m cap) = off q + m * R.sz ∨ q = none := by
          cases q with
          | none => exact .inr rfl
          | some p => left; show (if cap = m then p.2 else p.2 + m * R.sz) = p.2 + m * R.sz; rw [if_neg (by omega)]
        have hsub : segOK w (bk q, off q + m * R.sz, R.enc (l.drop m)) := segOK.sub hs (m * R.sz) (fun j hj => by
          simp only [enc_drop] at hj ⊢
          rw [List.getElem_drop]
          simp only [List.length_drop] at hj
          rw [List.getElem?_eq_getElem (by omega)])
        rcases hoff with h1 | h1
        · rw [hb, h1]; exact hsub
        · exact absurd h1 (hq (by omega))
      · rw [List.drop_eq_nil_of_le (by omega)]
        exact segOK.nil
    · exact h0.roOK s hs'
  · rcases List.mem_cons.1 hs' with rfl | hs'
    · show bk (tailQ q R.sz m cap) ∉ _
      rw [hb]
      exact hp (hne hx)
    · exact h0.sep s hs' hx
end tails
section
variable {P : Program} {e : EnvL} {w : World} {dst : Option Nat} {ty : TypeId} {pos : String} {after : Array Edge} {g : Option (Nat × Bool)}
end
end Go.Gx

namespace Go.Gx
open Go Go.Fw
/-! ### maps: plain lists of keys and values, in the order in which the keys came -/
def afind {α β : Type} [DecidableEq α] : List (α × β) → α → Nat → Option (Nat × β)
  | [], _, _ => none
  | (k', v) :: r, k, i => if k = k' then some (i, v) else afind r k (i + 1)
def gents {α β : Type} (ke : α → Value) (ve : β → Value) : Nat → List (α × β) → List MapEntry
  | _, [] => []
  | j, (k, v) :: r => ⟨ke k, ve v, j⟩ :: gents ke ve (j + 1) r
def gobj {α β : Type} (ke : α → Value) (ve : β → Value) (l : List (α × β)) : Obj := .map (gents ke ve 0 l).toArray l.length
section
variable {α β : Type} {ke : α → Value} {ve : β → Value}
variable [DecidableEq α]
def kI (n : Int) : Value := .int .i64 n
/-- keys of this type are found by what they say -/
structure KeyOK (P : Program) (K : TypeId) {α : Type} [DecidableEq α] (ke : α → Value) : Prop where
  chk : ∀ b k w, (Instr.checkKey b 10000 K (ke k)).run P w = .ok () w
  fnd : ∀ {β : Type} (ve : β → Value) (l : List (α × β)) (j : Nat) (k : α) (w : World), (Instr.findKey K (ke k) (gents ke ve j l)).run P w = .ok ((afind l k 0).map fun p => (p.1, ve p.2)) w
  sta : ∀ k w, (Instr.keyThatStays (ke k) (ke k)).run P w = .ok (ke k) w
theorem findNow_int {κ : IntKind} {k : Int} {ve : β → Value} : ∀ (l : List (Int × β)) (j i : Nat), Instr.findNow (.int κ) (.int .i64 k) (gents kI ve j l) i = some ((afind l k i).map fun p => (p.1, ve p.2))
  | [], _, _ => rfl
  | (k', v) :: r, j, i => by
    simp only [gents, kI, Instr.findNow, Instr.sameNow, if_true, afind]
    by_cases h : k = k'
    · simp [h]
    · have h2 : (k == k') = false := by simpa using h
      simp only [h2, h, if_false]
      exact findNow_int r (j + 1) (i + 1)
theorem KeyOK.int {P : Program} {K : TypeId} {κ : IntKind} (hu : ∀ w, (underlying K).run P w = .ok (.int κ) w) : KeyOK P K kI where
  chk b k w := by
    rw [show (10000 : Nat) = 9999 + 1 from rfl, Instr.checkKey]
    simp only [Sem.run_bind, hu, Result.andThen_ok, Sem.run_pure]
  fnd ve l j k w := by
    have h := findNow_int (κ := κ) (k := k) (ve := ve) l j 0
    simp only [Instr.findKey, Sem.run_bind, hu, Result.andThen_ok, kI, h, Sem.run_pure]
  sta k w := by simp [kI, Instr.keyThatStays, Instr.sameBits]
end
section
variable {P : Program} {w : World} {e : EnvL} {dst : Option Nat} {ty : TypeId} {pos : String} {after : Array Edge} {g : Option (Nat × Bool)}
variable {α β : Type} {ke : α → Value} {ve : β → Value}
variable [DecidableEq α]
end
section
variable {n : Nat} {ds : List Deferred} {e : EnvL} {P : Program} {r : Option Nat} {Q : Exit → Act → World → Prop} {ops : Array Oper} {w0 : World} {M : List Nat} {S : List (Nat × Obj)} {vs : List VR} {ro : List Sg} {rest : List Oper}
variable {α β : Type}
variable {ke : α → Value} {ve : β → Value}
theorem HV.mget {w : World} (hh : HV w0 M S vs ro w) (i : Nat) {b : Nat} {l : List (α × β)} (hi : S[i]? = some (b, gobj ke ve l)) : w.heap[b]? = some (gobj ke ve l) := hh.get i hi
variable [DecidableEq α]
end
end Go.Gx

namespace Go.Gx
open Go Go.Fw
section
variable {P : Program} {e : EnvL} {w : World} {dst : Option Tmp} {ty : TypeId} {pos : String} {after : Array Edge} {g : Option (Nat × Bool)}
theorem segCell {b o : Nat} {xs : List Value} (h : segOK w (b, o, xs)) (j : Nat) {v : Value} (hv : xs[j]? = some v) : w.cell? ⟨b, o + j, none⟩ = some v := h.at hv
end
section
variable {w0 w : World} {M : List Nat} {S : List (Nat × Obj)} {vs : List VR} {ro : List Sg}
/-- a block of the call's own lies apart from what is handed over -/
theorem HV.bsepH {S0 : List (Nat × Obj)} {vs0 : List VR} (h : HV w0 M (S0 ++ S) (vs0 ++ vs) ro w) (i : Nat) {b : Nat} {cs : Array Value} {T : TypeId} {fr : Nat × Nat} (hi : S[i]? = some (b, .cells cs T fr)) : segOK w (b, 0, cs.toList) ∧ (cs.toList ≠ [] → b ∉ keys S0 vs0) := by
  have hg : (S0 ++ S)[S0.length + i]? = some (b, .cells cs T fr) := by rw [List.getElem?_append_right (by omega)]; simpa using hi
  refine ⟨.of_block (h.get _ hg), fun _ hm => ?_⟩
  have hp : ((S0 ++ S) ++ vbl (vs0 ++ vs)).Perm ((S0 ++ vbl vs0) ++ (S ++ vbl vs)) := by
    rw [vbl_append]
    simp only [List.append_assoc]
    refine List.Perm.append_left _ ?_
    rw [← List.append_assoc, ← List.append_assoc]
    exact List.Perm.append_right _ List.perm_append_comm
  have hnd := (HS.perm h hp).nodup
  rw [List.map_append, List.nodup_append] at hnd
  exact hnd.2.2 _ hm b (List.mem_map.2 ⟨_, List.mem_append_left _ (List.mem_of_getElem? hi), rfl⟩) rfl
end
end Go.Gx

namespace Go.Gx
open Go Go.Fw
section
variable {P : Program} {b : Frame} {a : Act} {k : List Item} {cs : List Frame} {w : World} {F : Fence} {n : Nat}
theorem stepR_scope {c : Code} : step P (lone (b.atR a (.code (.scope c) :: k)) cs w) = .next (lone (b.atR a (.code c :: .inScope c :: k)) cs w) :=
  step_lone_go (by simp [stepG, stepG.exec, Frame.atR])
theorem stepR_inScope {c : Code} : step P (lone (b.atR a (.inScope c :: k)) cs w) = .next (lone (b.atR a k) cs w) :=
  step_lone_go (by simp [stepG, stepG.exec, Frame.atR])
/-- what lies behind a scope that is not jumped into -/
def scpQ (Q : Exit → Act → World → Prop) : Exit → Act → World → Prop
  | .normal => Q .normal
  | .exit id => Q (.exit id)
  | .goto _ => fun _ _ => False
  | .ret => Q .ret
  | .panic c => Q (.panic c)
  | .outgrown => Q .outgrown
theorem wpIn_scope {c : Code} {Q : Exit → Act → World → Prop} (h : c.wpIn F n P (scpQ Q) a w) : (Code.scope c).wpIn F n P Q a w := by
  intro b k cs hro hb hr
  have h0 : (lone (b.atR a (.code (.scope c) :: k)) cs w).fenced P F := fenced_calm hb hr rfl
  obtain ⟨e, a₁, w₁, hq, harr⟩ := h b (.inScope c :: k) cs hro hb hr
  cases e with
  | normal => exact ⟨.normal, a₁, w₁, hq, .head h0 stepR_scope (StepsIn.trans harr (.one (fenced_calm hb hr rfl) stepR_inScope))⟩
  | exit id =>
    have hx : exitTo id (.inScope c :: k) = exitTo id k := by simp [exitTo]
    exact ⟨.exit id, a₁, w₁, hq, fun k' hk => .head h0 stepR_scope (harr.1 k' (by rw [hx]; exact hk)),
      fun hr' hk => let ⟨k₁, h1, h2⟩ := harr.2 hr' (by rw [hx]; exact hk); ⟨k₁, h1, .head h0 stepR_scope h2⟩⟩
  | goto l => exact hq.elim
  | ret => exact ⟨_, a₁, w₁, hq, .of_steps (.one h0 stepR_scope) harr⟩
  | panic ch => exact ⟨_, a₁, w₁, hq, .of_steps (.one h0 stepR_scope) harr⟩
  | outgrown => exact ⟨_, a₁, w₁, hq, .of_steps (.one h0 stepR_scope) harr⟩
end
section
variable {n : Nat} {ds : List Deferred} {e : EnvL} {H : World → Prop} {P : Program} {F : Fence} {Q : Exit → Act → World → Prop}
theorem g_scope {c : Code} (h : G n ds e H (c.wpIn F 0 P (scpQ Q))) : G n ds e H ((Code.scope c).wpIn F 0 P Q) := fun a w he hh => wpIn_scope (h a w he hh)
theorem g_label {l : Nat} (h : G n ds e H (Q .normal)) : G n ds e H ((Code.label l).wpIn F 0 P Q) := fun a w he hh => wpIn_label (h a w he hh)
theorem g_r_scp (h : G n ds e H (Q .ret)) : G n ds e H (scpQ Q .ret) := h
end
end Go.Gx

namespace Go.Gx
open Go Go.Fw

/-! ### lists of lists: a slice of headers, on which its rows hang -/
def RwH : Row VL := ⟨1, fun L => [slv L.q L.n L.cap], fun _ => rfl, fun _ => rfl⟩
abbrev vl0 : VL := ⟨none, 0, 0, []⟩
def dbl {α : Type} (E : TypeId) (R : Row α) : List (List α) → List VL → List (Nat × Obj)
  | x :: l, L :: r => vown E (R.enc x) L.sp L.q ++ dbl E R l r
  | _, _ => []
structure DOK {α : Type} (R : Row α) (l : List (List α)) (rs : List VL) : Prop where
  len : l.length = rs.length
  ok : ∀ (k : Nat) (x : List α) (L : VL), l[k]? = some x → rs[k]? = some L → VOK R.sz L.n L.cap (R.enc x) L.sp L.q
structure DL where
  v : VL
  rs : List VL

section plain
variable {α : Type} {R : Row α} {E : TypeId}
theorem DOK.nil : DOK R ([] : List (List α)) [] := ⟨rfl, fun k x L h => by simp at h⟩
theorem DOK.tail {x : List α} {l : List (List α)} {L : VL} {rs : List VL} (h : DOK R (x :: l) (L :: rs)) : DOK R l rs := ⟨by have := h.len; simpa using this, fun k y M hy hM => h.ok (k + 1) y M (by simpa using hy) (by simpa using hM)⟩
theorem DOK.rep (k : Nat) : DOK R (List.replicate k ([] : List α)) (List.replicate k vl0) := ⟨by simp, fun j x L hx hL => by
  have h1 := List.mem_of_getElem? hx
  have h2 := List.mem_of_getElem? hL
  rw [List.eq_of_mem_replicate h1, List.eq_of_mem_replicate h2]
  exact VOK.nil⟩
theorem DOK.set {l : List (List α)} {rs : List VL} (h : DOK R l rs) (k : Nat) {x : List α} {L : VL} (hv : VOK R.sz L.n L.cap (R.enc x) L.sp L.q) : DOK R (l.set k x) (rs.set k L) := ⟨by simp [h.len], fun j y M hy hM => by
  rw [List.getElem?_set] at hy hM
  by_cases hjk : k = j
  · subst hjk
    rw [if_pos rfl] at hy hM
    split at hy <;> cases hy
    split at hM <;> cases hM
    exact hv
  · rw [if_neg hjk] at hy hM
    exact h.ok j y M hy hM⟩
theorem DOK.append {l m : List (List α)} {rs rm : List VL} (h : DOK R l rs) (hm : DOK R m rm) : DOK R (l ++ m) (rs ++ rm) := ⟨by simp [h.len, hm.len], fun j y M hy hM => by
  by_cases hj : j < l.length
  · rw [List.getElem?_append_left hj] at hy
    rw [List.getElem?_append_left (by rw [← h.len]; exact hj)] at hM
    exact h.ok j y M hy hM
  · have hj2 : l.length ≤ j := Nat.le_of_not_lt hj
    rw [List.getElem?_append_right hj2] at hy
    rw [List.getElem?_append_right (by rw [← h.len]; exact hj2)] at hM
    exact hm.ok _ y M hy (by rw [h.len]; exact hM)⟩
theorem DOK.row {l : List (List α)} {rs : List VL} (h : DOK R l rs) {i : Int} {x : List α} (hx : ix l i = some x) : ∃ L : VL, ix rs i = some L ∧ VOK R.sz L.n L.cap (R.enc x) L.sp L.q := by
  obtain ⟨h0, h1, h2⟩ := ixO hx
  have h3 : i.toNat < rs.length := by rw [← h.len]; exact h1
  refine ⟨rs[i.toNat], ?_, h.ok i.toNat x _ h2 (List.getElem?_eq_getElem h3)⟩
  unfold ix
  rw [if_neg (by omega)]
  exact List.getElem?_eq_getElem h3
theorem dbl_rep : ∀ k, dbl E R (List.replicate k ([] : List α)) (List.replicate k vl0) = []
  | 0 => rfl
  | k + 1 => by rw [List.replicate_succ, List.replicate_succ, dbl, dbl_rep k]; rfl
/-- a row in the place of another one -/
theorem dbl_set : ∀ (l : List (List α)) (rs : List VL) (k : Nat) (x y : List α) (L M : VL), l[k]? = some x → rs[k]? = some L → (dbl E R l rs ++ vown E (R.enc y) M.sp M.q).Perm (dbl E R (l.set k y) (rs.set k M) ++ vown E (R.enc x) L.sp L.q)
  | [], _, _, _, _, _, _, h, _ => by simp at h
  | _ :: _, [], _, _, _, _, _, _, h => by simp at h
  | z :: l, N :: rs, 0, x, y, L, M, hx, hL => by
    simp only [List.getElem?_cons_zero, Option.some.injEq] at hx hL
    subst hx hL
    simp only [List.set_cons_zero, dbl]
    refine List.perm_append_comm.trans ?_
    rw [List.append_assoc]
    exact List.Perm.append_left _ List.perm_append_comm
  | z :: l, N :: rs, k + 1, x, y, L, M, hx, hL => by
    simp only [List.set_cons_succ, dbl, List.append_assoc]
    exact List.Perm.append_left _ (dbl_set l rs k x y L M (by simpa using hx) (by simpa using hL))
theorem dbl_mem : ∀ (l : List (List α)) (rs : List VL) (k : Nat) (x : List α) (L : VL), l[k]? = some x → rs[k]? = some L → ∀ p, p ∈ vown E (R.enc x) L.sp L.q → p ∈ dbl E R l rs
  | [], _, _, _, _, h, _, _, _ => by simp at h
  | _ :: _, [], _, _, _, _, h, _, _ => by simp at h
  | z :: l, N :: rs, 0, x, L, hx, hL, p, hp => by
    simp only [List.getElem?_cons_zero, Option.some.injEq] at hx hL
    subst hx hL
    simp only [dbl, List.mem_append]
    exact .inl hp
  | z :: l, N :: rs, k + 1, x, L, hx, hL, p, hp => by
    simp only [dbl, List.mem_append]
    exact .inr (dbl_mem l rs k x L (by simpa using hx) (by simpa using hL) p hp)
theorem ix_rs {rs : List VL} {i : Int} {L : VL} (h : ix rs i = some L) : rs[i.toNat]? = some L := (ixO h).2.2
theorem makecL {β : Type} (z' : β) {bytes : Nat} {z : α} {n c : Int} {r : List α} (h : makec bytes z n c = some r) : makec bytes z' n c = some (List.replicate n.toNat z') := by
  obtain ⟨_, h1, h2, h3, h4⟩ := makecO h
  unfold makec
  rw [if_pos ⟨h1, h2, h3, h4⟩]
theorem set_back {β : Type} {l : List β} {k : Nat} {x y : β} (h : l[k]? = some x) : (l.set k y).set k x = l := by
  rw [List.set_set]
  obtain ⟨h1, h2⟩ := List.getElem?_eq_some_iff.1 h
  rw [← h2, List.set_getElem_self]
end plain

section hv
variable {w0 w : World} {M : List Nat} {S : List (Nat × Obj)} {vs : List VR} {ro : List Sg} {α : Type} {R : Row α} {E E2 : TypeId}
theorem HV.re {S' : List (Nat × Obj)} {vs' : List VR} {rest : List (Nat × Obj)} (h : HV w0 M S vs ro w) (hp : (S ++ vbl vs).Perm ((S' ++ vbl vs') ++ rest)) : HV w0 M S' vs' ro w :=
  (HS.perm h hp).drop (List.sublist_append_left _ _)
/-- a slice goes into a row -/
theorem HV.dput {hs sp : List Value} {q : Option (Nat × Nat)} {l : List (List α)} {rs : List VL} {x : List α} {Lsp : List Value} {Lq : Option (Nat × Nat)} {k : Nat} {n cap : Nat} (h : HV w0 M S (⟨E, hs, sp, q, dbl E2 R l rs⟩ :: ⟨E2, R.enc x, Lsp, Lq, []⟩ :: vs) ro w) (hl : l.length = rs.length) (hk : k < l.length) :
    HV w0 M S (⟨E, hs, sp, q, dbl E2 R (l.set k x) (rs.set k ⟨Lq, n, cap, Lsp⟩)⟩ :: vs) ro w := by
  have h1 : l[k]? = some l[k] := List.getElem?_eq_getElem hk
  have h2 : rs[k]? = some (rs[k]'(by omega)) := List.getElem?_eq_getElem _
  refine h.re (rest := vown E2 (R.enc l[k]) (rs[k]'(by omega)).sp (rs[k]'(by omega)).q) ?_
  simp only [vbl, VR.bl, List.append_nil, List.append_assoc]
  refine List.Perm.append_left _ (List.Perm.append_left _ ?_)
  have h3 := dbl_set (E := E2) (R := R) l rs k l[k] x (rs[k]'(by omega)) ⟨Lq, n, cap, Lsp⟩ h1 h2
  rw [← List.append_assoc]
  refine (List.Perm.append_right (vbl vs) h3).trans ?_
  rw [List.append_assoc]
  exact List.Perm.append_left _ List.perm_append_comm
/-- a row comes out -/
theorem HV.dtake {hs sp : List Value} {q : Option (Nat × Nat)} {l : List (List α)} {rs : List VL} {x : List α} {L : VL} {k : Nat} (h : HV w0 M S (⟨E, hs, sp, q, dbl E2 R l rs⟩ :: vs) ro w) (hx : l[k]? = some x) (hL : rs[k]? = some L) :
    HV w0 M S (⟨E, hs, sp, q, dbl E2 R (l.set k []) (rs.set k vl0)⟩ :: ⟨E2, R.enc x, L.sp, L.q, []⟩ :: vs) ro w := by
  refine h.re (rest := []) ?_
  simp only [vbl, VR.bl, List.append_nil, List.append_assoc]
  refine List.Perm.append_left _ (List.Perm.append_left _ ?_)
  have h3 := dbl_set (E := E2) (R := R) l rs k x [] L vl0 hx hL
  rw [← List.append_assoc]
  refine List.Perm.append_right (vbl vs) ?_
  simpa [vown] using h3
/-- a row, to be read -/
theorem HV.dseg (h : HV w0 M S vs ro w) (i : Nat) {hs sp : List Value} {q : Option (Nat × Nat)} {l : List (List α)} {rs : List VL} {x : List α} {L : VL} {k : Int} (hi : vs[i]? = some ⟨E, hs, sp, q, dbl E2 R l rs⟩) (hx : ix l k = some x) (hL : ix rs k = some L) {n cap : Nat} (hv : VOK R.sz n cap (R.enc x) L.sp L.q) : segOK w (bk L.q, off L.q, R.enc x) := by
  cases hq : L.q with
  | none =>
    rw [hv.noneNil hq]
    exact segOK.nil
  | some p =>
    have ho := hv.hoff p hq
    have hm : (p.1, Obj.cells (R.enc x ++ L.sp).toArray E2 (0, 0)) ∈ S ++ vbl vs := by
      refine HV.vmem i hi _ ?_
      simp only [VR.bl, List.mem_append]
      exact .inr (dbl_mem l rs k.toNat x L (ixO hx).2.2 (ix_rs hL) _ (by simp [hq, vown]))
    have hb := h.hs.ownOK _ hm
    have h3 : segOK w (p.1, 0, R.enc x ++ L.sp) := .of_block hb
    intro j hj
    have h5 : j < (R.enc x ++ L.sp).length := by simp at hj ⊢; omega
    have := h3 j h5
    simp only at this hj ⊢
    simp only [bk, off, Option.getD_some, ho]
    rw [this, List.getElem_append_left hj]
/-- lent to a call -/
theorem HV.dsep {S0 : List (Nat × Obj)} {vs0 : List VR} (h : HV w0 M (S0 ++ S) (vs0 ++ vs) ro w) (i : Nat) {hs sp : List Value} {q : Option (Nat × Nat)} {l : List (List α)} {rs : List VL} {x : List α} {L : VL} {k : Int} (hi : vs[i]? = some ⟨E, hs, sp, q, dbl E2 R l rs⟩) (hx : ix l k = some x) (hL : ix rs k = some L) {n cap : Nat} (hv : VOK R.sz n cap (R.enc x) L.sp L.q) : segOK w (bk L.q, off L.q, R.enc x) ∧ (R.enc x ≠ [] → bk L.q ∉ keys S0 vs0) := by
  have hseg : segOK w (bk L.q, off L.q, R.enc x) := HV.dseg h (vs0.length + i) (by rw [List.getElem?_append_right (by omega)]; simpa using hi) hx hL hv
  refine ⟨hseg, fun hne hm => ?_⟩
  cases hq : L.q with
  | none => exact hne (hv.noneNil hq)
  | some p =>
    have hp : ((S0 ++ S) ++ vbl (vs0 ++ vs)).Perm ((S0 ++ vbl vs0) ++ (S ++ vbl vs)) := by
      rw [vbl_append]
      simp only [List.append_assoc]
      refine List.Perm.append_left _ ?_
      rw [← List.append_assoc, ← List.append_assoc]
      exact List.Perm.append_right _ List.perm_append_comm
    have hnd := (HS.perm h hp).nodup
    rw [List.map_append, List.nodup_append] at hnd
    refine hnd.2.2 _ hm p.1 ?_ (by simp [hq, bk])
    refine List.mem_map.2 ⟨(p.1, .cells (R.enc x ++ L.sp).toArray E2 (0, 0)), HV.vmem (S := S) i hi _ ?_, rfl⟩
    simp only [VR.bl, List.mem_append]
    exact .inr (dbl_mem l rs k.toNat x L (ixO hx).2.2 (ix_rs hL) _ (by simp [hq, vown]))
theorem HV.dsepA {S0 : List (Nat × Obj)} {vs0 : List VR} (h : HV w0 M (S0 ++ S) (vs0 ++ vs) ro w) (i : Nat) {hs sp : List Value} {q : Option (Nat × Nat)} {l : List (List α)} {rs : List VL} {x : List α} {L : VL} {k : Int} (hi : vs[i]? = some ⟨E, hs, sp, q, dbl E2 R l rs⟩) (hx : ix l k = some x) (hL : ix rs k = some L) {n cap : Nat} (hv : VOK R.sz n cap (R.enc x) L.sp L.q) : segOK w (aB (qA L.q), aO (qA L.q), R.enc x) ∧ (R.enc x ≠ [] → aB (qA L.q) ∉ keys S0 vs0) := by
  have := h.dsep i hi hx hL hv
  cases hq : L.q <;> rw [hq] at this <;> exact this
end hv

/-! lent lists of lists -/
structure AL where
  a : Option Addr
  n : Nat
  cap : Nat
def RwA : Row AL := ⟨1, fun A => [.slice A.a A.n A.cap], fun _ => rfl, fun _ => rfl⟩
def rsg {α : Type} (R : Row α) : List (List α) → List AL → List Sg
  | x :: l, A :: r => (aB A.a, aO A.a, R.enc x) :: rsg R l r
  | _, _ => []
structure DRO {α : Type} (l : List (List α)) (ar : List AL) : Prop where
  len : l.length = ar.length
  ok : ∀ (k : Nat) (x : List α) (A : AL), l[k]? = some x → ar[k]? = some A → x.length = A.n ∧ AOK A.n A.a ∧ A.n ≤ A.cap
def toAL (rs : List VL) : List AL := rs.map fun L => ⟨qA L.q, L.n, L.cap⟩
section ro
variable {α : Type} {R : Row α}
theorem DRO.row {l : List (List α)} {ar : List AL} (h : DRO l ar) {i : Int} {x : List α} (hx : ix l i = some x) : ∃ A : AL, ix ar i = some A ∧ x.length = A.n ∧ AOK A.n A.a ∧ A.n ≤ A.cap := by
  obtain ⟨h0, h1, h2⟩ := ixO hx
  have h3 : i.toNat < ar.length := by rw [← h.len]; exact h1
  refine ⟨ar[i.toNat], ?_, h.ok i.toNat x _ h2 (List.getElem?_eq_getElem h3)⟩
  unfold ix
  rw [if_neg (by omega)]
  exact List.getElem?_eq_getElem h3
theorem rsg_mem : ∀ (l : List (List α)) (ar : List AL) (k : Nat) (x : List α) (A : AL), l[k]? = some x → ar[k]? = some A → (aB A.a, aO A.a, R.enc x) ∈ rsg R l ar
  | [], _, _, _, _, h, _ => by simp at h
  | _ :: _, [], _, _, _, _, h => by simp at h
  | z :: l, N :: rs, 0, x, L, hx, hL => by
    simp only [List.getElem?_cons_zero, Option.some.injEq] at hx hL
    subst hx hL
    exact List.mem_cons_self
  | z :: l, N :: rs, k + 1, x, L, hx, hL => List.mem_cons_of_mem _ (rsg_mem l rs k x L (by simpa using hx) (by simpa using hL))
theorem rsg_of : ∀ (l : List (List α)) (ar : List AL) (t : Sg), t ∈ rsg R l ar → ∃ (k : Nat) (x : List α) (A : AL), l[k]? = some x ∧ ar[k]? = some A ∧ t = (aB A.a, aO A.a, R.enc x)
  | [], _, t, h => by simp [rsg] at h
  | _ :: _, [], t, h => by simp [rsg] at h
  | z :: l, N :: rs, t, h => by
    simp only [rsg, List.mem_cons] at h
    rcases h with h | h
    · exact ⟨0, z, N, rfl, rfl, h⟩
    · obtain ⟨k, x, A, h1, h2, h3⟩ := rsg_of l rs t h
      exact ⟨k + 1, x, A, by simpa using h1, by simpa using h2, h3⟩
theorem rsg_ix {l : List (List α)} {ar : List AL} {i : Int} {x : List α} {A : AL} (hx : ix l i = some x) (hA : ix ar i = some A) : (aB A.a, aO A.a, R.enc x) ∈ rsg R l ar := rsg_mem l ar i.toNat x A (ixO hx).2.2 (ixO hA).2.2
theorem DOK.toDRO {l : List (List α)} {rs : List VL} (h : DOK R l rs) (h0 : Nat.blt 0 R.sz = true) : DRO l (toAL rs) := ⟨by simp [toAL, h.len], fun k x A hx hA => by
  simp only [toAL, List.getElem?_map, Option.map_eq_some_iff] at hA
  obtain ⟨L, hL, rfl⟩ := hA
  have hv := h.ok k x L hx hL
  exact ⟨vlen R hv h0, AOK.q (vne hv), hv.hle⟩⟩
theorem toAL_enc (rs : List VL) : RwA.enc (toAL rs) = RwH.enc rs := by
  induction rs with
  | nil => rfl
  | cons L rs ih =>
    simp only [Row.enc, toAL, List.map_cons, List.flatMap_cons] at ih ⊢
    rw [ih]
    rfl
/-- the rows of a list of lists of the call's own, lent -/
theorem HV.dsepT {w0 w : World} {M : List Nat} {S S0 : List (Nat × Obj)} {vs vs0 : List VR} {ro : List Sg} {E E2 : TypeId} (h : HV w0 M (S0 ++ S) (vs0 ++ vs) ro w) (i : Nat) {hs sp : List Value} {q : Option (Nat × Nat)} {l : List (List α)} {rs : List VL} (hi : vs[i]? = some ⟨E, hs, sp, q, dbl E2 R l rs⟩) (hd : DOK R l rs) : ∀ t, t ∈ rsg R l (toAL rs) → segOK w t ∧ (t.2.2 ≠ [] → t.1 ∉ keys S0 vs0) := fun t ht => by
  obtain ⟨k, x, A, hx, hA, rfl⟩ := rsg_of l (toAL rs) t ht
  simp only [toAL, List.getElem?_map, Option.map_eq_some_iff] at hA
  obtain ⟨L, hL, rfl⟩ := hA
  have e1 : ix l (k : Int) = some x := by unfold ix; rw [if_neg (by omega)]; simpa using hx
  have e2 : ix rs (k : Int) = some L := by unfold ix; rw [if_neg (by omega)]; simpa using hL
  exact h.dsepA i hi e1 e2 (hd.ok k x L hx hL)
/-- what was there before the call, and is not handed over, still is -/
theorem HV.oldseg {w0 w : World} {M : List Nat} {S : List (Nat × Obj)} {vs : List VR} {ro : List Sg} (h : HV w0 M S vs ro w) {s : Sg} (hs : segOK w0 s ∧ (s.2.2 ≠ [] → s.1 ∉ M)) : segOK w s := fun j hj => by
  have hne : s.2.2 ≠ [] := by intro e; rw [e] at hj; simp at hj
  rw [cell_of_block (h.hs.old s.1 (hs.1.lt hne) (hs.2 hne))]
  exact hs.1 j hj
theorem HV.oldsep {w0 w : World} {M : List Nat} {S S0 : List (Nat × Obj)} {vs vs0 : List VR} {ro : List Sg} (h : HV w0 M (S0 ++ S) (vs0 ++ vs) ro w) {s : Sg} (hs : segOK w0 s ∧ (s.2.2 ≠ [] → s.1 ∉ M)) : segOK w s ∧ (s.2.2 ≠ [] → s.1 ∉ keys S0 vs0) := by
  refine ⟨h.oldseg hs, fun hne hm => ?_⟩
  obtain ⟨p, hp, he⟩ := List.mem_map.1 hm
  have hp2 : p ∈ (S0 ++ S) ++ vbl (vs0 ++ vs) := by
    rw [vbl_append]
    simp only [List.mem_append] at hp ⊢
    rcases hp with hp | hp
    · exact .inl (.inl hp)
    · exact .inr (.inl hp)
  have hlt := hs.1.lt hne
  rcases h.hs.new p hp2 with h1 | h1
  · omega
  · exact hs.2 hne (he ▸ h1)
theorem HV.oldT {w0 w : World} {M : List Nat} {S S0 : List (Nat × Obj)} {vs vs0 : List VR} {ro T : List Sg} (h : HV w0 M (S0 ++ S) (vs0 ++ vs) ro w) (hT : ∀ t, t ∈ T → segOK w0 t ∧ (t.2.2 ≠ [] → t.1 ∉ M)) : ∀ t, t ∈ T → segOK w t ∧ (t.2.2 ≠ [] → t.1 ∉ keys S0 vs0) := fun t ht => h.oldsep (hT t ht)
/-- the headers of a list of lists of the call's own, lent -/
theorem HV.vsepD {w0 w : World} {M : List Nat} {S S0 : List (Nat × Obj)} {vs vs0 : List VR} {ro : List Sg} (h : HV w0 M (S0 ++ S) (vs0 ++ vs) ro w) (i : Nat) {E : TypeId} {rs : List VL} {sp : List Value} {q : Option (Nat × Nat)} {sz len cap : Nat} {mo : List (Nat × Obj)} (hi : vs[i]? = some ⟨E, RwH.enc rs, sp, q, mo⟩) (hv : VOK sz len cap (RwH.enc rs) sp q) : segOK w (aB (qA q), aO (qA q), RwA.enc (toAL rs)) ∧ (RwA.enc (toAL rs) ≠ [] → aB (qA q) ∉ keys S0 vs0) := by
  rw [toAL_enc]
  exact h.vsepA i hi hv
end ro

section g
variable {n : Nat} {ds : List Deferred} {e : EnvL} {P : Program} {r : Option Nat} {Q : Exit → Act → World → Prop} {ops : Array Oper} {w0 : World} {M : List Nat} {S : List (Nat × Obj)} {vs : List VR} {ro : List Sg} {rest : List Oper} {α : Type} {X : Act → World → Prop}
theorem g_dput (R : Row α) {E E2 : TypeId} {hs sp : List Value} {q : Option (Nat × Nat)} {l l' : List (List α)} {rs : List VL} {x : List α} {Lsp : List Value} {Lq : Option (Nat × Nat)} (k : Int) (ln cap : Nat) {x0 : List α} (hd : DOK R l rs) (hv : VOK R.sz ln cap (R.enc x) Lsp Lq) (hk : ix l k = some x0) (hl' : l.set k.toNat x = l')
    (h : DOK R l' (rs.set k.toNat ⟨Lq, ln, cap, Lsp⟩) → G n ds e (HV w0 M S (⟨E, hs, sp, q, dbl E2 R l' (rs.set k.toNat ⟨Lq, ln, cap, Lsp⟩)⟩ :: vs) ro) X) : G n ds e (HV w0 M S (⟨E, hs, sp, q, dbl E2 R l rs⟩ :: ⟨E2, R.enc x, Lsp, Lq, []⟩ :: vs) ro) X := by
  subst hl'
  exact (h (hd.set k.toNat hv)).pre fun w hh => hh.dput hd.len (ixO hk).2.1
theorem g_dtake (R : Row α) {E E2 : TypeId} {hs sp : List Value} {q : Option (Nat × Nat)} {l : List (List α)} {rs : List VL} {x : List α} {L : VL} (k : Int) (hd : DOK R l rs) (hx : ix l k = some x) (hL : ix rs k = some L)
    (h : DOK R (l.set k.toNat []) (rs.set k.toNat vl0) → G n ds e (HV w0 M S (⟨E, hs, sp, q, dbl E2 R (l.set k.toNat []) (rs.set k.toNat vl0)⟩ :: ⟨E2, R.enc x, L.sp, L.q, []⟩ :: vs) ro) X) : G n ds e (HV w0 M S (⟨E, hs, sp, q, dbl E2 R l rs⟩ :: vs) ro) X :=
  (h (hd.set k.toNat VOK.nil)).pre fun w hh => hh.dtake (ixO hx).2.2 (ix_rs hL)
/-- a row that was out, back in its place, with the same header -/
theorem g_dback (R : Row α) {E E2 : TypeId} {hs sp : List Value} {q : Option (Nat × Nat)} {l l' : List (List α)} {rs : List VL} {x y : List α} {L : VL} (k : Int) (hd : DOK R l rs) (hx : ix l k = some x) (hL : ix rs k = some L) (hv : VOK R.sz L.n L.cap (R.enc y) L.sp L.q) (hl' : l.set k.toNat y = l')
    (h : DOK R l' rs → G n ds e (HV w0 M S (⟨E, hs, sp, q, dbl E2 R l' rs⟩ :: vs) ro) X) : G n ds e (HV w0 M S (⟨E, hs, sp, q, dbl E2 R (l.set k.toNat []) (rs.set k.toNat vl0)⟩ :: ⟨E2, R.enc y, L.sp, L.q, []⟩ :: vs) ro) X := by
  subst hl'
  have e1 : (l.set k.toNat []).set k.toNat y = l.set k.toNat y := List.set_set _
  have e2 : (rs.set k.toNat vl0).set k.toNat L = rs := set_back (ix_rs hL)
  have h1 := hd.set k.toNat hv
  have e3 : rs.set k.toNat L = rs := by
    obtain ⟨h3, h4⟩ := List.getElem?_eq_some_iff.1 (ix_rs hL)
    rw [← h4, List.set_getElem_self]
  rw [e3] at h1
  refine (h h1).pre fun w hh => ?_
  have := hh.dput (k := k.toNat) (n := L.n) (cap := L.cap) (hd.set (k := k.toNat) (x := []) (L := vl0) VOK.nil).len (by rw [List.length_set]; exact (ixO hx).2.1)
  rw [e1, e2] at this
  exact this
theorem g_drep (R : Row α) {E E2 : TypeId} {sp : List Value} {q : Option (Nat × Nat)} {hs : List Value} {l : List (List α)} (k : Nat) (hl : List.replicate k [] = l) (h : DOK R l (List.replicate k vl0) → G n ds e (HV w0 M S (⟨E, hs, sp, q, dbl E2 R l (List.replicate k vl0)⟩ :: vs) ro) X) : G n ds e (HV w0 M S (⟨E, hs, sp, q, []⟩ :: vs) ro) X := by
  subst hl
  refine (h (DOK.rep k)).pre fun w hh => ?_
  rw [dbl_rep]
  exact hh
end g
end Go.Gx

namespace Go.Proofs
open Go Go.Fw Go.Pl
theorem take_foldl_max {l : List Int} {n : Int} {k : Nat} (h : k < l.length) : (l.take (k + 1)).foldl max n = max ((l.take k).foldl max n) (l.getD k 0) := by
  rw [List.take_succ_eq_append_getElem h, List.foldl_append]
  simp [List.getD_eq_getElem?_getD, h]
set_option maxRecDepth 100000 in
theorem c_in (x lo hi : Int) (w : World) : Ret Try.prog 90 [.int .i64 x, .int .i64 lo, .int .i64 hi] w (.bool (inr x lo hi)) := by
  refine g_enter (args := [.int .i64 x, .int .i64 lo, .int .i64 hi]) Try.func90 rfl Try.ntmps90 rfl (e := [(0, _), (1, _), (2, _)]) rfl (HS.start w [] [] (by simp)) ?_
  refine g_seq ?_
  refine g_region ?_
  refine g_val rfl rfl rfl (fun _ _ => v_assign rfl) ?_
  refine g_nil ?_
  refine g_n_then ?_
  refine g_seq ?_
  refine g_region ?_
  refine g_val rfl rfl rfl (fun _ _ => v_move rfl) ?_
  refine g_val rfl rfl rfl (fun _ _ => v_move rfl) ?_
  refine g_val rfl rfl rfl (fun _ _ => v_geq rfl rfl) ?_
  refine g_val rfl rfl rfl (fun _ _ => v_move rfl) ?_
  refine g_case 10 rfl (fun hg10_1 => ?_) (fun hg10_1 => ?_)
  · replace hg10_1 := of_decide_eq_true hg10_1
    refine g_valG rfl rfl rfl rfl rfl (fun _ _ => v_move rfl) ?_
    refine g_valG rfl rfl rfl rfl rfl (fun _ _ => v_move rfl) ?_
    refine g_valG rfl rfl rfl rfl rfl (fun _ _ => v_leq rfl rfl) ?_
    refine g_val rfl rfl rfl (fun _ _ => v_pickT rfl rfl) ?_
    refine g_val rfl rfl rfl (fun _ _ => v_assign rfl) ?_
    refine g_nil ?_
    refine g_n_then ?_
    refine g_ret ?_
    refine g_done rfl (fun w hh => (.tmp rfl .nil)) (fun w hh => ⟨?_, hh.toExt⟩)
    simp [retv, inr, *]
  · replace hg10_1 := of_decide_eq_false hg10_1
    refine g_skipG rfl rfl rfl rfl rfl rfl ?_
    refine g_skipG rfl rfl rfl rfl rfl rfl ?_
    refine g_skipG rfl rfl rfl rfl rfl rfl ?_
    refine g_val rfl rfl rfl (fun _ _ => v_pickF rfl rfl) ?_
    refine g_val rfl rfl rfl (fun _ _ => v_assign rfl) ?_
    refine g_nil ?_
    refine g_n_then ?_
    refine g_ret ?_
    refine g_done rfl (fun w hh => (.tmp rfl .nil)) (fun w hh => ⟨?_, hh.toExt⟩)
    simp [retv, inr, *]

set_option maxRecDepth 100000 in
theorem c_hgt (x : Int) (w : World) : Ret Try.prog 93 [.int .i64 x] w (.bool (hgt x)) := by
  refine g_enter (args := [.int .i64 x]) Try.func93 rfl Try.ntmps93 rfl (e := [(0, _)]) rfl (HS.start w [] [] (by simp)) ?_
  refine g_seq ?_
  refine g_region ?_
  refine g_val rfl rfl rfl (fun _ _ => v_assign rfl) ?_
  refine g_nil ?_
  refine g_n_then ?_
  refine g_seq ?_
  refine g_region ?_
  refine g_val rfl rfl rfl (fun _ _ => v_move rfl) ?_
  refine g_callv rfl rfl rfl rfl rfl rfl rfl (fun a w => Try.call90 a w) (fun w hh => c_in _ _ _ w) ?_
  refine g_val rfl rfl rfl (fun _ _ => v_assign rfl) ?_
  refine g_nil ?_
  refine g_n_then ?_
  refine g_ret ?_
  refine g_done rfl (fun w hh => (.tmp rfl .nil)) (fun w hh => ⟨?_, hh.toExt⟩)
  rfl

set_option maxRecDepth 100000 in
theorem c_highest (n : Int) (l : List Int) (r : Option (Nat × Nat)) (cap : Nat) (w : World) (hl : l.length ≤ 140737488355328) (hr : 0 < l.length → r ≠ none) (hs : segOK w (bk r, off r, ints l)) : Ret Try.prog 134 [.int .i64 n, slv r l.length cap] w (.int .i64 (l.foldl max n)) := by
  refine g_enter (args := [.int .i64 n, slv r l.length cap]) Try.func134 rfl Try.ntmps134 rfl (e := [(0, _), (1, _)]) rfl (HS.start w [] [(bk r, off r, ints l)] (by simpa using hs)) ?_
  refine g_seq ?_
  refine g_region ?_
  refine g_val rfl rfl rfl (fun _ _ => v_assign rfl) ?_
  refine g_nil ?_
  refine g_n_then ?_
  refine g_seq ?_
  refine g_seq ?_
  refine g_region ?_
  refine g_val rfl rfl rfl (fun _ _ => v_move rfl) ?_
  refine g_val rfl rfl rfl (fun w _ => v_lenS (Try.runUnderlying26 w) rfl) ?_
  refine g_val rfl rfl rfl (fun _ _ => v_move rfl) ?_
  refine g_nil ?_
  refine g_n_then ?_
  refine g_block ?_
  refine g_sub (e' := [(9, _), (0, _), (7, _), (8, _)]) ((.cons rfl (.cons rfl (.cons rfl (.cons rfl .nil))))) ?_
  refine g_loopM (ι := Nat) (fun k => [(9, .int .i64 (k : Nat)), (0, .int .i64 ((l.take k).foldl max n))]) (fun k => []) (fun k => k ≤ l.length) (fun k => l.length - k) 0 (Nat.zero_le _) ?_
  intro k hI0
  refine g_seq ?_
  refine g_region ?_
  refine g_val rfl rfl rfl (fun _ _ => v_lss rfl rfl) ?_
  refine g_nil ?_
  refine g_n_then ?_
  refine g_seq ?_
  refine g_cond rfl (fun hc10_1 => ?_) (fun hc10_1 => ?_)
  · replace hc10_1 := of_decide_eq_true hc10_1
    refine g_skip ?_
    refine g_n_then ?_
    refine g_seq ?_
    refine g_block ?_
    refine g_seq ?_
    refine g_region ?_
    refine g_val rfl rfl rfl (fun w _ => v_indexAddr1 k (Try.runUnderlying26 w) (Try.sizeOf3 w) rfl rfl rfl (by omega) (hr (by omega))) ?_
    refine g_val rfl rfl rfl (fun w hh => v_load (Try.isAgg3 w) rfl (hh.int (j := k) 0 rfl (by omega))) ?_
    refine g_val rfl rfl rfl (fun _ _ => v_assign rfl) ?_
    refine g_nil ?_
    refine g_n_then ?_
    refine g_region ?_
    refine g_val rfl rfl rfl (fun _ _ => v_move rfl) ?_
    refine g_val rfl rfl rfl (fun _ _ => v_move rfl) ?_
    refine g_val rfl rfl rfl (fun _ _ => v_max rfl rfl) ?_
    refine g_val rfl rfl rfl (fun _ _ => v_assign rfl) ?_
    refine g_nil ?_
    refine g_n_blk ?_
    refine g_n_then ?_
    refine g_region ?_
    refine g_val rfl rfl rfl (fun _ _ => v_add rfl rfl (wrap_i64 (by omega))) ?_
    refine g_val rfl rfl rfl (fun _ _ => v_move rfl) ?_
    refine g_nil ?_
    refine g_n_then ?_
    have e1 : (l.take (k + 1)).foldl max n = max ((l.take k).foldl max n) (l.getD k 0) := take_foldl_max (by omega)
    refine g_set 0 rfl (congrArg (Value.int .i64) e1.symm) ?_
    exact g_againM (i := k) (k + 1) [] ((.cons rfl (.cons rfl (.cons rfl (.cons rfl .nil))))) (by decide) rfl (by omega) (by omega)
  · replace hc10_1 := of_decide_eq_false hc10_1
    refine g_exit ?_
    refine g_x_then ?_
    refine g_x_then ?_
    refine g_x_blk ?_
    refine g_n_then ?_
    refine g_seq ?_
    refine g_region ?_
    refine g_val rfl rfl rfl (fun _ _ => v_move rfl) ?_
    refine g_val rfl rfl rfl (fun _ _ => v_assign rfl) ?_
    refine g_nil ?_
    refine g_n_then ?_
    refine g_ret ?_
    have ek : k = l.length := by omega
    subst ek
    refine g_done rfl (fun w hh => (.tmp rfl .nil)) (fun w hh => ⟨?_, hh.toExt⟩)
    simp [retv]

set_option maxRecDepth 100000 in
theorem c_IndexFunc_int (fv : FuncId) (fst cap : Array Value) (p : Int → Bool) (l : List Int) (r : Option (Nat × Nat)) (cp : Nat) (w : World) (hl : l.length ≤ 140737488355328) (hr : 0 < l.length → r ≠ none) (hs : segOK w (bk r, off r, ints l)) (hcall : ∀ a w, (callFunc fv a).run Try.prog w = .ok (.enter fv a) w) (hf : ∀ w', Ext [] w w' → ∀ j, j < l.length → Ret Try.prog fv (fst.toList ++ [.int .i64 (l.getD j 0)] ++ cap.toList) w' (.bool (p (l.getD j 0)))) : Ret Try.prog 143 [slv r l.length cp, .func (.func fv) fst cap] w (.int .i64 (idxf p l)) := by
  refine g_enter (args := [slv r l.length cp, .func (.func fv) fst cap]) Try.func143 rfl Try.ntmps143 rfl (e := [(0, _), (1, _)]) rfl (HS.start w [] [(bk r, off r, ints l)] (by simpa using hs)) ?_
  refine g_seq ?_
  refine g_region ?_
  refine g_val rfl rfl rfl (fun _ _ => v_assign rfl) ?_
  refine g_nil ?_
  refine g_n_then ?_
  refine g_seq ?_
  refine g_seq ?_
  refine g_region ?_
  refine g_val rfl rfl rfl (fun _ _ => v_move rfl) ?_
  refine g_val rfl rfl rfl (fun w _ => v_lenS (Try.runUnderlying26 w) rfl) ?_
  refine g_val rfl rfl rfl (fun _ _ => v_move rfl) ?_
  refine g_nil ?_
  refine g_n_then ?_
  refine g_block ?_
  refine g_sub (e' := [(8, _), (0, _), (1, _), (7, _)]) ((.cons rfl (.cons rfl (.cons rfl (.cons rfl .nil))))) ?_
  refine g_loopM (ι := Nat) (fun k => [(8, .int .i64 (k : Nat))]) (fun k => []) (fun k => k ≤ l.length ∧ ∀ j, j < k → p (l.getD j 0) = false) (fun k => l.length - k) 0 (⟨Nat.zero_le _, fun j hj => absurd hj (by omega)⟩) ?_
  intro k hI0
  refine g_seq ?_
  refine g_region ?_
  refine g_val rfl rfl rfl (fun _ _ => v_lss rfl rfl) ?_
  refine g_nil ?_
  refine g_n_then ?_
  refine g_seq ?_
  refine g_cond rfl (fun hc9_1 => ?_) (fun hc9_1 => ?_)
  · replace hc9_1 := of_decide_eq_true hc9_1
    refine g_skip ?_
    refine g_n_then ?_
    refine g_seq ?_
    refine g_block ?_
    refine g_seq ?_
    refine g_region ?_
    refine g_val rfl rfl rfl (fun _ _ => v_move rfl) ?_
    refine g_val rfl rfl rfl (fun _ _ => v_assign rfl) ?_
    refine g_nil ?_
    refine g_n_then ?_
    refine g_seq ?_
    refine g_region ?_
    refine g_val rfl rfl rfl (fun _ _ => v_move rfl) ?_
    refine g_val rfl rfl rfl (fun _ _ => v_move rfl) ?_
    refine g_val rfl rfl rfl (fun _ _ => v_move rfl) ?_
    refine g_val rfl rfl rfl (fun w _ => v_indexAddr1 k (Try.runUnderlying26 w) (Try.sizeOf3 w) rfl rfl rfl (by omega) (hr (by omega))) ?_
    refine g_val rfl rfl rfl (fun w hh => v_load (Try.isAgg3 w) rfl (hh.int (j := k) 0 rfl (by omega))) ?_
    refine g_callv rfl rfl rfl rfl rfl rfl rfl hcall (fun w hh => hf w hh.toExt _ (by omega)) ?_
    refine g_nil ?_
    refine g_n_then ?_
    refine g_cond rfl (fun hc16_2 => ?_) (fun hc16_2 => ?_)
    · have hc16_2 := hc16_2
      refine g_seq ?_
      refine g_region ?_
      refine g_val rfl rfl rfl (fun _ _ => v_move rfl) ?_
      refine g_val rfl rfl rfl (fun _ _ => v_assign rfl) ?_
      refine g_nil ?_
      refine g_n_then ?_
      refine g_ret ?_
      refine g_r_blk ?_
      refine g_r_then ?_
      refine g_r_then ?_
      refine g_r_blk ?_
      refine g_r_then ?_
      refine g_done rfl (fun w hh => (.tmp rfl .nil)) (fun w hh => ⟨?_, hh.toExt⟩)
      simp [retv, idxf_found (k := k) (by omega) hI0.2 (by assumption)]
    · have hc16_2 := hc16_2
      refine g_skip ?_
      refine g_n_blk ?_
      refine g_n_then ?_
      refine g_region ?_
      refine g_val rfl rfl rfl (fun _ _ => v_add rfl rfl (wrap_i64 (by omega))) ?_
      refine g_val rfl rfl rfl (fun _ _ => v_move rfl) ?_
      refine g_nil ?_
      refine g_n_then ?_
      exact g_againM (i := k) (k + 1) [] ((.cons rfl (.cons rfl (.cons rfl (.cons rfl .nil))))) (by decide) rfl (⟨by omega, fun j hj => by rcases Nat.lt_succ_iff_lt_or_eq.1 hj with h | h; exact hI0.2 j h; subst h; assumption⟩) (by omega)
  · replace hc9_1 := of_decide_eq_false hc9_1
    refine g_exit ?_
    refine g_x_then ?_
    refine g_x_then ?_
    refine g_x_blk ?_
    refine g_n_then ?_
    refine g_seq ?_
    refine g_region ?_
    refine g_val rfl rfl rfl (fun _ _ => v_assign rfl) ?_
    refine g_nil ?_
    refine g_n_then ?_
    refine g_ret ?_
    have ek : k = l.length := by omega
    subst ek
    refine g_done rfl (fun w hh => (.tmp rfl .nil)) (fun w hh => ⟨?_, hh.toExt⟩)
    simp [retv, idxf_none hI0.2]

set_option maxRecDepth 100000 in
theorem c_ContainsFunc_int (fv : FuncId) (fst cap : Array Value) (p : Int → Bool) (l : List Int) (r : Option (Nat × Nat)) (cp : Nat) (w : World) (hl : l.length ≤ 140737488355328) (hr : 0 < l.length → r ≠ none) (hs : segOK w (bk r, off r, ints l)) (hcall : ∀ a w, (callFunc fv a).run Try.prog w = .ok (.enter fv a) w) (hf : ∀ w', Ext [] w w' → ∀ j, j < l.length → Ret Try.prog fv (fst.toList ++ [.int .i64 (l.getD j 0)] ++ cap.toList) w' (.bool (p (l.getD j 0)))) : Ret Try.prog 78 [slv r l.length cp, .func (.func fv) fst cap] w (.bool (l.any p)) := by
  refine g_enter (args := [slv r l.length cp, .func (.func fv) fst cap]) Try.func78 rfl Try.ntmps78 rfl (e := [(0, _), (1, _)]) rfl (HS.start w [] [(bk r, off r, ints l)] (by simpa using hs)) ?_
  refine g_seq ?_
  refine g_region ?_
  refine g_val rfl rfl rfl (fun _ _ => v_assign rfl) ?_
  refine g_nil ?_
  refine g_n_then ?_
  refine g_seq ?_
  refine g_region ?_
  refine g_val rfl rfl rfl (fun _ _ => v_move rfl) ?_
  refine g_val rfl rfl rfl (fun _ _ => v_move rfl) ?_
  refine g_callv rfl rfl rfl rfl rfl rfl rfl (fun a w => Try.call143 a w) (fun w hh => c_IndexFunc_int fv fst cap p l r cp w hl hr (hh.seg 0 rfl) hcall (fun w2 hx j hj => hf w2 (hh.toExt.trans hx) j hj)) ?_
  refine g_val rfl rfl rfl (fun _ _ => v_geq rfl rfl) ?_
  refine g_val rfl rfl rfl (fun _ _ => v_assign rfl) ?_
  refine g_nil ?_
  refine g_n_then ?_
  refine g_ret ?_
  refine g_done rfl (fun w hh => (.tmp rfl .nil)) (fun w hh => ⟨?_, hh.toExt⟩)
  simp only [retv, idxf_nonneg]

set_option maxRecDepth 100000 in
theorem c_every1_int (fv : FuncId) (fst cap : Array Value) (p : Int → Bool) (x : Int) (bx : Nat) (w : World) (hs : segOK w (bx, 0, [.func (.func fv) fst cap])) (hcall : ∀ a w, (callFunc fv a).run Try.prog w = .ok (.enter fv a) w) (hf : ∀ w', Ext [] w w' → Ret Try.prog fv (fst.toList ++ [.int .i64 x] ++ cap.toList) w' (.bool (p x))) : Ret Try.prog 151 [.int .i64 x, ptr bx 0] w (.bool (!p x)) := by
  refine g_enter (args := [.int .i64 x, ptr bx 0]) Try.func151 rfl Try.ntmps151 rfl (e := [(0, _), (1, _)]) rfl (HS.start w [] [(bx, 0, [.func (.func fv) fst cap])] (by simpa using hs)) ?_
  refine g_seq ?_
  refine g_region ?_
  refine g_val rfl rfl rfl (fun _ _ => v_assign rfl) ?_
  refine g_nil ?_
  refine g_n_then ?_
  refine g_seq ?_
  refine g_region ?_
  refine g_val rfl rfl rfl (fun w hh => v_load (Try.isAgg129 w) rfl (hh.rcell 0 0 rfl rfl)) ?_
  refine g_val rfl rfl rfl (fun _ _ => v_move rfl) ?_
  refine g_callv rfl rfl rfl rfl rfl rfl rfl hcall (fun w hh => hf w hh.toExt) ?_
  refine g_val rfl rfl rfl (fun _ _ => v_not rfl) ?_
  refine g_val rfl rfl rfl (fun _ _ => v_assign rfl) ?_
  refine g_nil ?_
  refine g_n_then ?_
  refine g_ret ?_
  refine g_done rfl (fun w hh => (.tmp rfl .nil)) (fun w hh => ⟨?_, hh.toExt⟩)
  rfl

set_option maxRecDepth 100000 in
theorem c_every_int (fv : FuncId) (fst cap : Array Value) (p : Int → Bool) (l : List Int) (r : Option (Nat × Nat)) (cp : Nat) (w : World) (hl : l.length ≤ 140737488355328) (hr : 0 < l.length → r ≠ none) (hs : segOK w (bk r, off r, ints l)) (hcall : ∀ a w, (callFunc fv a).run Try.prog w = .ok (.enter fv a) w) (hf : ∀ w', Ext [] w w' → ∀ j, j < l.length → Ret Try.prog fv (fst.toList ++ [.int .i64 (l.getD j 0)] ++ cap.toList) w' (.bool (p (l.getD j 0)))) : Ret Try.prog 94 [slv r l.length cp, .func (.func fv) fst cap] w (.bool (l.all p)) := by
  refine g_enter (args := [slv r l.length cp, .func (.func fv) fst cap]) Try.func94 rfl Try.ntmps94 rfl (e := [(0, _), (1, _)]) rfl (HS.start w [] [(bk r, off r, ints l)] (by simpa using hs)) ?_
  refine g_seq ?_
  refine g_region ?_
  refine g_box rfl rfl (fun b1 hb1 => ?_)
  refine g_val rfl rfl rfl (fun _ _ => v_assign rfl) ?_
  refine g_nil ?_
  refine g_n_then ?_
  refine g_seq ?_
  refine g_region ?_
  refine g_val rfl rfl rfl (fun _ _ => v_move rfl) ?_
  refine g_val rfl rfl rfl (fun _ _ => v_makeFunc (u := #[]) (u' := #[_]) rfl rfl) ?_
  refine g_callv rfl rfl rfl rfl rfl rfl rfl (fun a w => Try.call78 a w) (fun w hh => c_ContainsFunc_int 151 #[] #[ptr b1 0] (fun x => !p x) l r cp w hl hr (hh.seg 0 rfl) (fun a w => Try.call151 a w) (fun w2 hx j hj => c_every1_int fv fst cap p _ _ w2 ((hh.ownSeg 0 rfl).ext hx (by simp)) hcall (fun w3 hx3 => hf w3 ((hh.toExt.trans hx).trans hx3) j hj))) ?_
  refine g_val rfl rfl rfl (fun _ _ => v_not rfl) ?_
  refine g_val rfl rfl rfl (fun _ _ => v_assign rfl) ?_
  refine g_nil ?_
  refine g_n_then ?_
  refine g_ret ?_
  refine g_done rfl (fun w hh => (.tmp rfl .nil)) (fun w hh => ⟨?_, hh.toExt⟩)
  simp only [retv, all_not_any]

set_option maxRecDepth 100000 in
theorem c_IndexFunc_Water (fv : FuncId) (fst cap : Array Value) (p : Water → Bool) (l : List Water) (r : Option (Nat × Nat)) (cp : Nat) (w : World) (hl : l.length ≤ 140737488355328) (hr : 0 < l.length → r ≠ none) (hs : segOK w (bk r, off r, flat encW l)) (hcall : ∀ a w, (callFunc fv a).run Try.prog w = .ok (.enter fv a) w) (hf : ∀ w', Ext [] w w' → ∀ j, j < l.length → Ret Try.prog fv (fst.toList ++ [.agg (encW (l.getD j default)).toArray] ++ cap.toList) w' (.bool (p (l.getD j default)))) : Ret Try.prog 155 [slv r l.length cp, .func (.func fv) fst cap] w (.int .i64 (idxf p l)) := by
  refine g_enter (args := [slv r l.length cp, .func (.func fv) fst cap]) Try.func155 rfl Try.ntmps155 rfl (e := [(0, _), (1, _)]) rfl (HS.start w [] [(bk r, off r, flat encW l)] (by simpa using hs)) ?_
  refine g_seq ?_
  refine g_region ?_
  refine g_val rfl rfl rfl (fun _ _ => v_assign rfl) ?_
  refine g_nil ?_
  refine g_n_then ?_
  refine g_seq ?_
  refine g_seq ?_
  refine g_region ?_
  refine g_val rfl rfl rfl (fun _ _ => v_move rfl) ?_
  refine g_val rfl rfl rfl (fun w _ => v_lenS (Try.runUnderlying23 w) rfl) ?_
  refine g_val rfl rfl rfl (fun _ _ => v_move rfl) ?_
  refine g_nil ?_
  refine g_n_then ?_
  refine g_block ?_
  refine g_sub (e' := [(8, _), (0, _), (1, _), (7, _)]) ((.cons rfl (.cons rfl (.cons rfl (.cons rfl .nil))))) ?_
  refine g_loopM (ι := Nat) (fun k => [(8, .int .i64 (k : Nat))]) (fun k => []) (fun k => k ≤ l.length ∧ ∀ j, j < k → p (l.getD j default) = false) (fun k => l.length - k) 0 (⟨Nat.zero_le _, fun j hj => absurd hj (by omega)⟩) ?_
  intro k hI0
  refine g_seq ?_
  refine g_region ?_
  refine g_val rfl rfl rfl (fun _ _ => v_lss rfl rfl) ?_
  refine g_nil ?_
  refine g_n_then ?_
  refine g_seq ?_
  refine g_cond rfl (fun hc9_1 => ?_) (fun hc9_1 => ?_)
  · replace hc9_1 := of_decide_eq_true hc9_1
    refine g_skip ?_
    refine g_n_then ?_
    refine g_seq ?_
    refine g_block ?_
    refine g_seq ?_
    refine g_region ?_
    refine g_val rfl rfl rfl (fun _ _ => v_move rfl) ?_
    refine g_val rfl rfl rfl (fun _ _ => v_assign rfl) ?_
    refine g_nil ?_
    refine g_n_then ?_
    refine g_seq ?_
    refine g_region ?_
    refine g_val rfl rfl rfl (fun _ _ => v_move rfl) ?_
    refine g_val rfl rfl rfl (fun _ _ => v_move rfl) ?_
    refine g_val rfl rfl rfl (fun _ _ => v_move rfl) ?_
    refine g_val rfl rfl rfl (fun w _ => v_indexAddr k (Try.runUnderlying23 w) (Try.sizeOf68 w) rfl rfl rfl (by omega) (hr (by omega))) ?_
    refine g_val rfl rfl rfl (fun w hh => v_loadAgg (vs := encW _) (Try.isAgg68 w) (Try.sizeOf68 w) rfl (hh.elem (j := k) encW_len 0 rfl (by omega))) ?_
    refine g_callv rfl rfl rfl rfl rfl rfl rfl hcall (fun w hh => hf w hh.toExt _ (by omega)) ?_
    refine g_nil ?_
    refine g_n_then ?_
    refine g_cond rfl (fun hc16_2 => ?_) (fun hc16_2 => ?_)
    · have hc16_2 := hc16_2
      refine g_seq ?_
      refine g_region ?_
      refine g_val rfl rfl rfl (fun _ _ => v_move rfl) ?_
      refine g_val rfl rfl rfl (fun _ _ => v_assign rfl) ?_
      refine g_nil ?_
      refine g_n_then ?_
      refine g_ret ?_
      refine g_r_blk ?_
      refine g_r_then ?_
      refine g_r_then ?_
      refine g_r_blk ?_
      refine g_r_then ?_
      refine g_done rfl (fun w hh => (.tmp rfl .nil)) (fun w hh => ⟨?_, hh.toExt⟩)
      simp [retv, idxf_found (k := k) (by omega) hI0.2 (by assumption)]
    · have hc16_2 := hc16_2
      refine g_skip ?_
      refine g_n_blk ?_
      refine g_n_then ?_
      refine g_region ?_
      refine g_val rfl rfl rfl (fun _ _ => v_add rfl rfl (wrap_i64 (by omega))) ?_
      refine g_val rfl rfl rfl (fun _ _ => v_move rfl) ?_
      refine g_nil ?_
      refine g_n_then ?_
      exact g_againM (i := k) (k + 1) [] ((.cons rfl (.cons rfl (.cons rfl (.cons rfl .nil))))) (by decide) rfl (⟨by omega, fun j hj => by rcases Nat.lt_succ_iff_lt_or_eq.1 hj with h | h; exact hI0.2 j h; subst h; assumption⟩) (by omega)
  · replace hc9_1 := of_decide_eq_false hc9_1
    refine g_exit ?_
    refine g_x_then ?_
    refine g_x_then ?_
    refine g_x_blk ?_
    refine g_n_then ?_
    refine g_seq ?_
    refine g_region ?_
    refine g_val rfl rfl rfl (fun _ _ => v_assign rfl) ?_
    refine g_nil ?_
    refine g_n_then ?_
    refine g_ret ?_
    have ek : k = l.length := by omega
    subst ek
    refine g_done rfl (fun w hh => (.tmp rfl .nil)) (fun w hh => ⟨?_, hh.toExt⟩)
    simp [retv, idxf_none hI0.2]

set_option maxRecDepth 100000 in
theorem c_ContainsFunc_Water (fv : FuncId) (fst cap : Array Value) (p : Water → Bool) (l : List Water) (r : Option (Nat × Nat)) (cp : Nat) (w : World) (hl : l.length ≤ 140737488355328) (hr : 0 < l.length → r ≠ none) (hs : segOK w (bk r, off r, flat encW l)) (hcall : ∀ a w, (callFunc fv a).run Try.prog w = .ok (.enter fv a) w) (hf : ∀ w', Ext [] w w' → ∀ j, j < l.length → Ret Try.prog fv (fst.toList ++ [.agg (encW (l.getD j default)).toArray] ++ cap.toList) w' (.bool (p (l.getD j default)))) : Ret Try.prog 149 [slv r l.length cp, .func (.func fv) fst cap] w (.bool (l.any p)) := by
  refine g_enter (args := [slv r l.length cp, .func (.func fv) fst cap]) Try.func149 rfl Try.ntmps149 rfl (e := [(0, _), (1, _)]) rfl (HS.start w [] [(bk r, off r, flat encW l)] (by simpa using hs)) ?_
  refine g_seq ?_
  refine g_region ?_
  refine g_val rfl rfl rfl (fun _ _ => v_assign rfl) ?_
  refine g_nil ?_
  refine g_n_then ?_
  refine g_seq ?_
  refine g_region ?_
  refine g_val rfl rfl rfl (fun _ _ => v_move rfl) ?_
  refine g_val rfl rfl rfl (fun _ _ => v_move rfl) ?_
  refine g_callv rfl rfl rfl rfl rfl rfl rfl (fun a w => Try.call155 a w) (fun w hh => c_IndexFunc_Water fv fst cap p l r cp w hl hr (hh.seg 0 rfl) hcall (fun w2 hx j hj => hf w2 (hh.toExt.trans hx) j hj)) ?_
  refine g_val rfl rfl rfl (fun _ _ => v_geq rfl rfl) ?_
  refine g_val rfl rfl rfl (fun _ _ => v_assign rfl) ?_
  refine g_nil ?_
  refine g_n_then ?_
  refine g_ret ?_
  refine g_done rfl (fun w hh => (.tmp rfl .nil)) (fun w hh => ⟨?_, hh.toExt⟩)
  simp only [retv, idxf_nonneg]

set_option maxRecDepth 100000 in
theorem c_every1_Water (fv : FuncId) (fst cap : Array Value) (p : Water → Bool) (x : Water) (bx : Nat) (w : World) (hs : segOK w (bx, 0, [.func (.func fv) fst cap])) (hcall : ∀ a w, (callFunc fv a).run Try.prog w = .ok (.enter fv a) w) (hf : ∀ w', Ext [] w w' → Ret Try.prog fv (fst.toList ++ [.agg (encW x).toArray] ++ cap.toList) w' (.bool (p x))) : Ret Try.prog 150 [.agg (encW x).toArray, ptr bx 0] w (.bool (!p x)) := by
  refine g_enter (args := [.agg (encW x).toArray, ptr bx 0]) Try.func150 rfl Try.ntmps150 rfl (e := [(0, _), (1, _)]) rfl (HS.start w [] [(bx, 0, [.func (.func fv) fst cap])] (by simpa using hs)) ?_
  refine g_seq ?_
  refine g_region ?_
  refine g_box rfl rfl (fun b1 hb1 => ?_)
  refine g_val rfl rfl rfl (fun _ _ => v_assign rfl) ?_
  refine g_nil ?_
  refine g_n_then ?_
  refine g_seq ?_
  refine g_region ?_
  refine g_val rfl rfl rfl (fun w hh => v_load (Try.isAgg145 w) rfl (hh.rcell 0 0 rfl rfl)) ?_
  refine g_val rfl rfl rfl (fun w hh => v_loadAgg (vs := [_, _]) (Try.isAgg68 w) (Try.sizeOf68 w) rfl (hh.cells 0 rfl rfl)) ?_
  refine g_callv rfl rfl rfl rfl rfl rfl rfl hcall (fun w hh => hf w hh.toExt) ?_
  refine g_val rfl rfl rfl (fun _ _ => v_not rfl) ?_
  refine g_val rfl rfl rfl (fun _ _ => v_assign rfl) ?_
  refine g_nil ?_
  refine g_n_then ?_
  refine g_ret ?_
  refine g_done rfl (fun w hh => (.tmp rfl .nil)) (fun w hh => ⟨?_, hh.toExt⟩)
  rfl

set_option maxRecDepth 100000 in
theorem c_every_Water (fv : FuncId) (fst cap : Array Value) (p : Water → Bool) (l : List Water) (r : Option (Nat × Nat)) (cp : Nat) (w : World) (hl : l.length ≤ 140737488355328) (hr : 0 < l.length → r ≠ none) (hs : segOK w (bk r, off r, flat encW l)) (hcall : ∀ a w, (callFunc fv a).run Try.prog w = .ok (.enter fv a) w) (hf : ∀ w', Ext [] w w' → ∀ j, j < l.length → Ret Try.prog fv (fst.toList ++ [.agg (encW (l.getD j default)).toArray] ++ cap.toList) w' (.bool (p (l.getD j default)))) : Ret Try.prog 91 [slv r l.length cp, .func (.func fv) fst cap] w (.bool (l.all p)) := by
  refine g_enter (args := [slv r l.length cp, .func (.func fv) fst cap]) Try.func91 rfl Try.ntmps91 rfl (e := [(0, _), (1, _)]) rfl (HS.start w [] [(bk r, off r, flat encW l)] (by simpa using hs)) ?_
  refine g_seq ?_
  refine g_region ?_
  refine g_box rfl rfl (fun b1 hb1 => ?_)
  refine g_val rfl rfl rfl (fun _ _ => v_assign rfl) ?_
  refine g_nil ?_
  refine g_n_then ?_
  refine g_seq ?_
  refine g_region ?_
  refine g_val rfl rfl rfl (fun _ _ => v_move rfl) ?_
  refine g_val rfl rfl rfl (fun _ _ => v_makeFunc (u := #[]) (u' := #[_]) rfl rfl) ?_
  refine g_callv rfl rfl rfl rfl rfl rfl rfl (fun a w => Try.call149 a w) (fun w hh => c_ContainsFunc_Water 150 #[] #[ptr b1 0] (fun x => !p x) l r cp w hl hr (hh.seg 0 rfl) (fun a w => Try.call150 a w) (fun w2 hx j hj => c_every1_Water fv fst cap p _ _ w2 ((hh.ownSeg 0 rfl).ext hx (by simp)) hcall (fun w3 hx3 => hf w3 ((hh.toExt.trans hx).trans hx3) j hj))) ?_
  refine g_val rfl rfl rfl (fun _ _ => v_not rfl) ?_
  refine g_val rfl rfl rfl (fun _ _ => v_assign rfl) ?_
  refine g_nil ?_
  refine g_n_then ?_
  refine g_ret ?_
  refine g_done rfl (fun w hh => (.tmp rfl .nil)) (fun w hh => ⟨?_, hh.toExt⟩)
  simp only [retv, all_not_any]

set_option maxRecDepth 100000 in
theorem c_IndexFunc_Sill (fv : FuncId) (fst cap : Array Value) (p : Sill → Bool) (l : List Sill) (r : Option (Nat × Nat)) (cp : Nat) (w : World) (hl : l.length ≤ 140737488355328) (hr : 0 < l.length → r ≠ none) (hs : segOK w (bk r, off r, flat encS l)) (hcall : ∀ a w, (callFunc fv a).run Try.prog w = .ok (.enter fv a) w) (hf : ∀ w', Ext [] w w' → ∀ j, j < l.length → Ret Try.prog fv (fst.toList ++ [.agg (encS (l.getD j default)).toArray] ++ cap.toList) w' (.bool (p (l.getD j default)))) : Ret Try.prog 165 [slv r l.length cp, .func (.func fv) fst cap] w (.int .i64 (idxf p l)) := by
  refine g_enter (args := [slv r l.length cp, .func (.func fv) fst cap]) Try.func165 rfl Try.ntmps165 rfl (e := [(0, _), (1, _)]) rfl (HS.start w [] [(bk r, off r, flat encS l)] (by simpa using hs)) ?_
  refine g_seq ?_
  refine g_region ?_
  refine g_val rfl rfl rfl (fun _ _ => v_assign rfl) ?_
  refine g_nil ?_
  refine g_n_then ?_
  refine g_seq ?_
  refine g_seq ?_
  refine g_region ?_
  refine g_val rfl rfl rfl (fun _ _ => v_move rfl) ?_
  refine g_val rfl rfl rfl (fun w _ => v_lenS (Try.runUnderlying27 w) rfl) ?_
  refine g_val rfl rfl rfl (fun _ _ => v_move rfl) ?_
  refine g_nil ?_
  refine g_n_then ?_
  refine g_block ?_
  refine g_sub (e' := [(8, _), (0, _), (1, _), (7, _)]) ((.cons rfl (.cons rfl (.cons rfl (.cons rfl .nil))))) ?_
  refine g_loopM (ι := Nat) (fun k => [(8, .int .i64 (k : Nat))]) (fun k => []) (fun k => k ≤ l.length ∧ ∀ j, j < k → p (l.getD j default) = false) (fun k => l.length - k) 0 (⟨Nat.zero_le _, fun j hj => absurd hj (by omega)⟩) ?_
  intro k hI0
  refine g_seq ?_
  refine g_region ?_
  refine g_val rfl rfl rfl (fun _ _ => v_lss rfl rfl) ?_
  refine g_nil ?_
  refine g_n_then ?_
  refine g_seq ?_
  refine g_cond rfl (fun hc9_1 => ?_) (fun hc9_1 => ?_)
  · replace hc9_1 := of_decide_eq_true hc9_1
    refine g_skip ?_
    refine g_n_then ?_
    refine g_seq ?_
    refine g_block ?_
    refine g_seq ?_
    refine g_region ?_
    refine g_val rfl rfl rfl (fun _ _ => v_move rfl) ?_
    refine g_val rfl rfl rfl (fun _ _ => v_assign rfl) ?_
    refine g_nil ?_
    refine g_n_then ?_
    refine g_seq ?_
    refine g_region ?_
    refine g_val rfl rfl rfl (fun _ _ => v_move rfl) ?_
    refine g_val rfl rfl rfl (fun _ _ => v_move rfl) ?_
    refine g_val rfl rfl rfl (fun _ _ => v_move rfl) ?_
    refine g_val rfl rfl rfl (fun w _ => v_indexAddr k (Try.runUnderlying27 w) (Try.sizeOf51 w) rfl rfl rfl (by omega) (hr (by omega))) ?_
    refine g_val rfl rfl rfl (fun w hh => v_loadAgg (vs := encS _) (Try.isAgg51 w) (Try.sizeOf51 w) rfl (hh.elem (j := k) encS_len 0 rfl (by omega))) ?_
    refine g_callv rfl rfl rfl rfl rfl rfl rfl hcall (fun w hh => hf w hh.toExt _ (by omega)) ?_
    refine g_nil ?_
    refine g_n_then ?_
    refine g_cond rfl (fun hc16_2 => ?_) (fun hc16_2 => ?_)
    · have hc16_2 := hc16_2
      refine g_seq ?_
      refine g_region ?_
      refine g_val rfl rfl rfl (fun _ _ => v_move rfl) ?_
      refine g_val rfl rfl rfl (fun _ _ => v_assign rfl) ?_
      refine g_nil ?_
      refine g_n_then ?_
      refine g_ret ?_
      refine g_r_blk ?_
      refine g_r_then ?_
      refine g_r_then ?_
      refine g_r_blk ?_
      refine g_r_then ?_
      refine g_done rfl (fun w hh => (.tmp rfl .nil)) (fun w hh => ⟨?_, hh.toExt⟩)
      simp [retv, idxf_found (k := k) (by omega) hI0.2 (by assumption)]
    · have hc16_2 := hc16_2
      refine g_skip ?_
      refine g_n_blk ?_
      refine g_n_then ?_
      refine g_region ?_
      refine g_val rfl rfl rfl (fun _ _ => v_add rfl rfl (wrap_i64 (by omega))) ?_
      refine g_val rfl rfl rfl (fun _ _ => v_move rfl) ?_
      refine g_nil ?_
      refine g_n_then ?_
      exact g_againM (i := k) (k + 1) [] ((.cons rfl (.cons rfl (.cons rfl (.cons rfl .nil))))) (by decide) rfl (⟨by omega, fun j hj => by rcases Nat.lt_succ_iff_lt_or_eq.1 hj with h | h; exact hI0.2 j h; subst h; assumption⟩) (by omega)
  · replace hc9_1 := of_decide_eq_false hc9_1
    refine g_exit ?_
    refine g_x_then ?_
    refine g_x_then ?_
    refine g_x_blk ?_
    refine g_n_then ?_
    refine g_seq ?_
    refine g_region ?_
    refine g_val rfl rfl rfl (fun _ _ => v_assign rfl) ?_
    refine g_nil ?_
    refine g_n_then ?_
    refine g_ret ?_
    have ek : k = l.length := by omega
    subst ek
    refine g_done rfl (fun w hh => (.tmp rfl .nil)) (fun w hh => ⟨?_, hh.toExt⟩)
    simp [retv, idxf_none hI0.2]

set_option maxRecDepth 100000 in
theorem c_ContainsFunc_Sill (fv : FuncId) (fst cap : Array Value) (p : Sill → Bool) (l : List Sill) (r : Option (Nat × Nat)) (cp : Nat) (w : World) (hl : l.length ≤ 140737488355328) (hr : 0 < l.length → r ≠ none) (hs : segOK w (bk r, off r, flat encS l)) (hcall : ∀ a w, (callFunc fv a).run Try.prog w = .ok (.enter fv a) w) (hf : ∀ w', Ext [] w w' → ∀ j, j < l.length → Ret Try.prog fv (fst.toList ++ [.agg (encS (l.getD j default)).toArray] ++ cap.toList) w' (.bool (p (l.getD j default)))) : Ret Try.prog 152 [slv r l.length cp, .func (.func fv) fst cap] w (.bool (l.any p)) := by
  refine g_enter (args := [slv r l.length cp, .func (.func fv) fst cap]) Try.func152 rfl Try.ntmps152 rfl (e := [(0, _), (1, _)]) rfl (HS.start w [] [(bk r, off r, flat encS l)] (by simpa using hs)) ?_
  refine g_seq ?_
  refine g_region ?_
  refine g_val rfl rfl rfl (fun _ _ => v_assign rfl) ?_
  refine g_nil ?_
  refine g_n_then ?_
  refine g_seq ?_
  refine g_region ?_
  refine g_val rfl rfl rfl (fun _ _ => v_move rfl) ?_
  refine g_val rfl rfl rfl (fun _ _ => v_move rfl) ?_
  refine g_callv rfl rfl rfl rfl rfl rfl rfl (fun a w => Try.call165 a w) (fun w hh => c_IndexFunc_Sill fv fst cap p l r cp w hl hr (hh.seg 0 rfl) hcall (fun w2 hx j hj => hf w2 (hh.toExt.trans hx) j hj)) ?_
  refine g_val rfl rfl rfl (fun _ _ => v_geq rfl rfl) ?_
  refine g_val rfl rfl rfl (fun _ _ => v_assign rfl) ?_
  refine g_nil ?_
  refine g_n_then ?_
  refine g_ret ?_
  refine g_done rfl (fun w hh => (.tmp rfl .nil)) (fun w hh => ⟨?_, hh.toExt⟩)
  simp only [retv, idxf_nonneg]

set_option maxRecDepth 100000 in
theorem c_every1_Sill (fv : FuncId) (fst cap : Array Value) (p : Sill → Bool) (x : Sill) (bx : Nat) (w : World) (hs : segOK w (bx, 0, [.func (.func fv) fst cap])) (hcall : ∀ a w, (callFunc fv a).run Try.prog w = .ok (.enter fv a) w) (hf : ∀ w', Ext [] w w' → Ret Try.prog fv (fst.toList ++ [.agg (encS x).toArray] ++ cap.toList) w' (.bool (p x))) : Ret Try.prog 153 [.agg (encS x).toArray, ptr bx 0] w (.bool (!p x)) := by
  refine g_enter (args := [.agg (encS x).toArray, ptr bx 0]) Try.func153 rfl Try.ntmps153 rfl (e := [(0, _), (1, _)]) rfl (HS.start w [] [(bx, 0, [.func (.func fv) fst cap])] (by simpa using hs)) ?_
  refine g_seq ?_
  refine g_region ?_
  refine g_box rfl rfl (fun b1 hb1 => ?_)
  refine g_val rfl rfl rfl (fun _ _ => v_assign rfl) ?_
  refine g_nil ?_
  refine g_n_then ?_
  refine g_seq ?_
  refine g_region ?_
  refine g_val rfl rfl rfl (fun w hh => v_load (Try.isAgg147 w) rfl (hh.rcell 0 0 rfl rfl)) ?_
  refine g_val rfl rfl rfl (fun w hh => v_loadAgg (vs := [_, _, _]) (Try.isAgg51 w) (Try.sizeOf51 w) rfl (hh.cells 0 rfl rfl)) ?_
  refine g_callv rfl rfl rfl rfl rfl rfl rfl hcall (fun w hh => hf w hh.toExt) ?_
  refine g_val rfl rfl rfl (fun _ _ => v_not rfl) ?_
  refine g_val rfl rfl rfl (fun _ _ => v_assign rfl) ?_
  refine g_nil ?_
  refine g_n_then ?_
  refine g_ret ?_
  refine g_done rfl (fun w hh => (.tmp rfl .nil)) (fun w hh => ⟨?_, hh.toExt⟩)
  rfl

set_option maxRecDepth 100000 in
theorem c_every_Sill (fv : FuncId) (fst cap : Array Value) (p : Sill → Bool) (l : List Sill) (r : Option (Nat × Nat)) (cp : Nat) (w : World) (hl : l.length ≤ 140737488355328) (hr : 0 < l.length → r ≠ none) (hs : segOK w (bk r, off r, flat encS l)) (hcall : ∀ a w, (callFunc fv a).run Try.prog w = .ok (.enter fv a) w) (hf : ∀ w', Ext [] w w' → ∀ j, j < l.length → Ret Try.prog fv (fst.toList ++ [.agg (encS (l.getD j default)).toArray] ++ cap.toList) w' (.bool (p (l.getD j default)))) : Ret Try.prog 95 [slv r l.length cp, .func (.func fv) fst cap] w (.bool (l.all p)) := by
  refine g_enter (args := [slv r l.length cp, .func (.func fv) fst cap]) Try.func95 rfl Try.ntmps95 rfl (e := [(0, _), (1, _)]) rfl (HS.start w [] [(bk r, off r, flat encS l)] (by simpa using hs)) ?_
  refine g_seq ?_
  refine g_region ?_
  refine g_box rfl rfl (fun b1 hb1 => ?_)
  refine g_val rfl rfl rfl (fun _ _ => v_assign rfl) ?_
  refine g_nil ?_
  refine g_n_then ?_
  refine g_seq ?_
  refine g_region ?_
  refine g_val rfl rfl rfl (fun _ _ => v_move rfl) ?_
  refine g_val rfl rfl rfl (fun _ _ => v_makeFunc (u := #[]) (u' := #[_]) rfl rfl) ?_
  refine g_callv rfl rfl rfl rfl rfl rfl rfl (fun a w => Try.call152 a w) (fun w hh => c_ContainsFunc_Sill 153 #[] #[ptr b1 0] (fun x => !p x) l r cp w hl hr (hh.seg 0 rfl) (fun a w => Try.call153 a w) (fun w2 hx j hj => c_every1_Sill fv fst cap p _ _ w2 ((hh.ownSeg 0 rfl).ext hx (by simp)) hcall (fun w3 hx3 => hf w3 ((hh.toExt.trans hx).trans hx3) j hj))) ?_
  refine g_val rfl rfl rfl (fun _ _ => v_not rfl) ?_
  refine g_val rfl rfl rfl (fun _ _ => v_assign rfl) ?_
  refine g_nil ?_
  refine g_n_then ?_
  refine g_ret ?_
  refine g_done rfl (fun w hh => (.tmp rfl .nil)) (fun w hh => ⟨?_, hh.toExt⟩)
  simp only [retv, all_not_any]

set_option maxRecDepth 100000 in
theorem c_IndexFunc_Span (fv : FuncId) (fst cap : Array Value) (p : Span → Bool) (l : List Span) (r : Option (Nat × Nat)) (cp : Nat) (w : World) (hl : l.length ≤ 140737488355328) (hr : 0 < l.length → r ≠ none) (hs : segOK w (bk r, off r, flat encP l)) (hcall : ∀ a w, (callFunc fv a).run Try.prog w = .ok (.enter fv a) w) (hf : ∀ w', Ext [] w w' → ∀ j, j < l.length → Ret Try.prog fv (fst.toList ++ [.agg (encP (l.getD j default)).toArray] ++ cap.toList) w' (.bool (p (l.getD j default)))) : Ret Try.prog 115 [slv r l.length cp, .func (.func fv) fst cap] w (.int .i64 (idxf p l)) := by
  refine g_enter (args := [slv r l.length cp, .func (.func fv) fst cap]) Try.func115 rfl Try.ntmps115 rfl (e := [(0, _), (1, _)]) rfl (HS.start w [] [(bk r, off r, flat encP l)] (by simpa using hs)) ?_
  refine g_seq ?_
  refine g_region ?_
  refine g_val rfl rfl rfl (fun _ _ => v_assign rfl) ?_
  refine g_nil ?_
  refine g_n_then ?_
  refine g_seq ?_
  refine g_seq ?_
  refine g_region ?_
  refine g_val rfl rfl rfl (fun _ _ => v_move rfl) ?_
  refine g_val rfl rfl rfl (fun w _ => v_lenS (Try.runUnderlying77 w) rfl) ?_
  refine g_val rfl rfl rfl (fun _ _ => v_move rfl) ?_
  refine g_nil ?_
  refine g_n_then ?_
  refine g_block ?_
  refine g_sub (e' := [(8, _), (0, _), (1, _), (7, _)]) ((.cons rfl (.cons rfl (.cons rfl (.cons rfl .nil))))) ?_
  refine g_loopM (ι := Nat) (fun k => [(8, .int .i64 (k : Nat))]) (fun k => []) (fun k => k ≤ l.length ∧ ∀ j, j < k → p (l.getD j default) = false) (fun k => l.length - k) 0 (⟨Nat.zero_le _, fun j hj => absurd hj (by omega)⟩) ?_
  intro k hI0
  refine g_seq ?_
  refine g_region ?_
  refine g_val rfl rfl rfl (fun _ _ => v_lss rfl rfl) ?_
  refine g_nil ?_
  refine g_n_then ?_
  refine g_seq ?_
  refine g_cond rfl (fun hc9_1 => ?_) (fun hc9_1 => ?_)
  · replace hc9_1 := of_decide_eq_true hc9_1
    refine g_skip ?_
    refine g_n_then ?_
    refine g_seq ?_
    refine g_block ?_
    refine g_seq ?_
    refine g_region ?_
    refine g_val rfl rfl rfl (fun _ _ => v_move rfl) ?_
    refine g_val rfl rfl rfl (fun _ _ => v_assign rfl) ?_
    refine g_nil ?_
    refine g_n_then ?_
    refine g_seq ?_
    refine g_region ?_
    refine g_val rfl rfl rfl (fun _ _ => v_move rfl) ?_
    refine g_val rfl rfl rfl (fun _ _ => v_move rfl) ?_
    refine g_val rfl rfl rfl (fun _ _ => v_move rfl) ?_
    refine g_val rfl rfl rfl (fun w _ => v_indexAddr k (Try.runUnderlying77 w) (Try.sizeOf25 w) rfl rfl rfl (by omega) (hr (by omega))) ?_
    refine g_val rfl rfl rfl (fun w hh => v_loadAgg (vs := encP _) (Try.isAgg25 w) (Try.sizeOf25 w) rfl (hh.elem (j := k) encP_len 0 rfl (by omega))) ?_
    refine g_callv rfl rfl rfl rfl rfl rfl rfl hcall (fun w hh => hf w hh.toExt _ (by omega)) ?_
    refine g_nil ?_
    refine g_n_then ?_
    refine g_cond rfl (fun hc16_2 => ?_) (fun hc16_2 => ?_)
    · have hc16_2 := hc16_2
      refine g_seq ?_
      refine g_region ?_
      refine g_val rfl rfl rfl (fun _ _ => v_move rfl) ?_
      refine g_val rfl rfl rfl (fun _ _ => v_assign rfl) ?_
      refine g_nil ?_
      refine g_n_then ?_
      refine g_ret ?_
      refine g_r_blk ?_
      refine g_r_then ?_
      refine g_r_then ?_
      refine g_r_blk ?_
      refine g_r_then ?_
      refine g_done rfl (fun w hh => (.tmp rfl .nil)) (fun w hh => ⟨?_, hh.toExt⟩)
      simp [retv, idxf_found (k := k) (by omega) hI0.2 (by assumption)]
    · have hc16_2 := hc16_2
      refine g_skip ?_
      refine g_n_blk ?_
      refine g_n_then ?_
      refine g_region ?_
      refine g_val rfl rfl rfl (fun _ _ => v_add rfl rfl (wrap_i64 (by omega))) ?_
      refine g_val rfl rfl rfl (fun _ _ => v_move rfl) ?_
      refine g_nil ?_
      refine g_n_then ?_
      exact g_againM (i := k) (k + 1) [] ((.cons rfl (.cons rfl (.cons rfl (.cons rfl .nil))))) (by decide) rfl (⟨by omega, fun j hj => by rcases Nat.lt_succ_iff_lt_or_eq.1 hj with h | h; exact hI0.2 j h; subst h; assumption⟩) (by omega)
  · replace hc9_1 := of_decide_eq_false hc9_1
    refine g_exit ?_
    refine g_x_then ?_
    refine g_x_then ?_
    refine g_x_blk ?_
    refine g_n_then ?_
    refine g_seq ?_
    refine g_region ?_
    refine g_val rfl rfl rfl (fun _ _ => v_assign rfl) ?_
    refine g_nil ?_
    refine g_n_then ?_
    refine g_ret ?_
    have ek : k = l.length := by omega
    subst ek
    refine g_done rfl (fun w hh => (.tmp rfl .nil)) (fun w hh => ⟨?_, hh.toExt⟩)
    simp [retv, idxf_none hI0.2]

end Go.Proofs

namespace Go.Proofs
open Go Go.Fw Go.Pl
set_option maxRecDepth 100000 in
theorem c_place (p : Int) (L : LS) (w : World) (hL : L.OK w) : Ret Try.prog 89 [L.val, .int .i64 p] w (.bool (isPlace L.S p)) := by
  have hlt := hL.tl
  have hlf := hL.fl
  have hls := hL.sl
  refine g_enter (args := [L.val, .int .i64 p]) Try.func89 rfl Try.ntmps89 rfl (e := [(0, _), (1, _)]) rfl (HS.start w [] L.segs hL.segs) ?_
  refine g_seq ?_
  refine g_region ?_
  refine g_box rfl rfl (fun b1 hb1 => ?_)
  refine g_val rfl rfl rfl (fun _ _ => v_assign rfl) ?_
  refine g_nil ?_
  refine g_n_then ?_
  refine g_seq ?_
  refine g_region ?_
  refine g_val rfl rfl rfl (fun _ _ => v_move rfl) ?_
  refine g_val rfl rfl rfl (fun w _ => v_fieldAddr 3 (Try.runUnderlying29 w) rfl (Try.sizeOf26 w) rfl) ?_
  refine g_val rfl rfl rfl (fun w hh => v_load (Try.isAgg26 w) rfl (hh.cell 0 rfl rfl)) ?_
  refine g_val rfl rfl rfl (fun w _ => v_lenS (Try.runUnderlying26 w) rfl) ?_
  refine g_val rfl rfl rfl (fun _ _ => v_sub rfl rfl (wrap_i64 (by omega))) ?_
  refine g_callv rfl rfl rfl rfl rfl rfl rfl (fun a w => Try.call90 a w) (fun w hh => c_in _ _ _ w) ?_
  refine g_val rfl rfl rfl (fun _ _ => v_assign rfl) ?_
  refine g_nil ?_
  refine g_n_then ?_
  refine g_ret ?_
  refine g_done rfl (fun w hh => (.tmp rfl .nil)) (fun w hh => ⟨?_, hh.toExt⟩)
  rfl

set_option maxRecDepth 100000 in
theorem c_ordered (L : LS) (w : World) (hL : L.OK w) (h2 : 2 ≤ L.S.table.length) : Ret Try.prog 97 [L.val] w (.bool (ordered L.S)) := by
  have hlt := hL.tl
  have hlf := hL.fl
  have hls := hL.sl
  have htc := hL.tc
  refine g_enter (args := [L.val]) Try.func97 rfl Try.ntmps97 rfl (e := [(0, _)]) rfl (HS.start w [] L.segs hL.segs) ?_
  refine g_seq ?_
  refine g_region ?_
  refine g_box rfl rfl (fun b1 hb1 => ?_)
  refine g_val rfl rfl rfl (fun _ _ => v_assign rfl) ?_
  refine g_nil ?_
  refine g_n_then ?_
  refine g_seq ?_
  refine g_seq ?_
  refine g_region ?_
  refine g_val rfl rfl rfl (fun w _ => v_fieldAddr 0 (Try.runUnderlying29 w) rfl (Try.sizeOf23 w) rfl) ?_
  refine g_val rfl rfl rfl (fun w hh => v_load (Try.isAgg23 w) rfl (hh.cell 0 rfl rfl)) ?_
  refine g_val rfl rfl rfl (fun w _ => v_slice (l := 1) (h := L.S.table.length) (Try.runUnderlying23 w) (Try.sizeOf68 w) rfl ⟨_, _, rfl, rfl⟩ rfl (by omega) hL.tc (by omega)) ?_
  refine g_val rfl rfl rfl (fun w _ => v_lenS (Try.runUnderlying23 w) rfl) ?_
  refine g_val rfl rfl rfl (fun _ _ => v_move rfl) ?_
  refine g_nil ?_
  refine g_n_then ?_
  refine g_block ?_
  refine g_sub (e' := [(8, _), (1, _), (7, _)]) ((.cons rfl (.cons rfl (.cons rfl .nil)))) ?_
  refine g_loopM (ι := Nat) (fun k => [(8, .int .i64 (k : Nat))]) (fun k => []) (fun k => k ≤ L.S.table.length - 1 ∧ ∀ i, i < k → (L.S.table.getD i default).min < (L.S.table.getD (i + 1) default).min) (fun k => L.S.table.length - 1 - k) 0 (⟨Nat.zero_le _, fun i hi => absurd hi (by omega)⟩) ?_
  intro k hI0
  refine g_seq ?_
  refine g_region ?_
  refine g_val rfl rfl rfl (fun _ _ => v_lss rfl rfl) ?_
  refine g_nil ?_
  refine g_n_then ?_
  refine g_seq ?_
  refine g_cond rfl (fun hc9_1 => ?_) (fun hc9_1 => ?_)
  · replace hc9_1 := of_decide_eq_true hc9_1
    refine g_skip ?_
    refine g_n_then ?_
    refine g_seq ?_
    refine g_block ?_
    refine g_seq ?_
    refine g_region ?_
    refine g_val rfl rfl rfl (fun _ _ => v_move rfl) ?_
    refine g_val rfl rfl rfl (fun _ _ => v_assign rfl) ?_
    refine g_nil ?_
    refine g_n_then ?_
    refine g_seq ?_
    refine g_draw none (.free 0 (.hoist 1 (.free 2 (.hoist 3 (.free 4 (.hoist 5 (.free 6 (.hoist 7 (.free 8 (.free 9 (.hoist 10 (.free 11 (.hoist 12 (.free 13 .done)))))))))))))) _ rfl (by decide +kernel) (fun w k hh => hh.draw k) (fun w hh => hh) ?_
    refine p_free rfl rfl rfl rfl (fun w _ => v_fieldAddr 0 (Try.runUnderlying29 w) rfl (Try.sizeOf23 w) rfl) ?_
    refine p_hoist rfl rfl rfl rfl (fun w hh => v_load (Try.isAgg23 w) rfl (hh.cell 0 rfl rfl)) ?_
    refine p_free rfl rfl rfl rfl (fun _ _ => v_move rfl) ?_
    refine p_hoist rfl rfl rfl rfl (fun w _ => v_indexAddr k (Try.runUnderlying23 w) (Try.sizeOf68 w) rfl rfl rfl (by omega) (hL.t0 (by omega))) ?_
    refine p_free rfl rfl rfl rfl (fun w _ => v_fieldAddr 0 (Try.runUnderlying68 w) rfl (Try.sizeOf3 w) rfl) ?_
    refine p_hoist rfl rfl rfl rfl (fun w hh => v_load (Try.isAgg3 w) rfl (hh.fld (j := k) encW_len 0 0 rfl (by omega) rfl rfl)) ?_
    refine p_free rfl rfl rfl rfl (fun w _ => v_fieldAddr 0 (Try.runUnderlying29 w) rfl (Try.sizeOf23 w) rfl) ?_
    refine p_hoist rfl rfl rfl rfl (fun w hh => v_load (Try.isAgg23 w) rfl (hh.cell 0 rfl rfl)) ?_
    refine p_free rfl rfl rfl rfl (fun _ _ => v_move rfl) ?_
    refine p_free rfl rfl rfl rfl (fun _ _ => v_add rfl rfl (wrap_i64 (by omega))) ?_
    refine p_hoist rfl rfl rfl rfl (fun w _ => v_indexAddr (k + 1) (Try.runUnderlying23 w) (Try.sizeOf68 w) rfl rfl rfl (by omega) (hL.t0 (by omega))) ?_
    refine p_free rfl rfl rfl rfl (fun w _ => v_fieldAddr 0 (Try.runUnderlying68 w) rfl (Try.sizeOf3 w) rfl) ?_
    refine p_hoist rfl rfl rfl rfl (fun w hh => v_load (Try.isAgg3 w) rfl (hh.fld (j := (k + 1)) encW_len 0 0 rfl (by omega) rfl rfl)) ?_
    refine p_free rfl rfl rfl rfl (fun _ _ => v_geq rfl rfl) ?_
    refine p_done ?_
    refine g_n_then ?_
    refine g_cond rfl (fun hc24_2 => ?_) (fun hc24_2 => ?_)
    · replace hc24_2 := of_decide_eq_true hc24_2
      refine g_seq ?_
      refine g_region ?_
      refine g_val rfl rfl rfl (fun _ _ => v_assign rfl) ?_
      refine g_nil ?_
      refine g_n_then ?_
      refine g_ret ?_
      refine g_r_blk ?_
      refine g_r_then ?_
      refine g_r_then ?_
      refine g_r_blk ?_
      refine g_r_then ?_
      refine g_done rfl (fun w hh => (.tmp rfl .nil)) (fun w hh => ⟨?_, hh.toExt⟩)
      simp only [retv, ordered_false (s := L.S) (k := k) (by omega) (by omega)]
    · replace hc24_2 := of_decide_eq_false hc24_2
      refine g_skip ?_
      refine g_n_blk ?_
      refine g_n_then ?_
      refine g_region ?_
      refine g_val rfl rfl rfl (fun _ _ => v_add rfl rfl (wrap_i64 (by omega))) ?_
      refine g_val rfl rfl rfl (fun _ _ => v_move rfl) ?_
      refine g_nil ?_
      refine g_n_then ?_
      exact g_againM (i := k) (k + 1) [0] ((.cons rfl (.cons rfl (.cons rfl .nil)))) (by decide) rfl (⟨by omega, fun i hi => by rcases Nat.lt_succ_iff_lt_or_eq.1 hi with h | h; exact hI0.2 i h; subst h; omega⟩) (by omega)
  · replace hc9_1 := of_decide_eq_false hc9_1
    refine g_exit ?_
    refine g_x_then ?_
    refine g_x_then ?_
    refine g_x_blk ?_
    refine g_n_then ?_
    refine g_seq ?_
    refine g_region ?_
    refine g_val rfl rfl rfl (fun w _ => v_fieldAddr 1 (Try.runUnderlying29 w) rfl (Try.sizeOf25 w) rfl) ?_
    refine g_val rfl rfl rfl (fun w _ => v_fieldAddr 0 (Try.runUnderlying25 w) rfl (Try.sizeOf3 w) rfl) ?_
    refine g_val rfl rfl rfl (fun w hh => v_load (Try.isAgg3 w) rfl (hh.cell 0 rfl rfl)) ?_
    refine g_val rfl rfl rfl (fun w _ => v_fieldAddr 1 (Try.runUnderlying29 w) rfl (Try.sizeOf25 w) rfl) ?_
    refine g_val rfl rfl rfl (fun w _ => v_fieldAddr 1 (Try.runUnderlying25 w) rfl (Try.sizeOf3 w) rfl) ?_
    refine g_val rfl rfl rfl (fun w hh => v_load (Try.isAgg3 w) rfl (hh.cell 0 rfl rfl)) ?_
    refine g_val rfl rfl rfl (fun _ _ => v_leq rfl rfl) ?_
    refine g_val rfl rfl rfl (fun _ _ => v_assign rfl) ?_
    refine g_nil ?_
    refine g_n_then ?_
    refine g_ret ?_
    have ek : k = L.S.table.length - 1 := by omega
    subst ek
    refine g_done rfl (fun w hh => (.tmp rfl .nil)) (fun w hh => ⟨?_, hh.toExt⟩)
    simp only [retv, ordered_true hI0.2]

set_option maxRecDepth 100000 in
theorem c_Check2 (x : Water) (w : World) : Ret Try.prog 92 [.agg (encW x).toArray] w (.bool (bigW x)) := by
  refine g_enter (args := [.agg (encW x).toArray]) Try.func92 rfl Try.ntmps92 rfl (e := [(0, _)]) rfl (HS.start w [] [] (by simp)) ?_
  refine g_seq ?_
  refine g_region ?_
  refine g_box rfl rfl (fun b1 hb1 => ?_)
  refine g_val rfl rfl rfl (fun _ _ => v_assign rfl) ?_
  refine g_nil ?_
  refine g_n_then ?_
  refine g_seq ?_
  refine g_region ?_
  refine g_val rfl rfl rfl (fun w _ => v_fieldAddr 0 (Try.runUnderlying68 w) rfl (Try.sizeOf3 w) rfl) ?_
  refine g_val rfl rfl rfl (fun w hh => v_load (Try.isAgg3 w) rfl (hh.cell 0 rfl rfl)) ?_
  refine g_callv rfl rfl rfl rfl rfl rfl rfl (fun a w => Try.call90 a w) (fun w hh => c_in _ _ _ w) ?_
  refine g_val rfl rfl rfl (fun _ _ => v_move rfl) ?_
  refine g_case 6 rfl (fun hg6_1 => ?_) (fun hg6_1 => ?_)
  · have hg6_1 := hg6_1
    refine g_valG rfl rfl rfl rfl rfl (fun w _ => v_fieldAddr 1 (Try.runUnderlying68 w) rfl (Try.sizeOf3 w) rfl) ?_
    refine g_valG rfl rfl rfl rfl rfl (fun w hh => v_load (Try.isAgg3 w) rfl (hh.cell 0 rfl rfl)) ?_
    refine g_callvG rfl rfl rfl rfl rfl rfl rfl rfl rfl (fun a w => Try.call93 a w) (fun w hh => c_hgt _ w) ?_
    refine g_val rfl rfl rfl (fun _ _ => v_pickT rfl rfl) ?_
    refine g_val rfl rfl rfl (fun _ _ => v_assign rfl) ?_
    refine g_nil ?_
    refine g_n_then ?_
    refine g_ret ?_
    refine g_done rfl (fun w hh => (.tmp rfl .nil)) (fun w hh => ⟨?_, hh.toExt⟩)
    simp [retv, bigW, hgt, *]
  · have hg6_1 := hg6_1
    refine g_skipG rfl rfl rfl rfl rfl rfl ?_
    refine g_skipG rfl rfl rfl rfl rfl rfl ?_
    refine g_skipG rfl rfl rfl rfl rfl rfl ?_
    refine g_val rfl rfl rfl (fun _ _ => v_pickF rfl rfl) ?_
    refine g_val rfl rfl rfl (fun _ _ => v_assign rfl) ?_
    refine g_nil ?_
    refine g_n_then ?_
    refine g_ret ?_
    refine g_done rfl (fun w hh => (.tmp rfl .nil)) (fun w hh => ⟨?_, hh.toExt⟩)
    simp [retv, bigW, hgt, *]

set_option maxRecDepth 100000 in
theorem c_Check3 (x : Sill) (w : World) : Ret Try.prog 96 [.agg (encS x).toArray] w (.bool (hgt x.h)) := by
  refine g_enter (args := [.agg (encS x).toArray]) Try.func96 rfl Try.ntmps96 rfl (e := [(0, _)]) rfl (HS.start w [] [] (by simp)) ?_
  refine g_seq ?_
  refine g_region ?_
  refine g_box rfl rfl (fun b1 hb1 => ?_)
  refine g_val rfl rfl rfl (fun _ _ => v_assign rfl) ?_
  refine g_nil ?_
  refine g_n_then ?_
  refine g_seq ?_
  refine g_region ?_
  refine g_val rfl rfl rfl (fun w _ => v_fieldAddr 2 (Try.runUnderlying51 w) rfl (Try.sizeOf3 w) rfl) ?_
  refine g_val rfl rfl rfl (fun w hh => v_load (Try.isAgg3 w) rfl (hh.cell 0 rfl rfl)) ?_
  refine g_callv rfl rfl rfl rfl rfl rfl rfl (fun a w => Try.call93 a w) (fun w hh => c_hgt _ w) ?_
  refine g_val rfl rfl rfl (fun _ _ => v_assign rfl) ?_
  refine g_nil ?_
  refine g_n_then ?_
  refine g_ret ?_
  refine g_done rfl (fun w hh => (.tmp rfl .nil)) (fun w hh => ⟨?_, hh.toExt⟩)
  rfl

set_option maxRecDepth 100000 in
theorem c_Check5 (x : Sill) (w : World) : Ret Try.prog 99 [.agg (encS x).toArray] w (.bool (!decide (x.a = x.b))) := by
  refine g_enter (args := [.agg (encS x).toArray]) Try.func99 rfl Try.ntmps99 rfl (e := [(0, _)]) rfl (HS.start w [] [] (by simp)) ?_
  refine g_seq ?_
  refine g_region ?_
  refine g_box rfl rfl (fun b1 hb1 => ?_)
  refine g_val rfl rfl rfl (fun _ _ => v_assign rfl) ?_
  refine g_nil ?_
  refine g_n_then ?_
  refine g_seq ?_
  refine g_region ?_
  refine g_val rfl rfl rfl (fun w _ => v_fieldAddr 0 (Try.runUnderlying51 w) rfl (Try.sizeOf3 w) rfl) ?_
  refine g_val rfl rfl rfl (fun w hh => v_load (Try.isAgg3 w) rfl (hh.cell 0 rfl rfl)) ?_
  refine g_val rfl rfl rfl (fun w _ => v_fieldAddr 1 (Try.runUnderlying51 w) rfl (Try.sizeOf3 w) rfl) ?_
  refine g_val rfl rfl rfl (fun w hh => v_load (Try.isAgg3 w) rfl (hh.cell 0 rfl rfl)) ?_
  refine g_val rfl rfl rfl (fun _ _ => v_neq rfl rfl) ?_
  refine g_val rfl rfl rfl (fun _ _ => v_assign rfl) ?_
  refine g_nil ?_
  refine g_n_then ?_
  refine g_ret ?_
  refine g_done rfl (fun w hh => (.tmp rfl .nil)) (fun w hh => ⟨?_, hh.toExt⟩)
  rfl

set_option maxRecDepth 100000 in
theorem c_Check1 (p : Int) (bx : Nat) (L : LS) (w : World) (hL : L.OK w) (hb : segOK w (bx, 0, L.cells)) : Ret Try.prog 88 [.int .i64 p, ptr bx 0] w (.bool (isEnd L.S p)) := by
  have hlt := hL.tl
  have hlf := hL.fl
  have hls := hL.sl
  refine g_enter (args := [.int .i64 p, ptr bx 0]) Try.func88 rfl Try.ntmps88 rfl (e := [(0, _), (1, _)]) rfl (HS.start w [] ((bx, 0, L.cells) :: L.segs) (segsC hb hL.segs)) ?_
  refine g_seq ?_
  refine g_region ?_
  refine g_val rfl rfl rfl (fun _ _ => v_assign rfl) ?_
  refine g_nil ?_
  refine g_n_then ?_
  refine g_seq ?_
  refine g_region ?_
  refine g_val rfl rfl rfl (fun _ _ => v_move rfl) ?_
  refine g_val rfl rfl rfl (fun _ _ => v_eql rfl rfl) ?_
  refine g_val rfl rfl rfl (fun _ _ => v_move rfl) ?_
  refine g_case 6 rfl (fun hg6_1 => ?_) (fun hg6_1 => ?_)
  · replace hg6_1 := of_decide_eq_true hg6_1
    refine g_skipG rfl rfl rfl rfl rfl rfl ?_
    refine g_skipG rfl rfl rfl rfl rfl rfl ?_
    refine g_skipG rfl rfl rfl rfl rfl rfl ?_
    refine g_val rfl rfl rfl (fun _ _ => v_pickT rfl rfl) ?_
    refine g_val rfl rfl rfl (fun _ _ => v_assign rfl) ?_
    refine g_nil ?_
    refine g_n_then ?_
    refine g_ret ?_
    refine g_done rfl (fun w hh => (.tmp rfl .nil)) (fun w hh => ⟨?_, hh.toExt⟩)
    simp [retv, isEnd, *]
  · replace hg6_1 := of_decide_eq_false hg6_1
    refine g_valG rfl rfl rfl rfl rfl (fun w hh => v_loadAgg (vs := [_, _, _, _, _]) (Try.isAgg29 w) (Try.sizeOf29 w) rfl (hh.rcells 0 0 rfl rfl)) ?_
    refine g_valG rfl rfl rfl rfl rfl (fun _ _ => v_move rfl) ?_
    refine g_callvG rfl rfl rfl rfl rfl rfl rfl rfl rfl (fun a w => Try.call89 a w) (fun w hh => c_place _ L w (hL.ext hh.toExt)) ?_
    refine g_val rfl rfl rfl (fun _ _ => v_pickF rfl rfl) ?_
    refine g_val rfl rfl rfl (fun _ _ => v_assign rfl) ?_
    refine g_nil ?_
    refine g_n_then ?_
    refine g_ret ?_
    refine g_done rfl (fun w hh => (.tmp rfl .nil)) (fun w hh => ⟨?_, hh.toExt⟩)
    simp [retv, isEnd, *]

set_option maxRecDepth 100000 in
theorem c_Check4 (x : Sill) (bx bo : Nat) (L : LS) (w : World) (hL : L.OK w) (hb : segOK w (bx, 0, L.cells)) (hc : segOK w (bo, 0, [.func (.func 88) #[] #[ptr bx 0]])) : Ret Try.prog 98 [.agg (encS x).toArray, ptr bo 0] w (.bool (isEnd L.S x.a && isEnd L.S x.b)) := by
  have hlt := hL.tl
  have hlf := hL.fl
  have hls := hL.sl
  refine g_enter (args := [.agg (encS x).toArray, ptr bo 0]) Try.func98 rfl Try.ntmps98 rfl (e := [(0, _), (1, _)]) rfl (HS.start w [] ((bo, 0, [.func (.func 88) #[] #[ptr bx 0]]) :: (bx, 0, L.cells) :: L.segs) (segsC hc (segsC hb hL.segs))) ?_
  refine g_seq ?_
  refine g_region ?_
  refine g_box rfl rfl (fun b1 hb1 => ?_)
  refine g_val rfl rfl rfl (fun _ _ => v_assign rfl) ?_
  refine g_nil ?_
  refine g_n_then ?_
  refine g_seq ?_
  refine g_region ?_
  refine g_val rfl rfl rfl (fun w hh => v_load (Try.isAgg129 w) rfl (hh.rcell 0 0 rfl rfl)) ?_
  refine g_val rfl rfl rfl (fun w _ => v_fieldAddr 0 (Try.runUnderlying51 w) rfl (Try.sizeOf3 w) rfl) ?_
  refine g_val rfl rfl rfl (fun w hh => v_load (Try.isAgg3 w) rfl (hh.cell 0 rfl rfl)) ?_
  refine g_callv rfl rfl rfl rfl rfl rfl rfl (fun a w => Try.call88 a w) (fun w hh => c_Check1 _ bx L w (hL.ext hh.toExt) (hh.seg 1 rfl)) ?_
  refine g_val rfl rfl rfl (fun _ _ => v_move rfl) ?_
  refine g_case 8 rfl (fun hg8_1 => ?_) (fun hg8_1 => ?_)
  · have hg8_1 := hg8_1
    refine g_valG rfl rfl rfl rfl rfl (fun w hh => v_load (Try.isAgg129 w) rfl (hh.rcell 0 0 rfl rfl)) ?_
    refine g_valG rfl rfl rfl rfl rfl (fun w _ => v_fieldAddr 1 (Try.runUnderlying51 w) rfl (Try.sizeOf3 w) rfl) ?_
    refine g_valG rfl rfl rfl rfl rfl (fun w hh => v_load (Try.isAgg3 w) rfl (hh.cell 0 rfl rfl)) ?_
    refine g_callvG rfl rfl rfl rfl rfl rfl rfl rfl rfl (fun a w => Try.call88 a w) (fun w hh => c_Check1 _ bx L w (hL.ext hh.toExt) (hh.seg 1 rfl)) ?_
    refine g_val rfl rfl rfl (fun _ _ => v_pickT rfl rfl) ?_
    refine g_val rfl rfl rfl (fun _ _ => v_assign rfl) ?_
    refine g_nil ?_
    refine g_n_then ?_
    refine g_ret ?_
    refine g_done rfl (fun w hh => (.tmp rfl .nil)) (fun w hh => ⟨?_, hh.toExt⟩)
    simp [retv, *]
  · have hg8_1 := hg8_1
    refine g_skipG rfl rfl rfl rfl rfl rfl ?_
    refine g_skipG rfl rfl rfl rfl rfl rfl ?_
    refine g_skipG rfl rfl rfl rfl rfl rfl ?_
    refine g_skipG rfl rfl rfl rfl rfl rfl ?_
    refine g_val rfl rfl rfl (fun _ _ => v_pickF rfl rfl) ?_
    refine g_val rfl rfl rfl (fun _ _ => v_assign rfl) ?_
    refine g_nil ?_
    refine g_n_then ?_
    refine g_ret ?_
    refine g_done rfl (fun w hh => (.tmp rfl .nil)) (fun w hh => ⟨?_, hh.toExt⟩)
    simp [retv, *]

set_option maxRecDepth 100000 in
theorem c_Check (L : LS) (w : World) (hL : L.OK w) : Ret Try.prog 24 [L.val] w (.int .i64 (check L.S)) := by
  have hlt := hL.tl
  have hlf := hL.fl
  have hls := hL.sl
  refine g_enter (args := [L.val]) Try.func24 rfl Try.ntmps24 rfl (e := [(0, _)]) rfl (HS.start w [] L.segs hL.segs) ?_
  refine g_seq ?_
  refine g_region ?_
  refine g_box rfl rfl (fun b1 hb1 => ?_)
  refine g_val rfl rfl rfl (fun _ _ => v_assign rfl) ?_
  refine g_nil ?_
  refine g_n_then ?_
  refine g_seq ?_
  refine g_region ?_
  refine g_val rfl rfl rfl (fun _ _ => v_makeFunc (u := #[]) (u' := #[_]) rfl rfl) ?_
  refine g_alloc (fun w => Try.zeroValue129 w) rfl (fun b2 hb2 => ?_)
  refine g_store1 (own' := (_ :: _)) 0 (fun w => Try.sizeOf129 w) rfl rfl rfl rfl rfl ?_
  refine g_nil ?_
  refine g_n_then ?_
  refine g_seq ?_
  refine g_block ?_
  refine g_seq ?_
  refine g_region ?_
  refine g_val rfl rfl rfl (fun w _ => v_fieldAddr 0 (Try.runUnderlying29 w) rfl (Try.sizeOf23 w) rfl) ?_
  refine g_val rfl rfl rfl (fun w hh => v_load (Try.isAgg23 w) rfl (hh.cell 1 rfl rfl)) ?_
  refine g_val rfl rfl rfl (fun w _ => v_lenS (Try.runUnderlying23 w) rfl) ?_
  refine g_callv rfl rfl rfl rfl rfl rfl rfl (fun a w => Try.call90 a w) (fun w hh => c_in _ _ _ w) ?_
  refine g_val rfl rfl rfl (fun _ _ => v_not rfl) ?_
  refine g_val rfl rfl rfl (fun _ _ => v_move rfl) ?_
  refine g_case 11 rfl (fun h11 => ?_) (fun h11 => ?_)
  · refine g_skipG rfl rfl rfl rfl rfl rfl ?_
    refine g_skipG rfl rfl rfl rfl rfl rfl ?_
    refine g_skipG rfl rfl rfl rfl rfl rfl ?_
    refine g_skipG rfl rfl rfl rfl rfl rfl ?_
    refine g_skipG rfl rfl rfl rfl rfl rfl ?_
    refine g_val rfl rfl rfl (fun _ _ => v_pickT rfl rfl) ?_
    refine g_val rfl rfl rfl (fun _ _ => v_move rfl) ?_
    refine g_skipG rfl rfl rfl rfl rfl rfl ?_
    refine g_skipG rfl rfl rfl rfl rfl rfl ?_
    refine g_skipG rfl rfl rfl rfl rfl rfl ?_
    refine g_skipG rfl rfl rfl rfl rfl rfl ?_
    refine g_val rfl rfl rfl (fun _ _ => v_pickT rfl rfl) ?_
    refine g_val rfl rfl rfl (fun _ _ => v_assign rfl) ?_
    refine g_nil ?_
    refine g_n_then ?_
    refine g_condT rfl rfl ?_
    refine g_seq ?_
    refine g_region ?_
    refine g_val rfl rfl rfl (fun _ _ => v_assign rfl) ?_
    refine g_nil ?_
    refine g_n_then ?_
    refine g_ret ?_
    refine g_r_blk ?_
    refine g_r_then ?_
    refine g_done rfl (fun w hh => (.tmp rfl .nil)) (fun w hh => ⟨?_, hh.toExt⟩)
    simp [retv, check, *]
  · have h2 : 2 ≤ L.S.table.length := by have h := h11; simp [inr] at h; omega
    refine g_valG rfl rfl rfl rfl rfl (fun w _ => v_fieldAddr 3 (Try.runUnderlying29 w) rfl (Try.sizeOf26 w) rfl) ?_
    refine g_valG rfl rfl rfl rfl rfl (fun w hh => v_load (Try.isAgg26 w) rfl (hh.cell 1 rfl rfl)) ?_
    refine g_valG rfl rfl rfl rfl rfl (fun w _ => v_lenS (Try.runUnderlying26 w) rfl) ?_
    refine g_callvG rfl rfl rfl rfl rfl rfl rfl rfl rfl (fun a w => Try.call90 a w) (fun w hh => c_in _ _ _ w) ?_
    refine g_valG rfl rfl rfl rfl rfl (fun _ _ => v_not rfl) ?_
    refine g_val rfl rfl rfl (fun _ _ => v_pickF rfl rfl) ?_
    refine g_val rfl rfl rfl (fun _ _ => v_move rfl) ?_
    refine g_case 18 rfl (fun hg18_2 => ?_) (fun hg18_2 => ?_)
    · replace hg18_2 := of_not_true hg18_2
      refine g_skipG rfl rfl rfl rfl rfl rfl ?_
      refine g_skipG rfl rfl rfl rfl rfl rfl ?_
      refine g_skipG rfl rfl rfl rfl rfl rfl ?_
      refine g_skipG rfl rfl rfl rfl rfl rfl ?_
      refine g_val rfl rfl rfl (fun _ _ => v_pickT rfl rfl) ?_
      refine g_val rfl rfl rfl (fun _ _ => v_assign rfl) ?_
      refine g_nil ?_
      refine g_n_then ?_
      refine g_condT rfl rfl ?_
      refine g_seq ?_
      refine g_region ?_
      refine g_val rfl rfl rfl (fun _ _ => v_assign rfl) ?_
      refine g_nil ?_
      refine g_n_then ?_
      refine g_ret ?_
      refine g_r_blk ?_
      refine g_r_then ?_
      refine g_done rfl (fun w hh => (.tmp rfl .nil)) (fun w hh => ⟨?_, hh.toExt⟩)
      simp [retv, check, *]
    · replace hg18_2 := of_not_false hg18_2
      refine g_valG rfl rfl rfl rfl rfl (fun w _ => v_fieldAddr 4 (Try.runUnderlying29 w) rfl (Try.sizeOf27 w) rfl) ?_
      refine g_valG rfl rfl rfl rfl rfl (fun w hh => v_load (Try.isAgg27 w) rfl (hh.cell 1 rfl rfl)) ?_
      refine g_valG rfl rfl rfl rfl rfl (fun w _ => v_lenS (Try.runUnderlying27 w) rfl) ?_
      refine g_valG rfl rfl rfl rfl rfl (fun _ _ => v_gtr rfl rfl) ?_
      refine g_val rfl rfl rfl (fun _ _ => v_pickF rfl rfl) ?_
      refine g_val rfl rfl rfl (fun _ _ => v_assign rfl) ?_
      refine g_nil ?_
      refine g_n_then ?_
      refine g_cond rfl (fun hc5_3 => ?_) (fun hc5_3 => ?_)
      · replace hc5_3 := of_decide_eq_true hc5_3
        refine g_seq ?_
        refine g_region ?_
        refine g_val rfl rfl rfl (fun _ _ => v_assign rfl) ?_
        refine g_nil ?_
        refine g_n_then ?_
        refine g_ret ?_
        refine g_r_blk ?_
        refine g_r_then ?_
        refine g_done rfl (fun w hh => (.tmp rfl .nil)) (fun w hh => ⟨?_, hh.toExt⟩)
        simp [retv, check, *]
      · replace hc5_3 := of_decide_eq_false hc5_3
        refine g_seq ?_
        refine g_region ?_
        refine g_val rfl rfl rfl (fun w _ => v_fieldAddr 0 (Try.runUnderlying29 w) rfl (Try.sizeOf23 w) rfl) ?_
        refine g_val rfl rfl rfl (fun w hh => v_load (Try.isAgg23 w) rfl (hh.cell 1 rfl rfl)) ?_
        refine g_callv rfl rfl rfl rfl rfl rfl rfl (fun a w => Try.call91 a w) (fun w hh => c_every_Water 92 #[] #[] (bigW) L.S.table L.rt L.ct w (by omega) hL.t0 (hh.seg 0 rfl) (fun a w => Try.call92 a w) (fun w2 hx j hj => c_Check2 _ w2)) ?_
        refine g_val rfl rfl rfl (fun _ _ => v_not rfl) ?_
        refine g_val rfl rfl rfl (fun _ _ => v_assign rfl) ?_
        refine g_nil ?_
        refine g_n_then ?_
        refine g_cond rfl (fun hc24_4 => ?_) (fun hc24_4 => ?_)
        · replace hc24_4 := of_not_true hc24_4
          refine g_seq ?_
          refine g_region ?_
          refine g_val rfl rfl rfl (fun _ _ => v_assign rfl) ?_
          refine g_nil ?_
          refine g_n_then ?_
          refine g_ret ?_
          refine g_r_blk ?_
          refine g_r_then ?_
          refine g_done rfl (fun w hh => (.tmp rfl .nil)) (fun w hh => ⟨?_, hh.toExt⟩)
          simp [retv, check, *]
        · replace hc24_4 := of_not_false hc24_4
          refine g_seq ?_
          refine g_region ?_
          refine g_val rfl rfl rfl (fun w _ => v_fieldAddr 1 (Try.runUnderlying29 w) rfl (Try.sizeOf25 w) rfl) ?_
          refine g_val rfl rfl rfl (fun w _ => v_fieldAddr 0 (Try.runUnderlying25 w) rfl (Try.sizeOf3 w) rfl) ?_
          refine g_val rfl rfl rfl (fun w hh => v_load (Try.isAgg3 w) rfl (hh.cell 1 rfl rfl)) ?_
          refine g_callv rfl rfl rfl rfl rfl rfl rfl (fun a w => Try.call90 a w) (fun w hh => c_in _ _ _ w) ?_
          refine g_val rfl rfl rfl (fun _ _ => v_not rfl) ?_
          refine g_val rfl rfl rfl (fun _ _ => v_move rfl) ?_
          refine g_case 35 rfl (fun hg35_5 => ?_) (fun hg35_5 => ?_)
          · replace hg35_5 := of_not_true hg35_5
            refine g_skipG rfl rfl rfl rfl rfl rfl ?_
            refine g_skipG rfl rfl rfl rfl rfl rfl ?_
            refine g_skipG rfl rfl rfl rfl rfl rfl ?_
            refine g_skipG rfl rfl rfl rfl rfl rfl ?_
            refine g_skipG rfl rfl rfl rfl rfl rfl ?_
            refine g_val rfl rfl rfl (fun _ _ => v_pickT rfl rfl) ?_
            refine g_val rfl rfl rfl (fun _ _ => v_move rfl) ?_
            refine g_skipG rfl rfl rfl rfl rfl rfl ?_
            refine g_skipG rfl rfl rfl rfl rfl rfl ?_
            refine g_skipG rfl rfl rfl rfl rfl rfl ?_
            refine g_skipG rfl rfl rfl rfl rfl rfl ?_
            refine g_val rfl rfl rfl (fun _ _ => v_pickT rfl rfl) ?_
            refine g_val rfl rfl rfl (fun _ _ => v_assign rfl) ?_
            refine g_nil ?_
            refine g_n_then ?_
            refine g_condT rfl rfl ?_
            refine g_seq ?_
            refine g_region ?_
            refine g_val rfl rfl rfl (fun _ _ => v_assign rfl) ?_
            refine g_nil ?_
            refine g_n_then ?_
            refine g_ret ?_
            refine g_r_blk ?_
            refine g_r_then ?_
            refine g_done rfl (fun w hh => (.tmp rfl .nil)) (fun w hh => ⟨?_, hh.toExt⟩)
            simp [retv, check, *]
          · replace hg35_5 := of_not_false hg35_5
            refine g_valG rfl rfl rfl rfl rfl (fun w _ => v_fieldAddr 1 (Try.runUnderlying29 w) rfl (Try.sizeOf25 w) rfl) ?_
            refine g_valG rfl rfl rfl rfl rfl (fun w _ => v_fieldAddr 1 (Try.runUnderlying25 w) rfl (Try.sizeOf3 w) rfl) ?_
            refine g_valG rfl rfl rfl rfl rfl (fun w hh => v_load (Try.isAgg3 w) rfl (hh.cell 1 rfl rfl)) ?_
            refine g_callvG rfl rfl rfl rfl rfl rfl rfl rfl rfl (fun a w => Try.call90 a w) (fun w hh => c_in _ _ _ w) ?_
            refine g_valG rfl rfl rfl rfl rfl (fun _ _ => v_not rfl) ?_
            refine g_val rfl rfl rfl (fun _ _ => v_pickF rfl rfl) ?_
            refine g_val rfl rfl rfl (fun _ _ => v_move rfl) ?_
            refine g_case 42 rfl (fun hg42_6 => ?_) (fun hg42_6 => ?_)
            · replace hg42_6 := of_not_true hg42_6
              refine g_skipG rfl rfl rfl rfl rfl rfl ?_
              refine g_skipG rfl rfl rfl rfl rfl rfl ?_
              refine g_skipG rfl rfl rfl rfl rfl rfl ?_
              refine g_skipG rfl rfl rfl rfl rfl rfl ?_
              refine g_val rfl rfl rfl (fun _ _ => v_pickT rfl rfl) ?_
              refine g_val rfl rfl rfl (fun _ _ => v_assign rfl) ?_
              refine g_nil ?_
              refine g_n_then ?_
              refine g_condT rfl rfl ?_
              refine g_seq ?_
              refine g_region ?_
              refine g_val rfl rfl rfl (fun _ _ => v_assign rfl) ?_
              refine g_nil ?_
              refine g_n_then ?_
              refine g_ret ?_
              refine g_r_blk ?_
              refine g_r_then ?_
              refine g_done rfl (fun w hh => (.tmp rfl .nil)) (fun w hh => ⟨?_, hh.toExt⟩)
              simp [retv, check, *]
            · replace hg42_6 := of_not_false hg42_6
              refine g_valG rfl rfl rfl rfl rfl (fun w _ => v_fieldAddr 3 (Try.runUnderlying29 w) rfl (Try.sizeOf26 w) rfl) ?_
              refine g_valG rfl rfl rfl rfl rfl (fun w hh => v_load (Try.isAgg26 w) rfl (hh.cell 1 rfl rfl)) ?_
              refine g_callvG rfl rfl rfl rfl rfl rfl rfl rfl rfl (fun a w => Try.call94 a w) (fun w hh => c_every_int 93 #[] #[] (hgt) L.S.floors L.rf L.cf w (by omega) hL.f0 (hh.seg 1 rfl) (fun a w => Try.call93 a w) (fun w2 hx j hj => c_hgt _ w2)) ?_
              refine g_valG rfl rfl rfl rfl rfl (fun _ _ => v_not rfl) ?_
              refine g_val rfl rfl rfl (fun _ _ => v_pickF rfl rfl) ?_
              refine g_val rfl rfl rfl (fun _ _ => v_assign rfl) ?_
              refine g_nil ?_
              refine g_n_then ?_
              refine g_cond rfl (fun hc29_7 => ?_) (fun hc29_7 => ?_)
              · replace hc29_7 := of_not_true hc29_7
                refine g_seq ?_
                refine g_region ?_
                refine g_val rfl rfl rfl (fun _ _ => v_assign rfl) ?_
                refine g_nil ?_
                refine g_n_then ?_
                refine g_ret ?_
                refine g_r_blk ?_
                refine g_r_then ?_
                refine g_done rfl (fun w hh => (.tmp rfl .nil)) (fun w hh => ⟨?_, hh.toExt⟩)
                simp [retv, check, *]
              · replace hc29_7 := of_not_false hc29_7
                refine g_seq ?_
                refine g_region ?_
                refine g_val rfl rfl rfl (fun w _ => v_fieldAddr 4 (Try.runUnderlying29 w) rfl (Try.sizeOf27 w) rfl) ?_
                refine g_val rfl rfl rfl (fun w hh => v_load (Try.isAgg27 w) rfl (hh.cell 1 rfl rfl)) ?_
                refine g_callv rfl rfl rfl rfl rfl rfl rfl (fun a w => Try.call95 a w) (fun w hh => c_every_Sill 96 #[] #[] (fun x => hgt x.h) L.S.sills L.rs L.cs w (by omega) hL.s0 (hh.seg 2 rfl) (fun a w => Try.call96 a w) (fun w2 hx j hj => c_Check3 _ w2)) ?_
                refine g_val rfl rfl rfl (fun _ _ => v_not rfl) ?_
                refine g_val rfl rfl rfl (fun _ _ => v_assign rfl) ?_
                refine g_nil ?_
                refine g_n_then ?_
                refine g_cond rfl (fun hc48_8 => ?_) (fun hc48_8 => ?_)
                · replace hc48_8 := of_not_true hc48_8
                  refine g_seq ?_
                  refine g_region ?_
                  refine g_val rfl rfl rfl (fun _ _ => v_assign rfl) ?_
                  refine g_nil ?_
                  refine g_n_then ?_
                  refine g_ret ?_
                  refine g_r_blk ?_
                  refine g_r_then ?_
                  refine g_done rfl (fun w hh => (.tmp rfl .nil)) (fun w hh => ⟨?_, hh.toExt⟩)
                  simp [retv, check, *]
                · replace hc48_8 := of_not_false hc48_8
                  refine g_seq ?_
                  refine g_region ?_
                  refine g_val rfl rfl rfl (fun w hh => v_loadAgg (vs := [_, _, _, _, _]) (Try.isAgg29 w) (Try.sizeOf29 w) rfl (hh.cells 1 rfl rfl)) ?_
                  refine g_callv rfl rfl rfl rfl rfl rfl rfl (fun a w => Try.call97 a w) (fun w hh => c_ordered L w (hL.ext hh.toExt) (by omega)) ?_
                  refine g_val rfl rfl rfl (fun _ _ => v_not rfl) ?_
                  refine g_val rfl rfl rfl (fun _ _ => v_assign rfl) ?_
                  refine g_nil ?_
                  refine g_n_then ?_
                  refine g_cond rfl (fun hc53_9 => ?_) (fun hc53_9 => ?_)
                  · replace hc53_9 := of_not_true hc53_9
                    refine g_seq ?_
                    refine g_region ?_
                    refine g_val rfl rfl rfl (fun _ _ => v_assign rfl) ?_
                    refine g_nil ?_
                    refine g_n_then ?_
                    refine g_ret ?_
                    refine g_r_blk ?_
                    refine g_r_then ?_
                    refine g_done rfl (fun w hh => (.tmp rfl .nil)) (fun w hh => ⟨?_, hh.toExt⟩)
                    simp [retv, check, *]
                  · replace hc53_9 := of_not_false hc53_9
                    refine g_seq ?_
                    refine g_region ?_
                    refine g_val rfl rfl rfl (fun w _ => v_fieldAddr 4 (Try.runUnderlying29 w) rfl (Try.sizeOf27 w) rfl) ?_
                    refine g_val rfl rfl rfl (fun w hh => v_load (Try.isAgg27 w) rfl (hh.cell 1 rfl rfl)) ?_
                    refine g_val rfl rfl rfl (fun _ _ => v_makeFunc (u := #[]) (u' := #[_]) rfl rfl) ?_
                    refine g_callv rfl rfl rfl rfl rfl rfl rfl (fun a w => Try.call95 a w) (fun w hh => c_every_Sill 98 #[] #[ptr b2 0] (fun x => isEnd L.S x.a && isEnd L.S x.b) L.S.sills L.rs L.cs w (by omega) hL.s0 (hh.seg 2 rfl) (fun a w => Try.call98 a w) (fun w2 hx j hj => c_Check4 _ b1 b2 L w2 ((hL.ext hh.toExt).ext hx) ((hh.ownSeg 1 rfl).ext hx (by simp)) ((hh.ownSeg 0 rfl).ext hx (by simp)))) ?_
                    refine g_val rfl rfl rfl (fun _ _ => v_not rfl) ?_
                    refine g_val rfl rfl rfl (fun _ _ => v_assign rfl) ?_
                    refine g_nil ?_
                    refine g_n_then ?_
                    refine g_cond rfl (fun hc57_10 => ?_) (fun hc57_10 => ?_)
                    · replace hc57_10 := of_not_true hc57_10
                      refine g_seq ?_
                      refine g_region ?_
                      refine g_val rfl rfl rfl (fun _ _ => v_assign rfl) ?_
                      refine g_nil ?_
                      refine g_n_then ?_
                      refine g_ret ?_
                      refine g_r_blk ?_
                      refine g_r_then ?_
                      refine g_done rfl (fun w hh => (.tmp rfl .nil)) (fun w hh => ⟨?_, hh.toExt⟩)
                      simp [retv, check, *]
                    · replace hc57_10 := of_not_false hc57_10
                      refine g_seq ?_
                      refine g_region ?_
                      refine g_val rfl rfl rfl (fun w _ => v_fieldAddr 4 (Try.runUnderlying29 w) rfl (Try.sizeOf27 w) rfl) ?_
                      refine g_val rfl rfl rfl (fun w hh => v_load (Try.isAgg27 w) rfl (hh.cell 1 rfl rfl)) ?_
                      refine g_callv rfl rfl rfl rfl rfl rfl rfl (fun a w => Try.call95 a w) (fun w hh => c_every_Sill 99 #[] #[] (fun x => !decide (x.a = x.b)) L.S.sills L.rs L.cs w (by omega) hL.s0 (hh.seg 2 rfl) (fun a w => Try.call99 a w) (fun w2 hx j hj => c_Check5 _ w2)) ?_
                      refine g_val rfl rfl rfl (fun _ _ => v_not rfl) ?_
                      refine g_val rfl rfl rfl (fun _ _ => v_assign rfl) ?_
                      refine g_nil ?_
                      refine g_n_then ?_
                      refine g_cond rfl (fun hc63_11 => ?_) (fun hc63_11 => ?_)
                      · replace hc63_11 := of_not_true hc63_11
                        refine g_seq ?_
                        refine g_region ?_
                        refine g_val rfl rfl rfl (fun _ _ => v_assign rfl) ?_
                        refine g_nil ?_
                        refine g_n_then ?_
                        refine g_ret ?_
                        refine g_r_blk ?_
                        refine g_r_then ?_
                        refine g_done rfl (fun w hh => (.tmp rfl .nil)) (fun w hh => ⟨?_, hh.toExt⟩)
                        simp [retv, check, *]
                      · replace hc63_11 := of_not_false hc63_11
                        refine g_skip ?_
                        refine g_n_blk ?_
                        refine g_n_then ?_
                        refine g_seq ?_
                        refine g_region ?_
                        refine g_val rfl rfl rfl (fun _ _ => v_assign rfl) ?_
                        refine g_nil ?_
                        refine g_n_then ?_
                        refine g_ret ?_
                        refine g_done rfl (fun w hh => (.tmp rfl .nil)) (fun w hh => ⟨?_, hh.toExt⟩)
                        simp [retv, check, *]

end Go.Proofs

namespace Go.Proofs
open Go Go.Fw Go.Pl
set_option maxRecDepth 100000 in
theorem c_from (bd : Nat) (p : Int) (w : World) : Calls Try.prog 160 #[ptr bd 0, .int .i64 p] w (fun en w' => ∃ b2 b3 : Nat, en = .returned (.func (.func 166) #[] #[ptr b2 0, ptr b3 0]) ∧ Fresh w w' [(b3, .cells #[.int .i64 p] 3 (0, 0)), (b2, .cells #[ptr bd 0] 139 (0, 0))]) := by
  refine g_enter (args := [ptr bd 0, .int .i64 p]) Try.func160 rfl Try.ntmps160 rfl (e := [(0, _), (1, _)]) rfl (HS.start w [] [] segsN) ?_
  refine g_seq ?_
  refine g_region ?_
  refine g_box rfl rfl (fun b1 hb1 => ?_)
  refine g_box rfl rfl (fun b2 hb2 => ?_)
  refine g_val rfl rfl rfl (fun _ _ => v_assign rfl) ?_
  refine g_nil ?_
  refine g_n_then ?_
  refine g_seq ?_
  refine g_region ?_
  refine g_val rfl rfl rfl (fun _ _ => v_makeFunc (u := #[]) (u' := #[_, _]) rfl rfl) ?_
  refine g_val rfl rfl rfl (fun _ _ => v_assign rfl) ?_
  refine g_nil ?_
  refine g_n_then ?_
  refine g_ret ?_
  refine g_done rfl (fun w hh => (.tmp rfl .nil)) (fun w hh => ⟨_, _, rfl, hh.toFresh⟩)

set_option maxRecDepth 100000 in
theorem c_from1 {γ : Type} (w0 : World) (M : List Nat) (ro : List Sg) (Y : γ → List (Nat × Obj)) (St : Nat → γ → Prop) (l bd b2 b3 : Nat) (p : Int) (L : LS) (hL : L.OK w0) (i0 : Nat) (hro : ro[i0]? = some (bk L.rs, off L.rs, flat encS L.S.sills))
    (hab : ∀ j, j < L.S.sills.length → (L.S.sills.getD j default).a ≠ (L.S.sills.getD j default).b)
    (hdesk : ∀ g X w, St 0 g → HS w0 M (Y g ++ X) ro w → w.cell? ⟨bd, 4, none⟩ = some (slv L.rs L.S.sills.length L.cs))
    (hskip : ∀ j g, j < L.S.sills.length → St j g → (L.S.sills.getD j default).a ≠ p → (L.S.sills.getD j default).b ≠ p → St (j + 1) g)
    (hyA : ∀ j g X w, j < L.S.sills.length → St j g → (L.S.sills.getD j default).a = p → HS w0 M (Y g ++ X) ro w → YieldOK Try.prog l [.int .i64 (j : Nat), .int .i64 (L.S.sills.getD j default).b] w (fun en w' => en = .returned (.bool true) ∧ ∃ g', St (j + 1) g' ∧ HS w0 M (Y g' ++ X) ro w'))
    (hyB : ∀ j g X w, j < L.S.sills.length → St j g → (L.S.sills.getD j default).b = p → HS w0 M (Y g ++ X) ro w → YieldOK Try.prog l [.int .i64 (j : Nat), .int .i64 (L.S.sills.getD j default).a] w (fun en w' => en = .returned (.bool true) ∧ ∃ g', St (j + 1) g' ∧ HS w0 M (Y g' ++ X) ro w'))
    (g0 : γ) (h0 : St 0 g0) (w : World) (X0 : List (Nat × Obj)) (hh : HS w0 M ((b3, .cells #[.int .i64 p] 3 (0, 0)) :: (b2, .cells #[ptr bd 0] 139 (0, 0)) :: (Y g0 ++ X0)) ro w) : Calls Try.prog 166 #[.func (.yield l) #[] #[], ptr b2 0, ptr b3 0] w (fun en w' => ∃ v, en = .returned v ∧ ∃ g, St L.S.sills.length g ∧ HS w0 M ((b3, .cells #[.int .i64 p] 3 (0, 0)) :: (b2, .cells #[ptr bd 0] 139 (0, 0)) :: (Y g ++ X0)) ro w') := by
  have hlt := hL.tl
  have hlf := hL.fl
  have hls := hL.sl
  refine g_enter (args := [.func (.yield l) #[] #[], ptr b2 0, ptr b3 0]) Try.func166 rfl Try.ntmps166 rfl (e := [(0, _), (1, _), (2, _)]) rfl (hh) ?_
  refine g_seq ?_
  refine g_region ?_
  refine g_val rfl rfl rfl (fun w hh => v_load (Try.isAgg139 w) rfl (hh.cell 1 rfl rfl)) ?_
  refine g_val rfl rfl rfl (fun _ _ => v_nilCheck rfl) ?_
  refine g_val rfl rfl rfl (fun w _ => v_fieldAddr 0 (Try.runUnderlying157 w) rfl (Try.sizeOf29 w) rfl) ?_
  refine g_val rfl rfl rfl (fun w _ => v_fieldAddr 4 (Try.runUnderlying29 w) rfl (Try.sizeOf27 w) rfl) ?_
  -- the desk's sills
  refine g_val rfl rfl rfl (fun w hh => v_load (Try.isAgg27 w) rfl (hdesk g0 X0 w h0 (hh.dropN 2 rfl))) ?_
  refine g_val rfl rfl rfl (fun w _ => v_lenS (Try.runUnderlying27 w) rfl) ?_
  refine g_val rfl rfl rfl (fun _ _ => v_move rfl) ?_
  refine g_nil ?_
  refine g_n_then ?_
  refine g_block ?_
  refine g_sub (e' := [(12, _), (0, _), (2, _), (10, _), (11, _)]) ((.cons rfl (.cons rfl (.cons rfl (.cons rfl (.cons rfl .nil)))))) ?_
  refine g_loopM (ι := Nat × γ) (fun (k, g) => [(12, .int .i64 (k : Nat))]) (fun (k, g) => ((b3, .cells #[.int .i64 p] 3 (0, 0)) :: (b2, .cells #[ptr bd 0] 139 (0, 0)) :: Y g)) (fun (k, g) => k ≤ L.S.sills.length ∧ St k g) (fun (k, g) => L.S.sills.length - k) (0, g0) (⟨Nat.zero_le _, h0⟩) ?_
  intro ⟨k, g⟩ hI0
  simp only at hI0
  refine g_seq ?_
  refine g_region ?_
  refine g_val rfl rfl rfl (fun _ _ => v_lss rfl rfl) ?_
  refine g_nil ?_
  refine g_n_then ?_
  refine g_seq ?_
  refine g_cond rfl (fun hc13_1 => ?_) (fun hc13_1 => ?_)
  · replace hc13_1 := of_decide_eq_true hc13_1
    refine g_skip ?_
    refine g_n_then ?_
    refine g_seq ?_
    refine g_block ?_
    refine g_seq ?_
    refine g_region ?_
    refine g_val rfl rfl rfl (fun _ _ => v_move rfl) ?_
    refine g_val rfl rfl rfl (fun w _ => v_indexAddr k (Try.runUnderlying27 w) (Try.sizeOf51 w) rfl rfl rfl (by omega) (hL.s0 (by omega))) ?_
    refine g_val rfl rfl rfl (fun w hh => v_loadAgg (vs := encS _) (Try.isAgg51 w) (Try.sizeOf51 w) rfl (hh.elem encS_len i0 hro (by omega))) ?_
    refine g_alloc (fun w => Try.zeroValue51 w) rfl (fun b1 hb1 => ?_)
    refine g_val rfl rfl rfl (fun _ _ => v_assign rfl) ?_
    refine g_storeAgg (vs := #[_, _, _]) (own' := (_ :: _)) 0 (fun w => Try.sizeOf51 w) rfl rfl rfl rfl rfl rfl ?_
    refine g_nil ?_
    refine g_n_then ?_
    refine g_seq ?_
    refine g_region ?_
    refine g_val rfl rfl rfl (fun w _ => v_fieldAddr 0 (Try.runUnderlying51 w) rfl (Try.sizeOf3 w) rfl) ?_
    refine g_val rfl rfl rfl (fun w hh => v_load (Try.isAgg3 w) rfl (hh.cell 0 rfl rfl)) ?_
    refine g_val rfl rfl rfl (fun w hh => v_load (Try.isAgg3 w) rfl (hh.cell 1 rfl rfl)) ?_
    refine g_val rfl rfl rfl (fun _ _ => v_eql rfl rfl) ?_
    refine g_val rfl rfl rfl (fun _ _ => v_move rfl) ?_
    refine g_case 21 rfl (fun hA => ?_) (fun hA => ?_)
    · refine g_valG rfl rfl rfl rfl rfl (fun _ _ => v_move rfl) ?_
      refine g_valG rfl rfl rfl rfl rfl (fun _ _ => v_move rfl) ?_
      refine g_valG rfl rfl rfl rfl rfl (fun w _ => v_fieldAddr 1 (Try.runUnderlying51 w) rfl (Try.sizeOf3 w) rfl) ?_
      refine g_valG rfl rfl rfl rfl rfl (fun w hh => v_load (Try.isAgg3 w) rfl (hh.cell 0 rfl rfl)) ?_
      refine g_yieldG (ι := γ) (ret := fun _ => .bool true) (H' := fun g' w' => St (k + 1) g' ∧ HS w0 M ((b1, .cells #[.int .i64 (L.S.sills.getD k default).a, .int .i64 (L.S.sills.getD k default).b, .int .i64 (L.S.sills.getD k default).h] 51 (0, 0)) :: (b3, .cells #[.int .i64 p] 3 (0, 0)) :: (b2, .cells #[ptr bd 0] 139 (0, 0)) :: (Y g' ++ X0)) ro w') rfl rfl (fun a he => by rw [wanted_some he rfl rfl rfl]; rfl) rfl rfl rfl (fun w hh => ?_) ?_
      · have hh1 := hh.swap (A := [_, _, _]) (B := Y g) (C := X0)
        refine (hyA k g _ w (by omega) hI0.2 (of_decide_eq_true hA) hh1).mono ?_
        rintro en w' ⟨rfl, g', hs', hh'⟩
        exact ⟨g', rfl, hs', hh'.swap (A := Y g') (B := [_, _, _]) (C := X0)⟩
      intro g2
      refine g_pure (fun w hh => hh.1) (fun hsg2 => ?_)
      refine G.pre ?_ (fun w hh => hh.2)
      refine g_valG rfl rfl rfl rfl rfl (fun _ _ => v_not rfl) ?_
      refine g_val rfl rfl rfl (fun _ _ => v_pickT rfl rfl) ?_
      refine g_val rfl rfl rfl (fun _ _ => v_move rfl) ?_
      refine g_valG rfl rfl rfl rfl rfl (fun w _ => v_fieldAddr 1 (Try.runUnderlying51 w) rfl (Try.sizeOf3 w) rfl) ?_
      refine g_valG rfl rfl rfl rfl rfl (fun w hh => v_load (Try.isAgg3 w) rfl (hh.cell 0 rfl rfl)) ?_
      refine g_valG rfl rfl rfl rfl rfl (fun w hh => v_load (Try.isAgg3 w) rfl (hh.cell 1 rfl rfl)) ?_
      refine g_valG rfl rfl rfl rfl rfl (fun _ _ => v_eql rfl rfl) ?_
      refine g_valG rfl rfl rfl rfl rfl (fun _ _ => v_move rfl) ?_
      refine g_set 34 (u := .bool false) rfl (congrArg Value.bool (decide_eq_false (fun hb => hab k (by omega) ((of_decide_eq_true hA).trans hb.symm)))) ?_
      refine g_skipG rfl rfl rfl rfl rfl rfl ?_
      refine g_skipG rfl rfl rfl rfl rfl rfl ?_
      refine g_skipG rfl rfl rfl rfl rfl rfl ?_
      refine g_skipG rfl rfl rfl rfl rfl rfl ?_
      refine g_skipG rfl rfl rfl rfl rfl rfl ?_
      refine g_skipG rfl rfl rfl rfl rfl rfl ?_
      refine g_valG rfl rfl rfl rfl rfl (fun _ _ => v_pickF rfl rfl) ?_
      refine g_val rfl rfl rfl (fun _ _ => v_pickF rfl rfl) ?_
      refine g_nil ?_
      refine g_n_then ?_
      refine g_condF rfl rfl ?_
      refine g_skip ?_
      refine g_n_blk ?_
      refine g_n_then ?_
      refine g_region ?_
      refine g_val rfl rfl rfl (fun _ _ => v_add rfl rfl (wrap_i64 (by omega))) ?_
      refine g_val rfl rfl rfl (fun _ _ => v_move rfl) ?_
      refine g_nil ?_
      refine g_n_then ?_
      exact g_againD (i := ⟨k, g⟩) (k + 1, g2) 1 ((.cons rfl (.cons rfl (.cons rfl (.cons rfl (.cons rfl .nil)))))) rfl (⟨by omega, hsg2⟩) (by simp only; omega)
    · refine g_skipG rfl rfl rfl rfl rfl rfl ?_
      refine g_skipG rfl rfl rfl rfl rfl rfl ?_
      refine g_skipG rfl rfl rfl rfl rfl rfl ?_
      refine g_skipG rfl rfl rfl rfl rfl rfl ?_
      refine g_skipG rfl rfl rfl rfl rfl rfl ?_
      refine g_skipG rfl rfl rfl rfl rfl rfl ?_
      refine g_val rfl rfl rfl (fun _ _ => v_pickF rfl rfl) ?_
      refine g_val rfl rfl rfl (fun _ _ => v_move rfl) ?_
      refine g_valG rfl rfl rfl rfl rfl (fun w _ => v_fieldAddr 1 (Try.runUnderlying51 w) rfl (Try.sizeOf3 w) rfl) ?_
      refine g_valG rfl rfl rfl rfl rfl (fun w hh => v_load (Try.isAgg3 w) rfl (hh.cell 0 rfl rfl)) ?_
      refine g_valG rfl rfl rfl rfl rfl (fun w hh => v_load (Try.isAgg3 w) rfl (hh.cell 1 rfl rfl)) ?_
      refine g_valG rfl rfl rfl rfl rfl (fun _ _ => v_eql rfl rfl) ?_
      refine g_valG rfl rfl rfl rfl rfl (fun _ _ => v_move rfl) ?_
      refine g_case 34 rfl (fun hB => ?_) (fun hB => ?_)
      · refine g_valG rfl rfl rfl rfl rfl (fun _ _ => v_move rfl) ?_
        refine g_valG rfl rfl rfl rfl rfl (fun _ _ => v_move rfl) ?_
        refine g_valG rfl rfl rfl rfl rfl (fun w _ => v_fieldAddr 0 (Try.runUnderlying51 w) rfl (Try.sizeOf3 w) rfl) ?_
        refine g_valG rfl rfl rfl rfl rfl (fun w hh => v_load (Try.isAgg3 w) rfl (hh.cell 0 rfl rfl)) ?_
        refine g_yieldG (ι := γ) (ret := fun _ => .bool true) (H' := fun g' w' => St (k + 1) g' ∧ HS w0 M ((b1, .cells #[.int .i64 (L.S.sills.getD k default).a, .int .i64 (L.S.sills.getD k default).b, .int .i64 (L.S.sills.getD k default).h] 51 (0, 0)) :: (b3, .cells #[.int .i64 p] 3 (0, 0)) :: (b2, .cells #[ptr bd 0] 139 (0, 0)) :: (Y g' ++ X0)) ro w') rfl rfl (fun a he => by rw [wanted_some he rfl rfl rfl]; rfl) rfl rfl rfl (fun w hh => ?_) ?_
        · have hh1 := hh.swap (A := [_, _, _]) (B := Y g) (C := X0)
          refine (hyB k g _ w (by omega) hI0.2 (of_decide_eq_true hB) hh1).mono ?_
          rintro en w' ⟨rfl, g', hs', hh'⟩
          exact ⟨g', rfl, hs', hh'.swap (A := Y g') (B := [_, _, _]) (C := X0)⟩
        intro g3
        refine g_pure (fun w hh => hh.1) (fun hsg3 => ?_)
        refine G.pre ?_ (fun w hh => hh.2)
        refine g_valG rfl rfl rfl rfl rfl (fun _ _ => v_not rfl) ?_
        refine g_valG rfl rfl rfl rfl rfl (fun _ _ => v_pickT rfl rfl) ?_
        refine g_val rfl rfl rfl (fun _ _ => v_pickF rfl rfl) ?_
        refine g_nil ?_
        refine g_n_then ?_
        refine g_condF rfl rfl ?_
        refine g_skip ?_
        refine g_n_blk ?_
        refine g_n_then ?_
        refine g_region ?_
        refine g_val rfl rfl rfl (fun _ _ => v_add rfl rfl (wrap_i64 (by omega))) ?_
        refine g_val rfl rfl rfl (fun _ _ => v_move rfl) ?_
        refine g_nil ?_
        refine g_n_then ?_
        exact g_againD (i := ⟨k, g⟩) (k + 1, g3) 1 ((.cons rfl (.cons rfl (.cons rfl (.cons rfl (.cons rfl .nil)))))) rfl (⟨by omega, hsg3⟩) (by simp only; omega)
      · refine g_skipG rfl rfl rfl rfl rfl rfl ?_
        refine g_skipG rfl rfl rfl rfl rfl rfl ?_
        refine g_skipG rfl rfl rfl rfl rfl rfl ?_
        refine g_skipG rfl rfl rfl rfl rfl rfl ?_
        refine g_skipG rfl rfl rfl rfl rfl rfl ?_
        refine g_skipG rfl rfl rfl rfl rfl rfl ?_
        refine g_valG rfl rfl rfl rfl rfl (fun _ _ => v_pickF rfl rfl) ?_
        refine g_val rfl rfl rfl (fun _ _ => v_pickF rfl rfl) ?_
        refine g_nil ?_
        refine g_n_then ?_
        refine g_condF rfl rfl ?_
        refine g_skip ?_
        refine g_n_blk ?_
        refine g_n_then ?_
        refine g_region ?_
        refine g_val rfl rfl rfl (fun _ _ => v_add rfl rfl (wrap_i64 (by omega))) ?_
        refine g_val rfl rfl rfl (fun _ _ => v_move rfl) ?_
        refine g_nil ?_
        refine g_n_then ?_
        exact g_againD (i := ⟨k, g⟩) (k + 1, g) 1 ((.cons rfl (.cons rfl (.cons rfl (.cons rfl (.cons rfl .nil)))))) rfl (⟨by omega, hskip k g (by omega) hI0.2 (of_decide_eq_false hA) (of_decide_eq_false hB)⟩) (by simp only; omega)
  · replace hc13_1 := of_decide_eq_false hc13_1
    refine g_exit ?_
    refine g_x_then ?_
    refine g_x_then ?_
    refine g_x_blk ?_
    have ek : k = L.S.sills.length := by omega
    subst ek
    refine g_doneN rfl (fun w hh => .nil) (fun w hh => ⟨_, rfl, g, hI0.2, hh⟩)

end Go.Proofs

namespace Go.Pl
theorem take_foldl {α β : Type} {d : α} {f : β → α → β} {l : List α} {n : β} {k : Nat} (h : k < l.length) : (l.take (k + 1)).foldl f n = f ((l.take k).foldl f n) (l.getD k d) := by
  rw [List.take_succ_eq_append_getElem h, List.foldl_append]
  simp [List.getD_eq_getElem?_getD, h]
def lowAt (s : Sands) (at_ h : Int) (g : List Int) (q : Int) : List Int :=
  if q = -1 then g else g.set q.toNat (min (g.getD q.toNat 0) (([h, s.floors.getD q.toNat 0] : List Int).foldl max at_))
def lowStep (s : Sands) (p at_ : Int) (g : List Int) (x : Sill) : List Int :=
  if x.a = p then lowAt s at_ x.h g x.b else if x.b = p then lowAt s at_ x.h g x.a else g
def lowN (s : Sands) (p at_ : Int) (g : List Int) (k : Nat) : List Int := (s.sills.take k).foldl (lowStep s p at_) g
def lowerF (s : Sands) (p at_ : Int) (g : List Int) : List Int := s.sills.foldl (lowStep s p at_) g
theorem lowN_succ {s : Sands} {p at_ : Int} {g : List Int} {k : Nat} (h : k < s.sills.length) : lowN s p at_ g (k + 1) = lowStep s p at_ (lowN s p at_ g k) (s.sills.getD k default) := take_foldl h
theorem lowN_all {s : Sands} {p at_ : Int} {g : List Int} : lowN s p at_ g s.sills.length = lowerF s p at_ g := by simp [lowN, lowerF]
theorem lowAt_length {s : Sands} {at_ h : Int} {g : List Int} {q : Int} : (lowAt s at_ h g q).length = g.length := by unfold lowAt; split <;> simp
theorem lowStep_length {s : Sands} {p at_ : Int} {g : List Int} {x : Sill} : (lowStep s p at_ g x).length = g.length := by
  unfold lowStep; split
  · exact lowAt_length
  · split
    · exact lowAt_length
    · rfl
theorem lowN_length {s : Sands} {p at_ : Int} {g : List Int} : ∀ {k : Nat}, (lowN s p at_ g k).length = g.length := by
  intro k
  unfold lowN
  generalize s.sills.take k = l
  induction l generalizing g with
  | nil => rfl
  | cons x l ih => simp only [List.foldl_cons]; rw [ih, lowStep_length]
/-- sands that pass -/
structure Good (s : Sands) : Prop where
  tl : 2 ≤ s.table.length ∧ s.table.length ≤ 12
  fl : 1 ≤ s.floors.length ∧ s.floors.length ≤ 8
  sl : s.sills.length ≤ 16
  tab : ∀ j, j < s.table.length → (0 ≤ (s.table.getD j default).min ∧ (s.table.getD j default).min ≤ 1440) ∧ 0 ≤ (s.table.getD j default).h ∧ (s.table.getD j default).h ≤ 999
  lo : -50 ≤ s.wind.lo ∧ s.wind.lo ≤ 50
  hi : -50 ≤ s.wind.hi ∧ s.wind.hi ≤ 50
  flo : ∀ j, j < s.floors.length → 0 ≤ s.floors.getD j 0 ∧ s.floors.getD j 0 ≤ 999
  sh : ∀ j, j < s.sills.length → 0 ≤ (s.sills.getD j default).h ∧ (s.sills.getD j default).h ≤ 999
  inc : ∀ i, i < s.table.length - 1 → (s.table.getD i default).min < (s.table.getD (i + 1) default).min
  wind : s.wind.lo ≤ s.wind.hi
  sa : ∀ j, j < s.sills.length → -1 ≤ (s.sills.getD j default).a ∧ (s.sills.getD j default).a < s.floors.length
  sb : ∀ j, j < s.sills.length → -1 ≤ (s.sills.getD j default).b ∧ (s.sills.getD j default).b < s.floors.length
  ne : ∀ j, j < s.sills.length → (s.sills.getD j default).a ≠ (s.sills.getD j default).b
theorem all_getD {α : Type} {p : α → Bool} {l : List α} {d : α} (h : l.all p = true) {j : Nat} (hj : j < l.length) : p (l.getD j d) = true := by
  rw [List.all_eq_true] at h
  have := h l[j] (List.getElem_mem hj)
  simpa [List.getD_eq_getElem?_getD, hj] using this
theorem all_of_getD {α : Type} {p : α → Bool} {l : List α} {d : α} (h : ∀ j, j < l.length → p (l.getD j d) = true) : l.all p = true := by
  rw [List.all_eq_true]
  intro x hx
  obtain ⟨j, hj, rfl⟩ := List.mem_iff_getElem.1 hx
  simpa [List.getD_eq_getElem?_getD, hj] using h j hj
theorem inr_iff {x lo hi : Int} : inr x lo hi = true ↔ lo ≤ x ∧ x ≤ hi := by simp [inr]
theorem hgt_iff {x : Int} : hgt x = true ↔ 0 ≤ x ∧ x ≤ 999 := by simp [hgt, inr]
theorem isEnd_iff {s : Sands} {p : Int} : isEnd s p = true ↔ (p = -1 ∨ 0 ≤ p ∧ p < s.floors.length) := by
  simp [isEnd, isPlace, inr]; omega
theorem good_of_check {s : Sands} (h : check s = 0) : Good s := by
  unfold check at h
  repeat' (split at h; (exact absurd h (by decide)))
  rename_i h1 h2 h3 h4 h5 h6 h7
  simp only [Bool.or_eq_true, not_or, Bool.not_eq_true', Bool.not_eq_false', Bool.not_eq_true, Bool.not_eq_false, decide_eq_true_eq, decide_eq_false_iff_not] at h1 h2 h3 h4 h5 h6 h7
  obtain ⟨⟨h1a, h1b⟩, h1c⟩ := h1
  obtain ⟨⟨h3a, h3b⟩, h3c⟩ := h3
  rw [inr_iff] at h1a h1b h3a h3b
  have ho : (∀ i, i < s.table.length - 1 → (s.table.getD i default).min < (s.table.getD (i + 1) default).min) ∧ s.wind.lo ≤ s.wind.hi := by
    simp only [ordered, Bool.and_eq_true, List.all_eq_true, List.mem_range, decide_eq_true_eq] at h5
    exact h5
  have e6 := fun j (hj : j < s.sills.length) => all_getD (d := default) h6 hj
  simp only [Bool.and_eq_true, isEnd_iff] at e6
  refine ⟨by omega, by omega, by omega, fun j hj => ?_, h3a, h3b, fun j hj => ?_, fun j hj => ?_, ho.1, ho.2, fun j hj => ?_, fun j hj => ?_, fun j hj => ?_⟩
  · have := all_getD (d := default) h2 hj
    simp only [bigW, Bool.and_eq_true, inr_iff] at this
    exact this
  · have := all_getD (d := (0 : Int)) h3c hj
    rwa [hgt_iff] at this
  · have := all_getD (d := default) h4 hj
    rwa [hgt_iff] at this
  · have := (e6 j hj).1; omega
  · have := (e6 j hj).2; omega
  · have := all_getD (d := default) h7 hj
    simpa using this
end Go.Pl

namespace Go.Proofs
open Go Go.Fw Go.Pl
def deskCells (L : LS) (g : List Int) : Array Value := (L.cells ++ ints g).toArray
def deskObj (L : LS) (g : List Int) : Obj := .cells (deskCells L g) 157 (0, 0)
theorem ints_length {l : List Int} : (ints l).length = l.length := by simp [ints]
theorem desk_gate {L : LS} {g : List Int} {j : Nat} (h : j < g.length) : (deskCells L g).toList[5 + j]? = some (.int .i64 (g.getD j 0)) := by
  have : L.cells.length = 5 := rfl
  simp only [deskCells]
  rw [List.getElem?_append_right (by omega), this, Nat.add_sub_cancel_left]
  exact ints_get h
theorem desk_set {L : LS} {g : List Int} {j : Nat} {v : Int} : (deskCells L g).setIfInBounds (5 + j) (.int .i64 v) = deskCells L (g.set j v) := by
  have h5 : L.cells.length = 5 := rfl
  simp only [deskCells]
  apply Array.toList_inj.1
  simp only [Array.toList_setIfInBounds, List.set_append, h5]
  rw [if_neg (by omega), Nat.add_sub_cancel_left]
  simp [ints, List.map_set]
theorem desk_size {L : LS} {g : List Int} : (deskCells L g).size = 5 + g.length := by
  simp [deskCells, ints, LS.cells]; omega
end Go.Proofs
namespace Go.Proofs
open Go Go.Fw Go.Pl
theorem desk_cell {L : LS} {g : List Int} {j : Nat} {v : Value} (h : L.cells[j]? = some v) : (deskCells L g).toList[j]? = some v := by
  simp only [deskCells]
  rw [List.getElem?_append_left (List.getElem?_eq_some_iff.1 h).1]
  exact h
end Go.Proofs

namespace Go.Pl
def roundN (s : Sands) (g : List Int) (k : Nat) : List Int := (List.range k).foldl (fun g p => lowerF s (p : Nat) (g.getD p 0) g) (lowerF s (-1) 0 g)
def roundF (s : Sands) (g : List Int) : List Int := roundN s g s.floors.length
def fixF (s : Sands) : Nat → List Int → List Int
  | 0, g => g
  | k + 1, g => if roundF s g = g then g else fixF s k (roundF s g)
def initG (k : Nat) : List Int := (List.range 8).map (fun j => if j < k then 1000 else 0)
def gatesOf (s : Sands) : List Int := fixF s 8001 (initG 8)
theorem initG_length {k : Nat} : (initG k).length = 8 := by simp [initG]
theorem initG_set {k : Nat} (h : k < 8) : (initG k).set k 1000 = initG (k + 1) := by
  have : ∀ k, k < 8 → (initG k).set k 1000 = initG (k + 1) := by decide
  exact this k h
theorem lowerF_length {s : Sands} {p at_ : Int} {g : List Int} : (lowerF s p at_ g).length = g.length := by rw [← lowN_all, lowN_length]
theorem roundN_length {s : Sands} {g : List Int} {k : Nat} : (roundN s g k).length = g.length := by
  unfold roundN
  induction k with
  | zero => simp [lowerF_length]
  | succ k ih => rw [List.range_succ, List.foldl_append]; simp only [List.foldl_cons, List.foldl_nil]; rw [lowerF_length, ih]
theorem roundN_succ {s : Sands} {g : List Int} {k : Nat} : roundN s g (k + 1) = lowerF s (k : Nat) ((roundN s g k).getD k 0) (roundN s g k) := by
  unfold roundN
  rw [List.range_succ, List.foldl_append]
  rfl
/-- numbers from 0 to 1000 -/
structure OKg (g : List Int) : Prop where
  len : g.length = 8
  lo : ∀ j, 0 ≤ g.getD j 0
  hi : ∀ j, g.getD j 0 ≤ 1000
structure Le (a b : List Int) : Prop where
  len : a.length = b.length
  le : ∀ j, a.getD j 0 ≤ b.getD j 0
theorem Le.refl (a : List Int) : Le a a := ⟨rfl, fun _ => Int.le_refl _⟩
theorem Le.trans {a b c : List Int} (h : Le a b) (k : Le b c) : Le a c := ⟨h.len.trans k.len, fun j => Int.le_trans (h.le j) (k.le j)⟩
theorem getD_set {g : List Int} {q : Nat} {v : Int} {j : Nat} : (g.set q v).getD j 0 = if q = j ∧ j < g.length then v else g.getD j 0 := by
  simp only [List.getD_eq_getElem?_getD, List.getElem?_set]
  by_cases h : q = j
  · subst h
    by_cases h2 : q < g.length
    · simp [h2]
    · simp [h2]
  · simp [h]
theorem foldmax2 {a b c : Int} : ([b, c] : List Int).foldl max a = max (max a b) c := rfl
theorem lowAt_le {s : Sands} {at_ h : Int} {g : List Int} {q : Int} : Le (lowAt s at_ h g q) g := by
  refine ⟨lowAt_length, fun j => ?_⟩
  unfold lowAt
  split
  · exact Int.le_refl _
  · rw [getD_set]
    split
    · rename_i hq
      rw [hq.1]; exact Int.min_le_left _ _
    · exact Int.le_refl _
theorem lowAt_ok {s : Sands} {at_ h : Int} {g : List Int} {q : Int} (hg : OKg g) (ha : 0 ≤ at_) : OKg (lowAt s at_ h g q) := by
  refine ⟨by rw [lowAt_length, hg.len], fun j => ?_, fun j => Int.le_trans (lowAt_le.le j) (hg.hi j)⟩
  unfold lowAt
  split
  · exact hg.lo j
  · rw [getD_set, foldmax2]
    split
    · have := hg.lo q.toNat
      omega
    · exact hg.lo j
theorem lowStep_le {s : Sands} {p at_ : Int} {g : List Int} {x : Sill} : Le (lowStep s p at_ g x) g := by
  unfold lowStep; split
  · exact lowAt_le
  · split
    · exact lowAt_le
    · exact Le.refl _
theorem lowStep_ok {s : Sands} {p at_ : Int} {g : List Int} {x : Sill} (hg : OKg g) (ha : 0 ≤ at_) : OKg (lowStep s p at_ g x) := by
  unfold lowStep; split
  · exact lowAt_ok hg ha
  · split
    · exact lowAt_ok hg ha
    · exact hg
theorem foldl_le {α : Type} {f : List Int → α → List Int} {I : List Int → Prop} (h1 : ∀ g x, I g → I (f g x)) (h2 : ∀ g x, I g → Le (f g x) g) : ∀ (l : List α) (g : List Int), I g → I (l.foldl f g) ∧ Le (l.foldl f g) g
  | [], g, h => ⟨h, Le.refl _⟩
  | x :: l, g, h => by
    have := foldl_le h1 h2 l (f g x) (h1 g x h)
    exact ⟨this.1, this.2.trans (h2 g x h)⟩
theorem lowerF_ok {s : Sands} {p at_ : Int} {g : List Int} (hg : OKg g) (ha : 0 ≤ at_) : OKg (lowerF s p at_ g) ∧ Le (lowerF s p at_ g) g :=
  foldl_le (I := OKg) (fun _ _ h => lowStep_ok h ha) (fun _ _ _ => lowStep_le) _ _ hg
theorem roundN_ok {s : Sands} {g : List Int} {k : Nat} (hg : OKg g) : OKg (roundN s g k) ∧ Le (roundN s g k) g := by
  have h1 := lowerF_ok (s := s) (p := -1) hg (Int.le_refl 0)
  have h2 := foldl_le (I := OKg) (f := fun g (p : Nat) => lowerF s (p : Nat) (g.getD p 0) g) (fun g x h => (lowerF_ok h (h.lo x)).1) (fun g x h => (lowerF_ok h (h.lo x)).2) (List.range k) _ h1.1
  exact ⟨h2.1, h2.2.trans h1.2⟩
def mu (g : List Int) : Nat := (g.map Int.toNat).sum
theorem mu_lt : ∀ {a b : List Int}, a.length = b.length → (∀ j, a.getD j 0 ≤ b.getD j 0) → (∀ j, 0 ≤ a.getD j 0) → mu a ≤ mu b ∧ (a ≠ b → mu a < mu b)
  | [], [], _, _, _ => ⟨Nat.le_refl _, fun h => absurd rfl h⟩
  | [], _ :: _, h, _, _ => by simp at h
  | _ :: _, [], h, _, _ => by simp at h
  | x :: a, y :: b, hl, h, h0 => by
    have ih := mu_lt (a := a) (b := b) (by simpa using hl) (fun j => by simpa using h (j + 1)) (fun j => by simpa using h0 (j + 1))
    have hx : x ≤ y := by simpa using h 0
    have h0x : 0 ≤ x := by simpa using h0 0
    simp only [mu, List.map_cons, List.sum_cons] at *
    refine ⟨by omega, fun hne => ?_⟩
    by_cases hxy : x = y
    · have : a ≠ b := fun he => hne (by rw [hxy, he])
      have := ih.2 this
      omega
    · omega
theorem mu_le_max {g : List Int} (hg : OKg g) : mu g ≤ 8000 := by
  have : ∀ (l : List Int), (∀ x ∈ l, x ≤ 1000) → mu l ≤ 1000 * l.length := by
    intro l
    induction l with
    | nil => simp [mu]
    | cons x l ih =>
      intro h
      have h1 := ih (fun y hy => h y (List.mem_cons_of_mem _ hy))
      have h2 := h x List.mem_cons_self
      simp only [mu, List.map_cons, List.sum_cons, List.length_cons] at *
      omega
  have h := this g (fun x hx => by
    obtain ⟨j, hj, rfl⟩ := List.mem_iff_getElem.1 hx
    have := hg.hi j
    simpa [List.getD_eq_getElem?_getD, hj] using this)
  rw [hg.len] at h
  omega
theorem mu_round {s : Sands} {g : List Int} (hg : OKg g) (hne : roundF s g ≠ g) : mu (roundF s g) < mu g := by
  have h := roundN_ok (s := s) (k := s.floors.length) hg
  exact (mu_lt h.2.len h.2.le h.1.lo).2 hne
theorem fixF_fuel {s : Sands} : ∀ (k k' : Nat) (g : List Int), OKg g → mu g < k → mu g < k' → fixF s k g = fixF s k' g
  | 0, _, _, _, h, _ => absurd h (by omega)
  | _, 0, _, _, _, h => absurd h (by omega)
  | k + 1, k' + 1, g, hg, h1, h2 => by
    unfold fixF
    split
    · rfl
    · rename_i hne
      have := mu_round hg hne
      exact fixF_fuel k k' _ (roundN_ok hg).1 (by omega) (by omega)
theorem fixF_step {s : Sands} {g : List Int} (hg : OKg g) (hne : roundF s g ≠ g) : fixF s 8001 (roundF s g) = fixF s 8001 g := by
  have h1 := mu_round hg hne
  have h2 := mu_le_max hg
  conv => rhs; unfold fixF
  rw [if_neg hne]
  exact fixF_fuel 8001 8000 _ (roundN_ok hg).1 (by omega) (by omega)
theorem fixF_stop {s : Sands} {g : List Int} (he : roundF s g = g) : fixF s 8001 g = g := by
  unfold fixF
  rw [if_pos he]
theorem initG_ok : OKg (initG 8) := by
  refine ⟨initG_length, fun j => ?_, fun j => ?_⟩
  · by_cases h : j < 8
    · have : ∀ j, j < 8 → 0 ≤ (initG 8).getD j 0 := by decide
      exact this j h
    · simp [initG, List.getD_eq_getElem?_getD, show 8 ≤ j by omega]
  · by_cases h : j < 8
    · have : ∀ j, j < 8 → (initG 8).getD j 0 ≤ 1000 := by decide
      exact this j h
    · simp [initG, List.getD_eq_getElem?_getD, show 8 ≤ j by omega]
theorem fixF_ok {s : Sands} : ∀ (k : Nat) (g : List Int), OKg g → OKg (fixF s k g)
  | 0, _, h => h
  | k + 1, g, h => by
    unfold fixF
    split
    · exact h
    · exact fixF_ok k _ (roundN_ok h).1
theorem gates_ok {s : Sands} : OKg (gatesOf s) := fixF_ok _ _ initG_ok
theorem gates_length {s : Sands} : (gatesOf s).length = 8 := gates_ok.len
end Go.Pl

namespace Go.Pl
def firstM (s : Sands) : Int := (s.table.getD 0 default).min
def lastM (s : Sands) : Int := (s.table.getD (s.table.length - 1) default).min
def dayF (s : Sands) (m : Int) : Bool := inr m (firstM s) (lastM s)
def slope (a b : Water) (m : Int) : Int :=
  a.h + (if (b.h - a.h) * (m - a.min) < 0 then (b.h - a.h) * (m - a.min) - (b.min - a.min - 1) else (b.h - a.h) * (m - a.min)).tdiv (b.min - a.min)
def heightAt (s : Sands) (m : Int) (j : Nat) : Int :=
  if (s.table.getD j default).min = m then (s.table.getD j default).h else slope (s.table.getD (j - 1) default) (s.table.getD j default) m
def heightF (s : Sands) (m : Int) : Int := heightAt s m (idxf (fun x => decide (m ≤ x.min)) s.table).toNat
def levelF (s : Sands) (m : Int) : Span := ⟨heightF s m + s.wind.lo, heightF s m + s.wind.hi⟩
def stateG (s : Sands) (gate m : Int) : Int := if gate = 1000 ∨ (levelF s m).hi ≤ gate then 0 else if gate < (levelF s m).lo then 2 else 1
def stateF (s : Sands) (m p : Int) : Int := stateG s ((gatesOf s).getD p.toNat 0) m
def HeightR (s : Sands) (m : Int) : Int × Int := if check s ≠ 0 then (0, check s) else if dayF s m = false then (0, 3) else (heightF s m, 0)
def gatedE (s : Sands) (p : Int) : Int := if check s ≠ 0 then check s else if isPlace s p = false then 1 else if (gatesOf s).getD p.toNat 0 = 1000 then 6 else 0
def GateR (s : Sands) (p : Int) : Int × Int := if gatedE s p ≠ 0 then (0, gatedE s p) else ((gatesOf s).getD p.toNat 0, 0)
def AtR (s : Sands) (m p : Int) : Int × Int := if check s ≠ 0 then (0, check s) else if dayF s m = false then (0, 3) else if isPlace s p = false then (0, 1) else (stateF s m p, 0)
def AllR (s : Sands) (m : Int) : List Int × Int := if check s ≠ 0 then ([], check s) else if dayF s m = false then ([], 3) else ((List.range s.floors.length).map (fun p => stateF s m (p : Nat)), 0)

theorem isPlace_iff {s : Sands} {p : Int} : isPlace s p = true ↔ 0 ≤ p ∧ p < s.floors.length := by
  simp [isPlace, inr]; omega
theorem min_mono {s : Sands} (hG : Good s) : ∀ {i j : Nat}, i < j → j < s.table.length → (s.table.getD i default).min < (s.table.getD j default).min := by
  intro i j hij hj
  induction j with
  | zero => omega
  | succ j ih =>
    have h1 := hG.inc j (by omega)
    rcases Nat.lt_succ_iff_lt_or_eq.1 hij with h | h
    · have := ih h (by omega); omega
    · subst h; exact h1
theorem day_idx {s : Sands} {m : Int} (hG : Good s) (hd : dayF s m = true) : ∃ j : Nat, idxf (fun x => decide (m ≤ x.min)) s.table = (j : Int) ∧ j < s.table.length ∧ m ≤ (s.table.getD j default).min ∧ (∀ i, i < j → (s.table.getD i default).min < m) ∧ (j = 0 → (s.table.getD j default).min = m) := by
  simp only [dayF, inr_iff] at hd
  have h2 := hG.tl
  cases hf : s.table.findIdx? (fun x => decide (m ≤ x.min)) with
  | none =>
    rw [List.findIdx?_eq_none_iff] at hf
    have hl : s.table.length - 1 < s.table.length := by omega
    have h3 := hf s.table[s.table.length - 1] (List.getElem_mem hl)
    have h4 : lastM s = s.table[s.table.length - 1].min := by simp [lastM, List.getD_eq_getElem?_getD, hl]
    simp at h3
    omega
  | some j =>
    rw [List.findIdx?_eq_some_iff_getElem] at hf
    obtain ⟨hj, hp, hmin⟩ := hf
    have e1 : s.table.getD j default = s.table[j] := by simp [List.getD_eq_getElem?_getD, hj]
    have hp' : m ≤ (s.table.getD j default).min := by rw [e1]; simpa using hp
    have hmin' : ∀ i, i < j → (s.table.getD i default).min < m := fun i hi => by
      have h5 := hmin i hi
      have hi2 : i < s.table.length := by omega
      have e2 : s.table.getD i default = s.table[i] := by simp [List.getD_eq_getElem?_getD, hi2]
      rw [e2]
      simpa using h5
    refine ⟨j, idxf_found (d := default) hj (fun i hi => ?_) ?_, hj, hp', hmin', fun h0 => ?_⟩
    · have := hmin' i hi; simp only [decide_eq_false_iff_not]; omega
    · simpa using hp'
    · rw [h0] at hp' ⊢
      have : firstM s = (s.table.getD 0 default).min := rfl
      omega
theorem mul_bd {x y a b : Int} (h1 : -a ≤ x ∧ x ≤ a) (h2 : 0 ≤ y ∧ y ≤ b) (ha : 0 ≤ a) : -(a * b) ≤ x * y ∧ x * y ≤ a * b := by
  have h3 : x * y ≤ a * y := Int.mul_le_mul_of_nonneg_right h1.2 h2.1
  have h4 : a * y ≤ a * b := Int.mul_le_mul_of_nonneg_left h2.2 ha
  have h5 : -a * y ≤ x * y := Int.mul_le_mul_of_nonneg_right h1.1 h2.1
  have h6 : -a * y = -(a * y) := Int.neg_mul a y
  omega
theorem tdiv_bd {x d n : Int} (h : -n ≤ x ∧ x ≤ n) : -n ≤ x.tdiv d ∧ x.tdiv d ≤ n := by
  have h1 : (x.tdiv d).natAbs ≤ x.natAbs := by rw [Int.natAbs_tdiv]; exact Nat.div_le_self _ _
  omega
/-- all that the height's arithmetic stays within -/
theorem slope_bd {s : Sands} {m : Int} (hG : Good s) {j : Nat} (hj : j < s.table.length) (hm : m ≤ (s.table.getD j default).min) (hl : ∀ i, i < j → (s.table.getD i default).min < m) (hj0 : j ≠ 0) :
    -1438560 ≤ ((s.table.getD j default).h - (s.table.getD (j - 1) default).h) * (m - (s.table.getD (j - 1) default).min) ∧ ((s.table.getD j default).h - (s.table.getD (j - 1) default).h) * (m - (s.table.getD (j - 1) default).min) ≤ 1438560 := by
  have h1 := hG.tab j hj
  have h2 := hG.tab (j - 1) (by omega)
  have h3 := hl (j - 1) (by omega)
  have := mul_bd (x := (s.table.getD j default).h - (s.table.getD (j - 1) default).h) (y := m - (s.table.getD (j - 1) default).min) (a := 999) (b := 1440) (by omega) (by omega) (by omega)
  omega
theorem height_bd {s : Sands} {m : Int} (hG : Good s) (hd : dayF s m = true) : -1500000 ≤ heightF s m ∧ heightF s m ≤ 1500000 := by
  obtain ⟨j, ej, hj, hm, hl, hj0⟩ := day_idx hG hd
  have h1 := hG.tab j hj
  have h2 := hG.tab (j - 1) (by omega)
  simp only [heightF, ej, heightAt, Int.toNat_natCast]
  split
  · omega
  · rename_i hne
    have hb := slope_bd hG hj hm hl (fun h => hne (hj0 h))
    unfold slope
    generalize ((s.table.getD j default).h - (s.table.getD (j - 1) default).h) * (m - (s.table.getD (j - 1) default).min) = q at *
    have h3 := tdiv_bd (x := if q < 0 then q - ((s.table.getD j default).min - (s.table.getD (j - 1) default).min - 1) else q) (d := (s.table.getD j default).min - (s.table.getD (j - 1) default).min) (n := 1440001) (by split <;> omega)
    omega
end Go.Pl

namespace Go.Proofs
open Go Go.Fw Go.Pl
theorem desk_lt {L : LS} {g : List Int} {j : Nat} (h : j < g.length) : Nat.blt (5 + j) (deskCells L g).size = true := by
  rw [desk_size]; simp; omega
theorem desk_gates {L : LS} {g : List Int} : ((deskCells L g).toList.drop 5).take (ints g).length = ints g := by
  simp only [deskCells, LS.cells, List.cons_append, List.nil_append, List.drop_succ_cons, List.drop_zero, List.take_length]
theorem ints_size {l : List Int} : (ints l).toArray.size = l.length := by simp [ints]
theorem sz_ints {g : List Int} {n : Nat} {P : Program} {t : TypeId} {w : World} (h : g.length = n) (hz : (sizeOf t).run P w = .ok n w) : (sizeOf t).run P w = .ok (ints g).length w := by rw [ints_length, h]; exact hz
theorem sz_intsA {g : List Int} {n : Nat} {P : Program} {t : TypeId} {w : World} (h : g.length = n) (hz : (sizeOf t).run P w = .ok n w) : (sizeOf t).run P w = .ok (ints g).toArray.size w := by rw [ints_size, h]; exact hz
theorem ones_ints {l : List Int} : ones (ints l) = true := by
  induction l with
  | nil => rfl
  | cons x l ih => simp only [ints, List.map_cons, ones]; exact ih
theorem neP {x : Int} (h : x ≠ 0) : (!decide (x = 0)) = true := by simp [h]
end Go.Proofs
namespace Go.Fw
theorem HS.sepAt {w0 w : Go.World} {M : List Nat} {own : List (Nat × Go.Obj)} {ro : List Sg} (h : HS w0 M own ro w) (i : Nat) {b : Nat} {o : Go.Obj} (hi : own[i]? = some (b, o)) {s : Sg} (hs : s ∈ ro) (hn : s.2.2 ≠ []) : s.1 ≠ b :=
  fun he => h.sep s hs hn (he ▸ List.mem_map.2 ⟨_, List.mem_of_getElem? hi, rfl⟩)
theorem Fresh.of {w0 w : Go.World} {own L : List (Nat × Go.Obj)} {ro : List Sg} (h : HS w0 [] own ro w) (idx : List Nat) (hn : idx.Nodup) (hi : idx.map (fun i => own[i]?) = L.map some) : Fresh w0 w L := (h.pick idx hn hi).toFresh
end Go.Fw
namespace Go.Proofs
open Go Go.Fw Go.Pl
theorem ints_all {g : List Int} : ((ints g).toArray.toList.drop 0).take (ints g).length = ints g := by
  simp only [List.drop_zero, List.take_length]
end Go.Proofs
namespace Go.Fw
theorem HS.rgate {w0 w : Go.World} {M : List Nat} {own : List (Nat × Go.Obj)} {ro : List Sg} (h : HS w0 M own ro w) (i : Nat) {b j : Nat} {L : Go.Proofs.LS} {g : List Int} (hi : ro[i]? = some (b, 0, L.cells ++ ints g)) (hj : j < g.length) : w.cell? ⟨b, 5 + j, none⟩ = some (.int .i64 (g.getD j 0)) := by
  have h5 : L.cells.length = 5 := rfl
  have := h.rcell i (5 + j) hi (v := .int .i64 (g.getD j 0)) (by rw [List.getElem?_append_right (by omega), h5, Nat.add_sub_cancel_left]; exact ints_get hj)
  rwa [Nat.zero_add] at this
end Go.Fw

namespace Go.Proofs
open Go Go.Fw Go.Pl
set_option maxRecDepth 100000 in
theorem c_lower (L : LS) (bd : Nat) (g0 : List Int) (p at_ : Int) (w : World) (hL : L.OK w) (hG : Good L.S) (hg : g0.length = 8) (hb : w.heap[bd]? = some (deskObj L g0)) (hsep : ∀ s, s ∈ L.segs → s.2.2 ≠ [] → s.1 ≠ bd) : Calls Try.prog 154 #[ptr bd 0, .int .i64 p, .int .i64 at_] w (fun en w' => ∃ v, en = .returned v ∧ Ext [bd] w w' ∧ w'.heap[bd]? = some (deskObj L (lowerF L.S p at_ g0))) := by
  have hlt := hL.tl
  have hlf := hL.fl
  have hls := hL.sl
  have hfl8 := hG.fl
  refine g_enterM (args := [ptr bd 0, .int .i64 p, .int .i64 at_]) Try.func154 rfl Try.ntmps154 rfl (e := [(0, _), (1, _), (2, _)]) rfl (HS.start1 w bd (deskObj L g0) L.segs hb (fun s hs => ⟨hL.segs s hs, hsep s hs⟩)) ?_
  refine g_seq ?_
  refine g_region ?_
  refine g_box rfl rfl (fun b1 hb1 => ?_)
  refine g_box rfl rfl (fun b2 hb2 => ?_)
  refine g_nil ?_
  refine g_n_then ?_
  refine g_seq ?_
  refine g_region ?_
  refine g_val rfl rfl rfl (fun w hh => v_load (Try.isAgg139 w) rfl (hh.cell 1 rfl rfl)) ?_
  refine g_val rfl rfl rfl (fun _ _ => v_move rfl) ?_
  refine g_callF (ι := Nat × Nat) (L := fun i => [(i.2, .cells #[.int .i64 p] 3 (0, 0)), (i.1, .cells #[ptr bd 0] 139 (0, 0))]) (ret := fun i => .func (.func 166) #[] #[ptr i.1 0, ptr i.2 0]) rfl rfl rfl rfl rfl rfl rfl (fun a w => Try.call160 a w) (fun w hh => (c_from _ _ w).mono (by rintro en w' ⟨f2, f3, rfl, hF⟩; exact ⟨(f2, f3), rfl, hF⟩)) ?_
  rintro ⟨f2, f3⟩
  refine g_nil ?_
  refine g_n_then ?_
  refine g_block ?_
  refine g_sub (e' := [(3, _), (5, _), (10, _)]) (.cons rfl (.cons rfl (.cons rfl .nil))) ?_
  refine g_rangeFunc2 (ι := List Int) (own' := fun g => [(f3, .cells #[.int .i64 p] 3 (0, 0)), (f2, .cells #[ptr bd 0] 139 (0, 0)), (b2, .cells #[.int .i64 at_] 3 (0, 0)), (b1, .cells #[ptr bd 0] 139 (0, 0)), (bd, deskObj L g)]) (p := fun g => g = lowerF L.S p at_ g0) rfl (fun a w => Try.call166 a w) rfl (fun D l rec hD hround w1 hh1 => ?_) (fun g D hp hD => ?_)
  · have hh2 := hh1.swap (A := [_, _]) (B := [_, _]) (C := [_, _, _])
    have hy : ∀ (k : Nat) (q : Int) (g : List Int) (X : List (Nat × Obj)) (w2 : World), k < L.S.sills.length → g.length = 8 → -1 ≤ q → q < L.S.floors.length → HS w [bd] ([(l, rec .ready), (D, .deferred (some [])), (b2, .cells #[.int .i64 at_] 3 (0, 0)), (b1, .cells #[ptr bd 0] 139 (0, 0)), (bd, deskObj L g)] ++ X) L.segs w2 → YieldOK Try.prog l [.int .i64 (k : Nat), .int .i64 q] w2 (fun en w' => en = .returned (.bool true) ∧ ∃ g', g' = lowAt L.S at_ (L.S.sills.getD k default).h g q ∧ HS w [bd] ([(l, rec .ready), (D, .deferred (some [])), (b2, .cells #[.int .i64 at_] 3 (0, 0)), (b1, .cells #[ptr bd 0] 139 (0, 0)), (bd, deskObj L g')] ++ X) L.segs w') := by
      intro k q g X w2 hk hg8 hq0 hq1 hh3
      refine hround (e1 := [(7, .int .i64 q), (6, .int .i64 (k : Nat)), (12, .int .i64 q), (11, .int .i64 (k : Nat)), (3, ptr b1 0), (5, ptr b2 0), (10, .func (.func 166) #[] #[ptr f2 0, ptr f3 0])]) 0 hh3 rfl rfl rfl rfl (fun X1 hX => ?_) ?_
      · refine g_seq ?_
        refine g_region ?_
        refine g_val rfl rfl rfl (fun _ _ => v_assign rfl) ?_
        refine g_nil ?_
        refine g_n_then ?_
        refine g_region ?_
        refine g_val rfl rfl rfl (fun _ _ => v_assign rfl) ?_
        refine g_nil ?_
        exact hX
      · refine g_block ?_
        refine g_seq ?_
        refine g_region ?_
        refine g_val rfl rfl rfl (fun _ _ => v_move rfl) ?_
        refine g_val rfl rfl rfl (fun _ _ => v_neq rfl rfl) ?_
        refine g_nil ?_
        refine g_n_then ?_
        refine g_cond rfl (fun hc14_1 => ?_) (fun hc14_1 => ?_)
        · replace hc14_1 := of_ndec_true hc14_1
          refine g_draw (some 32) (.hoist 0 (.free 1 (.hoist 2 (.free 3 (.free 4 (.free 5 (.hoist 6 (.hoist 7 (.hoist 8 (.hoist 9 (.free 10 (.free 11 (.free 12 (.hoist 13 (.free 14 (.hoist 15 (.free 16 (.hoist 17 (.hoist 18 (.free 19 (.free 20 (.free 21 (.hoist 22 (.free 23 (.hoist 24 (.hoist 25 (.free 29 (.free 30 (.one 26 (.one 27 (.free 28 (.hoist 31 (.last 32 .done))))))))))))))))))))))))))))))))) _ rfl (by decide +kernel) (fun w k hh => hh.draw k) (fun w hh => hh) ?_
          refine p_hoist rfl rfl rfl rfl (fun w hh => v_load (Try.isAgg139 w) rfl (hh.cell 3 rfl rfl)) ?_
          refine p_free rfl rfl rfl rfl (fun _ _ => v_move rfl) ?_
          refine p_hoist rfl rfl rfl rfl (fun w hh => v_load (Try.isAgg139 w) rfl (hh.cell 3 rfl rfl)) ?_
          refine p_free rfl rfl rfl rfl (fun _ _ => v_move rfl) ?_
          refine p_free rfl rfl rfl rfl (fun _ _ => v_nilCheck rfl) ?_
          refine p_free rfl rfl rfl rfl (fun w _ => v_fieldAddr 5 (Try.runUnderlying157 w) rfl (Try.sizeOf155 w) rfl) ?_
          refine p_hoist rfl rfl rfl rfl (fun w _ => v_arrI1 (Try.runUnderlying155 w) (Try.sizeOf3 w) rfl rfl (by omega) (by omega)) ?_
          refine p_hoist rfl rfl rfl rfl (fun w hh => v_load (Try.isAgg3 w) rfl (hh.cell 4 rfl (desk_gate (by omega)))) ?_
          refine p_hoist rfl rfl rfl rfl (fun w hh => v_load (Try.isAgg3 w) rfl (hh.cell 2 rfl rfl)) ?_
          refine p_hoist rfl rfl rfl rfl (fun w hh => v_load (Try.isAgg139 w) rfl (hh.cell 3 rfl rfl)) ?_
          refine p_free rfl rfl rfl rfl (fun _ _ => v_nilCheck rfl) ?_
          refine p_free rfl rfl rfl rfl (fun w _ => v_fieldAddr 0 (Try.runUnderlying157 w) rfl (Try.sizeOf29 w) rfl) ?_
          refine p_free rfl rfl rfl rfl (fun w _ => v_fieldAddr 4 (Try.runUnderlying29 w) rfl (Try.sizeOf27 w) rfl) ?_
          refine p_hoist rfl rfl rfl rfl (fun w hh => v_load (Try.isAgg27 w) rfl (hh.cell 4 rfl (desk_cell rfl))) ?_
          refine p_free rfl rfl rfl rfl (fun _ _ => v_move rfl) ?_
          refine p_hoist rfl rfl rfl rfl (fun w _ => v_indexAddr k (Try.runUnderlying27 w) (Try.sizeOf51 w) rfl rfl rfl (by omega) (hL.s0 (by omega))) ?_
          refine p_free rfl rfl rfl rfl (fun w _ => v_fieldAddr 2 (Try.runUnderlying51 w) rfl (Try.sizeOf3 w) rfl) ?_
          refine p_hoist rfl rfl rfl rfl (fun w hh => v_load (Try.isAgg3 w) rfl (hh.fld (j := k) encS_len 2 2 rfl (by omega) rfl rfl)) ?_
          refine p_hoist rfl rfl rfl rfl (fun w hh => v_load (Try.isAgg139 w) rfl (hh.cell 3 rfl rfl)) ?_
          refine p_free rfl rfl rfl rfl (fun _ _ => v_nilCheck rfl) ?_
          refine p_free rfl rfl rfl rfl (fun w _ => v_fieldAddr 0 (Try.runUnderlying157 w) rfl (Try.sizeOf29 w) rfl) ?_
          refine p_free rfl rfl rfl rfl (fun w _ => v_fieldAddr 3 (Try.runUnderlying29 w) rfl (Try.sizeOf26 w) rfl) ?_
          refine p_hoist rfl rfl rfl rfl (fun w hh => v_load (Try.isAgg26 w) rfl (hh.cell 4 rfl (desk_cell rfl))) ?_
          refine p_free rfl rfl rfl rfl (fun _ _ => v_move rfl) ?_
          refine p_hoist rfl rfl rfl rfl (fun w _ => v_idxI1 (Try.runUnderlying26 w) (Try.sizeOf3 w) rfl rfl (by omega) (by omega) (hL.f0 (by omega))) ?_
          refine p_hoist rfl rfl rfl rfl (fun w hh => v_load (Try.isAgg3 w) rfl (hh.int 1 rfl (by omega))) ?_
          refine p_free rfl rfl rfl rfl (fun _ _ => v_nilCheck rfl) ?_
          refine p_free rfl rfl rfl rfl (fun w _ => v_fieldAddr 5 (Try.runUnderlying157 w) rfl (Try.sizeOf155 w) rfl) ?_
          refine p_one rfl ?_
          refine g_buildSlice (vs := [(0, _), (1, _)]) (cells := [_, _]) (fun w => Try.runUnderlying26 w) (fun w => Try.sizeOf3 w) (fun w => Try.zeroValue3 w) rfl rfl rfl rfl rfl (fun b3 hb3 => ?_)
          refine p_next (fun w hh => hh.dropN 1 rfl) ?_
          refine p_one rfl ?_
          refine g_callv rfl rfl rfl rfl rfl rfl rfl (fun a w => Try.call134 a w) (fun w hh => c_highest _ [_, _] (some (_, 0)) 2 w (by simp) (by simp) (hh.ownSeg 0 rfl)) ?_
          refine p_next (fun w hh => hh.dropN 1 rfl) ?_
          refine p_free rfl rfl rfl rfl (fun _ _ => v_min rfl rfl) ?_
          refine p_hoist rfl rfl rfl rfl (fun w _ => v_arrI1 (Try.runUnderlying155 w) (Try.sizeOf3 w) rfl rfl (by omega) (by omega)) ?_
          refine p_last rfl ?_
          refine g_storeAt (own' := (_ :: _ :: _ :: _ :: _ :: _ :: _)) 5 (fun w => Try.sizeOf3 w) rfl rfl rfl rfl (desk_lt (by omega)) desk_set rfl ?_
          refine p_nextL ?_
          refine p_done ?_
          refine g_n_blk ?_
          refine g_roundQ (i := 0) (k := 1) rfl rfl rfl (fun w2 h2 => ⟨rfl, _, ?_, h2⟩)
          simp [lowAt, *]
        · replace hc14_1 := of_ndec_false hc14_1
          refine g_skip ?_
          refine g_n_blk ?_
          refine g_roundQ (i := 0) (k := 0) rfl rfl rfl (fun w2 h2 => ⟨rfl, _, ?_, h2⟩)
          simp [lowAt, *]
    refine (c_from1 w [bd] L.segs (fun g => [(l, rec .ready), (D, .deferred (some [])), (b2, .cells #[.int .i64 at_] 3 (0, 0)), (b1, .cells #[ptr bd 0] 139 (0, 0)), (bd, deskObj L g)]) (fun k g => g = lowN L.S p at_ g0 k) l bd f2 f3 p L hL 2 rfl hG.ne ?_ ?_ ?_ ?_ g0 rfl w1 [] hh2).mono ?_
    · intro g X w2 hg2 hh3
      exact hh3.cell 4 rfl (desk_cell rfl)
    · rintro j g hj rfl ha hb2
      show _ = lowN _ _ _ _ (j + 1)
      rw [lowN_succ hj, lowStep, if_neg ha, if_neg hb2]
    · rintro j g X w2 hj rfl ha hh3
      refine (hy j _ _ X w2 hj (by rw [lowN_length]; exact hg) (hG.sb j hj).1 (hG.sb j hj).2 hh3).mono ?_
      rintro en w' ⟨rfl, g', rfl, h'⟩
      exact ⟨rfl, _, by rw [lowN_succ hj, lowStep, if_pos ha], h'⟩
    · rintro j g X w2 hj rfl hb2 hh3
      have ha := fun h => hG.ne j hj (Eq.trans h hb2.symm)
      refine (hy j _ _ X w2 hj (by rw [lowN_length]; exact hg) (hG.sa j hj).1 (hG.sa j hj).2 hh3).mono ?_
      rintro en w' ⟨rfl, g', rfl, h'⟩
      exact ⟨rfl, _, by rw [lowN_succ hj, lowStep, if_neg ha, if_pos hb2], h'⟩
    · rintro en w' ⟨v, rfl, g, rfl, h'⟩
      exact ⟨v, rfl, _, lowN_all, h'.swap (A := [_, _]) (B := [_, _]) (C := [_, _, _])⟩
  · subst hp
    refine g_n_blk ?_
    refine g_doneMN (Ds := [D]) rfl .nil (fun w hh => ?_)
    exact ⟨_, rfl, hh.toExt, hh.get 4 rfl⟩

end Go.Proofs

namespace Go.Proofs
open Go Go.Fw Go.Pl
set_option maxRecDepth 100000 in
theorem eqg155 : Try.prog.eqGuardType Try.prog.depth 155 = false := by decide +kernel
set_option maxRecDepth 100000 in
theorem c_opened (L : LS) (w : World) (hL : L.OK w) (hG : Good L.S) (hc : check L.S = 0) : Calls Try.prog 102 #[L.val] w (fun en w' => ∃ bd : Nat, en = .returned (.tuple #[ptr bd 0, .int .i64 0]) ∧ Fresh w w' [(bd, deskObj L (gatesOf L.S))]) := by
  have hlt := hL.tl
  have hlf := hL.fl
  have hls := hL.sl
  have hfl8 := hG.fl
  refine g_enter (args := [L.val]) Try.func102 rfl Try.ntmps102 rfl (e := [(0, _)]) rfl (HS.start w [] L.segs hL.segs) ?_
  refine g_seq ?_
  refine g_region ?_
  refine g_box rfl rfl (fun b1 hb1 => ?_)
  refine g_val rfl rfl rfl (fun _ _ => v_assign rfl) ?_
  refine g_val rfl rfl rfl (fun _ _ => v_assign rfl) ?_
  refine g_nil ?_
  refine g_n_then ?_
  refine g_seq ?_
  refine g_seq ?_
  refine g_region ?_
  refine g_val rfl rfl rfl (fun w hh => v_loadAgg (vs := [_, _, _, _, _]) (Try.isAgg29 w) (Try.sizeOf29 w) rfl (hh.cells 0 rfl rfl)) ?_
  refine g_callv rfl rfl rfl rfl rfl rfl rfl (fun a w => Try.call24 a w) (fun w hh => c_Check L w (hL.ext hh.toExt)) ?_
  refine g_val rfl rfl rfl (fun _ _ => v_assign rfl) ?_
  refine g_nil ?_
  refine g_n_then ?_
  refine g_seq ?_
  refine g_region ?_
  refine g_val rfl rfl rfl (fun _ _ => v_move rfl) ?_
  refine g_val rfl rfl rfl (fun _ _ => v_neq rfl rfl) ?_
  refine g_nil ?_
  refine g_n_then ?_
  refine g_condF rfl (by simp [hc]) ?_
  refine g_skip ?_
  refine g_n_then ?_
  refine g_seq ?_
  refine g_region ?_
  refine g_val rfl rfl rfl (fun w hh => v_loadAgg (vs := [_, _, _, _, _]) (Try.isAgg29 w) (Try.sizeOf29 w) rfl (hh.cells 0 rfl rfl)) ?_
  refine g_val rfl rfl rfl (fun _ _ => v_build (vs := [(0, _)]) (cells := [_, _, _, _, _, _, _, _, _, _, _, _, _]) rfl rfl) ?_
  refine g_box rfl rfl (fun bd hbd => ?_)
  refine g_val rfl rfl rfl (fun _ _ => v_assign rfl) ?_
  refine g_nil ?_
  refine g_n_then ?_
  refine g_seq ?_
  refine g_seq ?_
  refine g_region ?_
  refine g_val rfl rfl rfl (fun _ _ => v_move rfl) ?_
  refine g_nil ?_
  refine g_n_then ?_
  refine g_block ?_
  refine g_sub (e' := [(17, _), (1, _), (5, _)]) ((.cons rfl (.cons rfl (.cons rfl .nil)))) ?_
  refine g_loopM (ι := Nat) (fun k => [(17, .int .i64 (k : Nat))]) (fun k => [(bd, deskObj L (initG k))]) (fun k => k ≤ 8) (fun k => 8 - k) 0 (by omega) ?_
  intro k hI0
  have hgl := initG_length (k := k)
  refine g_seq ?_
  refine g_region ?_
  refine g_val rfl rfl rfl (fun _ _ => v_lss rfl rfl) ?_
  refine g_nil ?_
  refine g_n_then ?_
  refine g_seq ?_
  refine g_cond rfl (fun h18 => ?_) (fun h18 => ?_)
  · replace h18 := of_decide_eq_true h18
    refine g_skip ?_
    refine g_n_then ?_
    refine g_seq ?_
    refine g_block ?_
    refine g_seq ?_
    refine g_region ?_
    refine g_val rfl rfl rfl (fun _ _ => v_move rfl) ?_
    refine g_val rfl rfl rfl (fun _ _ => v_assign rfl) ?_
    refine g_nil ?_
    refine g_n_then ?_
    refine g_region ?_
    refine g_val rfl rfl rfl (fun _ _ => v_move rfl) ?_
    refine g_val rfl rfl rfl (fun _ _ => v_move rfl) ?_
    refine g_val rfl rfl rfl (fun _ _ => v_nilCheck rfl) ?_
    refine g_val rfl rfl rfl (fun w _ => v_fieldAddr 5 (Try.runUnderlying157 w) rfl (Try.sizeOf155 w) rfl) ?_
    refine g_val rfl rfl rfl (fun w _ => v_indexArr1 k (Try.runUnderlying155 w) (Try.sizeOf3 w) rfl rfl rfl (by omega)) ?_
    refine g_storeAt (own' := (_ :: _)) 0 (fun w => Try.sizeOf3 w) rfl rfl rfl rfl (desk_lt (by omega)) desk_set rfl ?_
    refine g_nil ?_
    refine g_n_blk ?_
    refine g_n_then ?_
    refine g_region ?_
    refine g_val rfl rfl rfl (fun _ _ => v_add rfl rfl (wrap_i64 (by omega))) ?_
    refine g_val rfl rfl rfl (fun _ _ => v_move rfl) ?_
    refine g_nil ?_
    refine g_n_then ?_
    rw [initG_set (by omega)]
    exact g_againM (i := k) (k + 1) [0, 1] ((.cons rfl (.cons rfl (.cons rfl .nil)))) (by decide) rfl (by omega) (by omega)
  · replace h18 := of_decide_eq_false h18
    have ek : k = 8 := by omega
    subst ek
    refine g_exit ?_
    refine g_x_then ?_
    refine g_x_then ?_
    refine g_x_blk ?_
    refine g_n_then ?_
    refine g_block ?_
    refine g_sub (e' := [(1, _), (5, _)]) ((.cons rfl (.cons rfl .nil))) ?_
    refine g_loopM (ι := List Int) (fun g => []) (fun g => [(bd, deskObj L g)]) (fun g => OKg g ∧ fixF L.S 8001 g = gatesOf L.S) (fun g => mu g) (initG 8) (⟨initG_ok, rfl⟩) ?_
    intro g hI2
    refine g_block ?_
    refine g_seq ?_
    refine g_region ?_
    refine g_val rfl rfl rfl (fun _ _ => v_move rfl) ?_
    refine g_val rfl rfl rfl (fun _ _ => v_nilCheck rfl) ?_
    refine g_val rfl rfl rfl (fun w _ => v_fieldAddr 5 (Try.runUnderlying157 w) rfl (Try.sizeOf155 w) rfl) ?_
    refine g_val rfl rfl rfl (fun w hh => v_loadAgg (vs := ints g) (Try.isAgg155 w) (sz_ints hI2.1.len (Try.sizeOf155 w)) rfl (hh.cells 0 rfl desk_gates)) ?_
    refine g_alloc (fun w => Try.zeroValue155 w) rfl (fun b2 hb2 => ?_)
    refine g_storeAgg (vs := (ints g).toArray) (own' := (_ :: _)) 0 (fun w => sz_intsA hI2.1.len (Try.sizeOf155 w)) rfl rfl ones_ints rfl (by rw [ints_size, hI2.1.len]; rfl) rfl ?_
    refine g_nil ?_
    refine g_n_then ?_
    refine g_seq ?_
    refine g_region ?_
    refine g_val rfl rfl rfl (fun _ _ => v_move rfl) ?_
    refine g_callU (ι := Value) (p := fun _ => True) (ob' := fun _ => deskObj L (lowerF L.S (-1) 0 g)) (ret := fun v => v) (own' := fun _ => [_, _, _]) 1 rfl rfl rfl rfl rfl rfl rfl (fun a w => Try.call154 a w) rfl (fun _ => rfl) (fun w hh => (c_lower L bd g (-1) 0 w (hL.ext hh.toExt) hG (hI2.1.len) (hh.get 1 rfl) (fun s hs hn => hh.sepAt 1 rfl hs hn)).mono (by rintro en w' ⟨v, rfl, hx, hb⟩; exact ⟨v, rfl, trivial, hx, hb⟩)) (fun v _ => ?_)
    refine g_nil ?_
    refine g_n_then ?_
    refine g_seq ?_
    refine g_seq ?_
    refine g_region ?_
    refine g_val rfl rfl rfl (fun w _ => v_fieldAddr 3 (Try.runUnderlying29 w) rfl (Try.sizeOf26 w) rfl) ?_
    refine g_val rfl rfl rfl (fun w hh => v_load (Try.isAgg26 w) rfl (hh.cell 2 rfl rfl)) ?_
    refine g_val rfl rfl rfl (fun w _ => v_lenS (Try.runUnderlying26 w) rfl) ?_
    refine g_val rfl rfl rfl (fun _ _ => v_move rfl) ?_
    refine g_nil ?_
    refine g_n_then ?_
    refine g_block ?_
    refine g_sub (e' := [(35, _), (1, _), (5, _), (7, _), (34, _)]) ((.cons rfl (.cons rfl (.cons rfl (.cons rfl (.cons rfl .nil)))))) ?_
    refine g_pick (own' := [_, _, _]) [1, 0, 2] (by decide) rfl ?_
    refine g_loopM (ι := Nat) (fun k => [(35, .int .i64 (k : Nat))]) (fun k => [(bd, deskObj L (roundN L.S g k))]) (fun k => k ≤ L.S.floors.length) (fun k => L.S.floors.length - k) 0 (Nat.zero_le _) ?_
    intro k hI4
    have hgl := (roundN_length (s := L.S) (g := g) (k := k)).trans hI2.1.len
    refine g_seq ?_
    refine g_region ?_
    refine g_val rfl rfl rfl (fun _ _ => v_lss rfl rfl) ?_
    refine g_nil ?_
    refine g_n_then ?_
    refine g_seq ?_
    refine g_cond rfl (fun h36 => ?_) (fun h36 => ?_)
    · replace h36 := of_decide_eq_true h36
      refine g_skip ?_
      refine g_n_then ?_
      refine g_seq ?_
      refine g_block ?_
      refine g_seq ?_
      refine g_region ?_
      refine g_val rfl rfl rfl (fun _ _ => v_move rfl) ?_
      refine g_val rfl rfl rfl (fun _ _ => v_assign rfl) ?_
      refine g_nil ?_
      refine g_n_then ?_
      refine g_region ?_
      refine g_val rfl rfl rfl (fun _ _ => v_move rfl) ?_
      refine g_val rfl rfl rfl (fun _ _ => v_move rfl) ?_
      refine g_val rfl rfl rfl (fun _ _ => v_move rfl) ?_
      refine g_val rfl rfl rfl (fun _ _ => v_move rfl) ?_
      refine g_val rfl rfl rfl (fun _ _ => v_nilCheck rfl) ?_
      refine g_val rfl rfl rfl (fun w _ => v_fieldAddr 5 (Try.runUnderlying157 w) rfl (Try.sizeOf155 w) rfl) ?_
      refine g_val rfl rfl rfl (fun w _ => v_indexArr1 k (Try.runUnderlying155 w) (Try.sizeOf3 w) rfl rfl rfl (by omega)) ?_
      refine g_val rfl rfl rfl (fun w hh => v_load (Try.isAgg3 w) rfl (hh.cell 0 rfl (desk_gate (by omega)))) ?_
      refine g_callU (ι := Value) (p := fun _ => True) (ob' := fun _ => deskObj L (lowerF L.S (k : Nat) _ (roundN L.S g k))) (ret := fun v => v) (own' := fun _ => [_, _, _]) 0 rfl rfl rfl rfl rfl rfl rfl (fun a w => Try.call154 a w) rfl (fun _ => rfl) (fun w hh => (c_lower L bd (roundN L.S g k) (k : Nat) _ w (hL.ext hh.toExt) hG (hgl) (hh.get 0 rfl) (fun s hs hn => hh.sepAt 0 rfl hs hn)).mono (by rintro en w' ⟨v, rfl, hx, hb⟩; exact ⟨v, rfl, trivial, hx, hb⟩)) (fun v _ => ?_)
      refine g_nil ?_
      refine g_n_blk ?_
      refine g_n_then ?_
      refine g_region ?_
      refine g_val rfl rfl rfl (fun _ _ => v_add rfl rfl (wrap_i64 (by omega))) ?_
      refine g_val rfl rfl rfl (fun _ _ => v_move rfl) ?_
      refine g_nil ?_
      refine g_n_then ?_
      rw [← roundN_succ]
      exact g_againM (i := k) (k + 1) [0, 1, 2] ((.cons rfl (.cons rfl (.cons rfl (.cons rfl (.cons rfl .nil)))))) (by decide) rfl (by omega) (by omega)
    · replace h36 := of_decide_eq_false h36
      have ek : k = L.S.floors.length := by omega
      subst ek
      refine g_exit ?_
      refine g_x_then ?_
      refine g_x_then ?_
      refine g_x_blk ?_
      refine g_n_then ?_
      refine g_seq ?_
      refine g_draw none (.free 0 (.free 1 (.free 2 (.hoist 3 (.hoist 4 (.free 5 .done)))))) _ rfl (by decide +kernel) (fun w k hh => hh.draw k) (fun w hh => hh) ?_
      refine p_free rfl rfl rfl rfl (fun _ _ => v_move rfl) ?_
      refine p_free rfl rfl rfl rfl (fun _ _ => v_nilCheck rfl) ?_
      refine p_free rfl rfl rfl rfl (fun w _ => v_fieldAddr 5 (Try.runUnderlying157 w) rfl (Try.sizeOf155 w) rfl) ?_
      refine p_hoist rfl rfl rfl rfl (fun w hh => v_loadAgg (vs := ints (roundN L.S g L.S.floors.length)) (Try.isAgg155 w) (sz_ints (roundN_length.trans hI2.1.len) (Try.sizeOf155 w)) rfl (hh.cells 0 rfl desk_gates)) ?_
      refine p_hoist rfl rfl rfl rfl (fun w hh => v_loadAgg (vs := ints g) (Try.isAgg155 w) (sz_ints hI2.1.len (Try.sizeOf155 w)) rfl (hh.cells 1 rfl ints_all)) ?_
      refine p_free rfl rfl rfl rfl (fun w _ => v_eqlAgg (equal_ints Try.underlying155 Try.sizeOf3 Try.isAgg3 Try.underlying3 (roundN_length.trans hI2.1.len) hI2.1.len w) eqg155 rfl rfl) ?_
      refine p_done ?_
      refine g_n_then ?_
      refine g_cond rfl (fun hfix => ?_) (fun hfix => ?_)
      · replace hfix := of_decide_eq_true hfix
        refine g_seq ?_
        refine g_region ?_
        refine g_val rfl rfl rfl (fun _ _ => v_move rfl) ?_
        refine g_val rfl rfl rfl (fun _ _ => v_assign rfl) ?_
        refine g_val rfl rfl rfl (fun _ _ => v_assign rfl) ?_
        refine g_nil ?_
        refine g_n_then ?_
        refine g_ret ?_
        refine g_r_blk ?_
        refine g_r_then ?_
        refine g_r_blk ?_
        have eg : roundN L.S g L.S.floors.length = gatesOf L.S := hfix.trans ((fixF_stop hfix).symm.trans hI2.2)
        refine g_done rfl (fun w hh => (.tmp rfl (.tmp rfl .nil))) (fun w hh => ?_)
        rw [← eg]
        exact ⟨bd, rfl, Fresh.of hh [0] (by decide) rfl⟩
      · replace hfix := of_decide_eq_false hfix
        refine g_skip ?_
        refine g_n_blk ?_
        refine g_n_then ?_
        exact g_againM (i := g) (roundN L.S g L.S.floors.length) [0, 2] ((.cons rfl (.cons rfl .nil))) (by decide) rfl (⟨(roundN_ok hI2.1).1, (fixF_step hI2.1 hfix).trans hI2.2⟩) (mu_round hI2.1 hfix)

set_option maxRecDepth 100000 in
theorem c_openedE (L : LS) (w : World) (hL : L.OK w) (hc : check L.S ≠ 0) : Ret Try.prog 102 [L.val] w (.tuple #[.pointer none, .int .i64 (check L.S)]) := by
  have hlt := hL.tl
  have hlf := hL.fl
  have hls := hL.sl
  refine g_enter (args := [L.val]) Try.func102 rfl Try.ntmps102 rfl (e := [(0, _)]) rfl (HS.start w [] L.segs hL.segs) ?_
  refine g_seq ?_
  refine g_region ?_
  refine g_box rfl rfl (fun b1 hb1 => ?_)
  refine g_val rfl rfl rfl (fun _ _ => v_assign rfl) ?_
  refine g_val rfl rfl rfl (fun _ _ => v_assign rfl) ?_
  refine g_nil ?_
  refine g_n_then ?_
  refine g_seq ?_
  refine g_seq ?_
  refine g_region ?_
  refine g_val rfl rfl rfl (fun w hh => v_loadAgg (vs := [_, _, _, _, _]) (Try.isAgg29 w) (Try.sizeOf29 w) rfl (hh.cells 0 rfl rfl)) ?_
  refine g_callv rfl rfl rfl rfl rfl rfl rfl (fun a w => Try.call24 a w) (fun w hh => c_Check L w (hL.ext hh.toExt)) ?_
  refine g_val rfl rfl rfl (fun _ _ => v_assign rfl) ?_
  refine g_nil ?_
  refine g_n_then ?_
  refine g_seq ?_
  refine g_region ?_
  refine g_val rfl rfl rfl (fun _ _ => v_move rfl) ?_
  refine g_val rfl rfl rfl (fun _ _ => v_neq rfl rfl) ?_
  refine g_nil ?_
  refine g_n_then ?_
  refine g_condT rfl (neP hc) ?_
  refine g_seq ?_
  refine g_region ?_
  refine g_val rfl rfl rfl (fun _ _ => v_move rfl) ?_
  refine g_val rfl rfl rfl (fun _ _ => v_assign rfl) ?_
  refine g_val rfl rfl rfl (fun _ _ => v_assign rfl) ?_
  refine g_nil ?_
  refine g_n_then ?_
  refine g_ret ?_
  refine g_r_then ?_
  refine g_done rfl (fun w hh => (.tmp rfl (.tmp rfl .nil))) (fun w hh => ⟨rfl, hh.toExt⟩)

end Go.Proofs

namespace Go.Proofs
open Go Go.Fw Go.Pl
set_option maxRecDepth 100000 in
theorem c_day (L : LS) (bd : Nat) (g : List Int) (m : Int) (w : World) (hL : L.OK w) (hG : Good L.S) (hgl : g.length = 8) (hd : segOK w (bd, 0, L.cells ++ ints g)) : Ret Try.prog 103 [ptr bd 0, .int .i64 m] w (.bool (dayF L.S m)) := by
  have hlt := hL.tl
  have hlf := hL.fl
  have hls := hL.sl
  have hfl8 := hG.fl
  have htl12 := hG.tl
  refine g_enter (args := [ptr bd 0, .int .i64 m]) Try.func103 rfl Try.ntmps103 rfl (e := [(0, _), (1, _)]) rfl (HS.start w [] ((bd, 0, L.cells ++ ints g) :: L.segs) (segsC hd hL.segs)) ?_
  refine g_seq ?_
  refine g_region ?_
  refine g_val rfl rfl rfl (fun _ _ => v_assign rfl) ?_
  refine g_nil ?_
  refine g_n_then ?_
  refine g_seq ?_
  refine g_draw none (.free 0 (.free 1 (.free 2 (.free 3 (.free 4 (.hoist 5 (.hoist 6 (.free 7 (.hoist 8 (.free 9 (.free 10 (.free 11 (.free 12 (.hoist 13 (.free 14 (.free 15 (.free 16 (.free 17 (.hoist 18 (.free 19 (.free 20 (.hoist 21 (.free 22 (.hoist 23 (.one 24 (.free 25 .done)))))))))))))))))))))))))) _ rfl (by decide +kernel) (fun w k hh => hh.draw k) (fun w hh => hh) ?_
  refine p_free rfl rfl rfl rfl (fun _ _ => v_move rfl) ?_
  refine p_free rfl rfl rfl rfl (fun _ _ => v_move rfl) ?_
  refine p_free rfl rfl rfl rfl (fun _ _ => v_nilCheck rfl) ?_
  refine p_free rfl rfl rfl rfl (fun w _ => v_fieldAddr 0 (Try.runUnderlying157 w) rfl (Try.sizeOf29 w) rfl) ?_
  refine p_free rfl rfl rfl rfl (fun w _ => v_fieldAddr 0 (Try.runUnderlying29 w) rfl (Try.sizeOf23 w) rfl) ?_
  refine p_hoist rfl rfl rfl rfl (fun w hh => v_load (Try.isAgg23 w) rfl (hh.rcell 0 0 rfl rfl)) ?_
  refine p_hoist rfl rfl rfl rfl (fun w _ => v_indexAddr 0 (Try.runUnderlying23 w) (Try.sizeOf68 w) rfl rfl rfl (by omega) (hL.t0 (by omega))) ?_
  refine p_free rfl rfl rfl rfl (fun w _ => v_fieldAddr 0 (Try.runUnderlying68 w) rfl (Try.sizeOf3 w) rfl) ?_
  refine p_hoist rfl rfl rfl rfl (fun w hh => v_load (Try.isAgg3 w) rfl (hh.fld (j := 0) encW_len 1 0 rfl (by omega) rfl rfl)) ?_
  refine p_free rfl rfl rfl rfl (fun _ _ => v_move rfl) ?_
  refine p_free rfl rfl rfl rfl (fun _ _ => v_nilCheck rfl) ?_
  refine p_free rfl rfl rfl rfl (fun w _ => v_fieldAddr 0 (Try.runUnderlying157 w) rfl (Try.sizeOf29 w) rfl) ?_
  refine p_free rfl rfl rfl rfl (fun w _ => v_fieldAddr 0 (Try.runUnderlying29 w) rfl (Try.sizeOf23 w) rfl) ?_
  refine p_hoist rfl rfl rfl rfl (fun w hh => v_load (Try.isAgg23 w) rfl (hh.rcell 0 0 rfl rfl)) ?_
  refine p_free rfl rfl rfl rfl (fun _ _ => v_move rfl) ?_
  refine p_free rfl rfl rfl rfl (fun _ _ => v_nilCheck rfl) ?_
  refine p_free rfl rfl rfl rfl (fun w _ => v_fieldAddr 0 (Try.runUnderlying157 w) rfl (Try.sizeOf29 w) rfl) ?_
  refine p_free rfl rfl rfl rfl (fun w _ => v_fieldAddr 0 (Try.runUnderlying29 w) rfl (Try.sizeOf23 w) rfl) ?_
  refine p_hoist rfl rfl rfl rfl (fun w hh => v_load (Try.isAgg23 w) rfl (hh.rcell 0 0 rfl rfl)) ?_
  refine p_free rfl rfl rfl rfl (fun w _ => v_lenS (Try.runUnderlying23 w) rfl) ?_
  refine p_free rfl rfl rfl rfl (fun _ _ => v_sub rfl rfl (wrap_i64 (by omega))) ?_
  refine p_hoist rfl rfl rfl rfl (fun w _ => v_indexAddr (L.S.table.length - 1) (Try.runUnderlying23 w) (Try.sizeOf68 w) rfl rfl (by omega) (by omega) (hL.t0 (by omega))) ?_
  refine p_free rfl rfl rfl rfl (fun w _ => v_fieldAddr 0 (Try.runUnderlying68 w) rfl (Try.sizeOf3 w) rfl) ?_
  refine p_hoist rfl rfl rfl rfl (fun w hh => v_load (Try.isAgg3 w) rfl (hh.fld (j := (L.S.table.length - 1)) encW_len 1 0 rfl (by omega) rfl rfl)) ?_
  refine p_one rfl ?_
  refine g_callv rfl rfl rfl rfl rfl rfl rfl (fun a w => Try.call90 a w) (fun w hh => c_in _ _ _ w) ?_
  refine p_next (fun w hh => hh) ?_
  refine p_free rfl rfl rfl rfl (fun _ _ => v_assign rfl) ?_
  refine p_done ?_
  refine g_n_then ?_
  refine g_ret ?_
  refine g_done rfl (fun w hh => (.tmp rfl .nil)) (fun w hh => ⟨?_, hh.toExt⟩)
  rfl

set_option maxRecDepth 100000 in
theorem c_height1 (x : Water) (m : Int) (bx : Nat) (w : World) (hb : segOK w (bx, 0, [.int .i64 m])) : Ret Try.prog 156 [.agg (encW x).toArray, ptr bx 0] w (.bool (decide (m ≤ x.min))) := by
  refine g_enter (args := [.agg (encW x).toArray, ptr bx 0]) Try.func156 rfl Try.ntmps156 rfl (e := [(0, _), (1, _)]) rfl (HS.start w [] [(bx, 0, [.int .i64 m])] (segsC hb segsN)) ?_
  refine g_seq ?_
  refine g_region ?_
  refine g_box rfl rfl (fun b1 hb1 => ?_)
  refine g_val rfl rfl rfl (fun _ _ => v_assign rfl) ?_
  refine g_nil ?_
  refine g_n_then ?_
  refine g_seq ?_
  refine g_region ?_
  refine g_val rfl rfl rfl (fun w _ => v_fieldAddr 0 (Try.runUnderlying68 w) rfl (Try.sizeOf3 w) rfl) ?_
  refine g_val rfl rfl rfl (fun w hh => v_load (Try.isAgg3 w) rfl (hh.cell 0 rfl rfl)) ?_
  refine g_val rfl rfl rfl (fun w hh => v_load (Try.isAgg3 w) rfl (hh.rcell 0 0 rfl rfl)) ?_
  refine g_val rfl rfl rfl (fun _ _ => v_geq rfl rfl) ?_
  refine g_val rfl rfl rfl (fun _ _ => v_assign rfl) ?_
  refine g_nil ?_
  refine g_n_then ?_
  refine g_ret ?_
  refine g_done rfl (fun w hh => (.tmp rfl .nil)) (fun w hh => ⟨?_, hh.toExt⟩)
  rfl

set_option maxRecDepth 100000 in
theorem c_height (L : LS) (bd : Nat) (g : List Int) (m : Int) (w : World) (hL : L.OK w) (hG : Good L.S) (hgl : g.length = 8) (hd : segOK w (bd, 0, L.cells ++ ints g)) (hday : dayF L.S m = true) : Ret Try.prog 110 [ptr bd 0, .int .i64 m] w (.int .i64 (heightF L.S m)) := by
  have hlt := hL.tl
  have hlf := hL.fl
  have hls := hL.sl
  have hfl8 := hG.fl
  have htl12 := hG.tl
  obtain ⟨j, ej, hj, hm, hl, hj0⟩ := day_idx hG hday
  have hT0 := hG.tab j hj
  have hmw : -9000 ≤ m := by have := hG.tab 0 (by omega); have h := hday; simp only [dayF, inr_iff] at h; have e : firstM L.S = (L.S.table.getD 0 default).min := rfl; omega
  refine g_enter (args := [ptr bd 0, .int .i64 m]) Try.func110 rfl Try.ntmps110 rfl (e := [(0, _), (1, _)]) rfl (HS.start w [] ((bd, 0, L.cells ++ ints g) :: L.segs) (segsC hd hL.segs)) ?_
  refine g_seq ?_
  refine g_region ?_
  refine g_box rfl rfl (fun b1 hb1 => ?_)
  refine g_val rfl rfl rfl (fun _ _ => v_assign rfl) ?_
  refine g_nil ?_
  refine g_n_then ?_
  refine g_seq ?_
  refine g_region ?_
  refine g_val rfl rfl rfl (fun _ _ => v_move rfl) ?_
  refine g_val rfl rfl rfl (fun _ _ => v_nilCheck rfl) ?_
  refine g_val rfl rfl rfl (fun w _ => v_fieldAddr 0 (Try.runUnderlying157 w) rfl (Try.sizeOf29 w) rfl) ?_
  refine g_val rfl rfl rfl (fun w _ => v_fieldAddr 0 (Try.runUnderlying29 w) rfl (Try.sizeOf23 w) rfl) ?_
  refine g_val rfl rfl rfl (fun w hh => v_load (Try.isAgg23 w) rfl (hh.rcell 0 0 rfl rfl)) ?_
  refine g_val rfl rfl rfl (fun _ _ => v_makeFunc (u := #[]) (u' := #[_]) rfl rfl) ?_
  refine g_callv rfl rfl rfl rfl rfl rfl rfl (fun a w => Try.call155 a w) (fun w hh => ej ▸ c_IndexFunc_Water 156 #[] #[ptr b1 0] (fun x => decide (m ≤ x.min)) L.S.table L.rt L.ct w (by omega) hL.t0 (hh.seg 1 rfl) (fun a w => Try.call156 a w) (fun w2 hx j hj => c_height1 _ m b1 w2 ((hh.ownSeg 0 rfl).ext hx (by simp)))) ?_
  refine g_val rfl rfl rfl (fun _ _ => v_assign rfl) ?_
  refine g_nil ?_
  refine g_n_then ?_
  refine g_seq ?_
  refine g_region ?_
  refine g_val rfl rfl rfl (fun _ _ => v_move rfl) ?_
  refine g_val rfl rfl rfl (fun _ _ => v_nilCheck rfl) ?_
  refine g_val rfl rfl rfl (fun w _ => v_fieldAddr 0 (Try.runUnderlying157 w) rfl (Try.sizeOf29 w) rfl) ?_
  refine g_val rfl rfl rfl (fun w _ => v_fieldAddr 0 (Try.runUnderlying29 w) rfl (Try.sizeOf23 w) rfl) ?_
  refine g_val rfl rfl rfl (fun w hh => v_load (Try.isAgg23 w) rfl (hh.rcell 0 0 rfl rfl)) ?_
  refine g_val rfl rfl rfl (fun _ _ => v_move rfl) ?_
  refine g_val rfl rfl rfl (fun w _ => v_indexAddr j (Try.runUnderlying23 w) (Try.sizeOf68 w) rfl rfl rfl (by omega) (hL.t0 (by omega))) ?_
  refine g_val rfl rfl rfl (fun w hh => v_loadAgg (vs := encW _) (Try.isAgg68 w) (Try.sizeOf68 w) rfl (hh.elem encW_len 1 rfl (by omega))) ?_
  refine g_alloc (fun w => Try.zeroValue68 w) rfl (fun b2 hb2 => ?_)
  refine g_storeAgg (vs := #[_, _]) (own' := (_ :: _)) 0 (fun w => Try.sizeOf68 w) rfl rfl rfl rfl rfl rfl ?_
  refine g_nil ?_
  refine g_n_then ?_
  refine g_seq ?_
  refine g_seq ?_
  refine g_region ?_
  refine g_val rfl rfl rfl (fun w _ => v_fieldAddr 0 (Try.runUnderlying68 w) rfl (Try.sizeOf3 w) rfl) ?_
  refine g_val rfl rfl rfl (fun w hh => v_load (Try.isAgg3 w) rfl (hh.cell 0 rfl rfl)) ?_
  refine g_val rfl rfl rfl (fun w hh => v_load (Try.isAgg3 w) rfl (hh.cell 1 rfl rfl)) ?_
  refine g_val rfl rfl rfl (fun _ _ => v_eql rfl rfl) ?_
  refine g_nil ?_
  refine g_n_then ?_
  refine g_cond rfl (fun h28 => ?_) (fun h28 => ?_)
  · replace h28 := of_decide_eq_true h28
    refine g_seq ?_
    refine g_region ?_
    refine g_val rfl rfl rfl (fun w _ => v_fieldAddr 1 (Try.runUnderlying68 w) rfl (Try.sizeOf3 w) rfl) ?_
    refine g_val rfl rfl rfl (fun w hh => v_load (Try.isAgg3 w) rfl (hh.cell 0 rfl rfl)) ?_
    refine g_val rfl rfl rfl (fun _ _ => v_assign rfl) ?_
    refine g_nil ?_
    refine g_n_then ?_
    refine g_ret ?_
    refine g_r_then ?_
    refine g_done rfl (fun w hh => (.tmp rfl .nil)) (fun w hh => ⟨?_, hh.toExt⟩)
    simp only [retv, heightF, ej, heightAt, Int.toNat_natCast, if_pos h28] <;> rfl
  · replace h28 := of_decide_eq_false h28
    have hj0 : j ≠ 0 := fun h => h28 (hj0 h)
    have hP := slope_bd hG hj hm hl hj0
    have hT1 := hG.tab (j - 1) (by omega)
    have hlt1 := hl (j - 1) (by omega)
    refine g_skip ?_
    refine g_n_then ?_
    refine g_seq ?_
    refine g_region ?_
    refine g_val rfl rfl rfl (fun _ _ => v_move rfl) ?_
    refine g_val rfl rfl rfl (fun _ _ => v_nilCheck rfl) ?_
    refine g_val rfl rfl rfl (fun w _ => v_fieldAddr 0 (Try.runUnderlying157 w) rfl (Try.sizeOf29 w) rfl) ?_
    refine g_val rfl rfl rfl (fun w _ => v_fieldAddr 0 (Try.runUnderlying29 w) rfl (Try.sizeOf23 w) rfl) ?_
    refine g_val rfl rfl rfl (fun w hh => v_load (Try.isAgg23 w) rfl (hh.rcell 0 0 rfl rfl)) ?_
    refine g_val rfl rfl rfl (fun _ _ => v_move rfl) ?_
    refine g_val rfl rfl rfl (fun _ _ => v_sub rfl rfl (wrap_i64 (by omega))) ?_
    refine g_val rfl rfl rfl (fun w _ => v_indexAddr (j - 1) (Try.runUnderlying23 w) (Try.sizeOf68 w) rfl rfl (by omega) (by omega) (hL.t0 (by omega))) ?_
    refine g_val rfl rfl rfl (fun w hh => v_loadAgg (vs := encW _) (Try.isAgg68 w) (Try.sizeOf68 w) rfl (hh.elem encW_len 1 rfl (by omega))) ?_
    refine g_alloc (fun w => Try.zeroValue68 w) rfl (fun b3 hb3 => ?_)
    refine g_storeAgg (vs := #[_, _]) (own' := (_ :: _)) 0 (fun w => Try.sizeOf68 w) rfl rfl rfl rfl rfl rfl ?_
    refine g_nil ?_
    refine g_n_then ?_
    refine g_seq ?_
    refine g_draw none (.free 0 (.hoist 1 (.free 2 (.hoist 3 (.free 4 (.hoist 5 (.free 6 (.hoist 7 (.free 8 (.free 9 (.free 10 (.hoist 11 (.free 12 (.hoist 13 (.free 14 (.free 15 (.free 16 .done))))))))))))))))) _ rfl (by decide +kernel) (fun w k hh => hh.draw k) (fun w hh => hh) ?_
    refine p_free rfl rfl rfl rfl (fun w _ => v_fieldAddr 1 (Try.runUnderlying68 w) rfl (Try.sizeOf3 w) rfl) ?_
    refine p_hoist rfl rfl rfl rfl (fun w hh => v_load (Try.isAgg3 w) rfl (hh.cell 1 rfl rfl)) ?_
    refine p_free rfl rfl rfl rfl (fun w _ => v_fieldAddr 1 (Try.runUnderlying68 w) rfl (Try.sizeOf3 w) rfl) ?_
    refine p_hoist rfl rfl rfl rfl (fun w hh => v_load (Try.isAgg3 w) rfl (hh.cell 0 rfl rfl)) ?_
    refine p_free rfl rfl rfl rfl (fun _ _ => v_sub rfl rfl (wrap_i64 (by omega))) ?_
    refine p_hoist rfl rfl rfl rfl (fun w hh => v_load (Try.isAgg3 w) rfl (hh.cell 2 rfl rfl)) ?_
    refine p_free rfl rfl rfl rfl (fun w _ => v_fieldAddr 0 (Try.runUnderlying68 w) rfl (Try.sizeOf3 w) rfl) ?_
    refine p_hoist rfl rfl rfl rfl (fun w hh => v_load (Try.isAgg3 w) rfl (hh.cell 0 rfl rfl)) ?_
    refine p_free rfl rfl rfl rfl (fun _ _ => v_sub rfl rfl (wrap_i64 (by omega))) ?_
    refine p_free rfl rfl rfl rfl (fun _ _ => v_mul rfl rfl (wrap_i64 (by omega))) ?_
    refine p_free rfl rfl rfl rfl (fun w _ => v_fieldAddr 0 (Try.runUnderlying68 w) rfl (Try.sizeOf3 w) rfl) ?_
    refine p_hoist rfl rfl rfl rfl (fun w hh => v_load (Try.isAgg3 w) rfl (hh.cell 1 rfl rfl)) ?_
    refine p_free rfl rfl rfl rfl (fun w _ => v_fieldAddr 0 (Try.runUnderlying68 w) rfl (Try.sizeOf3 w) rfl) ?_
    refine p_hoist rfl rfl rfl rfl (fun w hh => v_load (Try.isAgg3 w) rfl (hh.cell 0 rfl rfl)) ?_
    refine p_free rfl rfl rfl rfl (fun _ _ => v_sub rfl rfl (wrap_i64 (by omega))) ?_
    refine p_free rfl rfl rfl rfl (fun _ _ => v_assign rfl) ?_
    refine p_free rfl rfl rfl rfl (fun _ _ => v_assign rfl) ?_
    refine p_done ?_
    refine g_n_then ?_
    refine g_seq ?_
    refine g_seq ?_
    refine g_region ?_
    refine g_val rfl rfl rfl (fun _ _ => v_move rfl) ?_
    refine g_val rfl rfl rfl (fun _ _ => v_lss rfl rfl) ?_
    refine g_nil ?_
    refine g_n_then ?_
    refine g_cond rfl (fun h56 => ?_) (fun h56 => ?_)
    · replace h56 := of_decide_eq_true h56
      have hnum : -1500000 ≤ ((L.S.table.getD j default).h - (L.S.table.getD (j - 1) default).h) * (m - (L.S.table.getD (j - 1) default).min) - ((L.S.table.getD j default).min - (L.S.table.getD (j - 1) default).min - 1) ∧ ((L.S.table.getD j default).h - (L.S.table.getD (j - 1) default).h) * (m - (L.S.table.getD (j - 1) default).min) - ((L.S.table.getD j default).min - (L.S.table.getD (j - 1) default).min - 1) ≤ 1500000 := by omega
      refine g_region ?_
      refine g_val rfl rfl rfl (fun _ _ => v_move rfl) ?_
      refine g_val rfl rfl rfl (fun _ _ => v_move rfl) ?_
      refine g_val rfl rfl rfl (fun _ _ => v_sub rfl rfl (wrap_i64 (by omega))) ?_
      refine g_val rfl rfl rfl (fun _ _ => v_sub rfl rfl (wrap_i64 (by omega))) ?_
      refine g_val rfl rfl rfl (fun _ _ => v_assign rfl) ?_
      refine g_nil ?_
      refine g_n_then ?_
      refine g_seq ?_
      refine g_draw none (.free 0 (.hoist 1 (.free 2 (.free 3 (.free 4 (.free 5 (.free 6 .done))))))) _ rfl (by decide +kernel) (fun w k hh => hh.draw k) (fun w hh => hh) ?_
      refine p_free rfl rfl rfl rfl (fun w _ => v_fieldAddr 1 (Try.runUnderlying68 w) rfl (Try.sizeOf3 w) rfl) ?_
      refine p_hoist rfl rfl rfl rfl (fun w hh => v_load (Try.isAgg3 w) rfl (hh.cell 0 rfl rfl)) ?_
      refine p_free rfl rfl rfl rfl (fun _ _ => v_move rfl) ?_
      refine p_free rfl rfl rfl rfl (fun _ _ => v_move rfl) ?_
      refine p_free rfl rfl rfl rfl (fun _ _ => v_quo rfl rfl (by omega) (wrap_i64 (by have h9 := tdiv_bd (d := (L.S.table.getD j default).min - (L.S.table.getD (j - 1) default).min) hnum; omega))) ?_
      refine p_free rfl rfl rfl rfl (fun _ _ => v_add rfl rfl (wrap_i64 (by have h9 := tdiv_bd (d := (L.S.table.getD j default).min - (L.S.table.getD (j - 1) default).min) hnum; omega))) ?_
      refine p_free rfl rfl rfl rfl (fun _ _ => v_assign rfl) ?_
      refine p_done ?_
      refine g_n_then ?_
      refine g_ret ?_
      refine g_done rfl (fun w hh => (.tmp rfl .nil)) (fun w hh => ⟨?_, hh.toExt⟩)
      simp only [retv, heightF, ej, heightAt, Int.toNat_natCast, slope, *, if_true, if_false]
    · replace h56 := of_decide_eq_false h56
      have hnum : -1500000 ≤ ((L.S.table.getD j default).h - (L.S.table.getD (j - 1) default).h) * (m - (L.S.table.getD (j - 1) default).min) ∧ ((L.S.table.getD j default).h - (L.S.table.getD (j - 1) default).h) * (m - (L.S.table.getD (j - 1) default).min) ≤ 1500000 := by omega
      refine g_skip ?_
      refine g_n_then ?_
      refine g_seq ?_
      refine g_draw none (.free 0 (.hoist 1 (.free 2 (.free 3 (.free 4 (.free 5 (.free 6 .done))))))) _ rfl (by decide +kernel) (fun w k hh => hh.draw k) (fun w hh => hh) ?_
      refine p_free rfl rfl rfl rfl (fun w _ => v_fieldAddr 1 (Try.runUnderlying68 w) rfl (Try.sizeOf3 w) rfl) ?_
      refine p_hoist rfl rfl rfl rfl (fun w hh => v_load (Try.isAgg3 w) rfl (hh.cell 0 rfl rfl)) ?_
      refine p_free rfl rfl rfl rfl (fun _ _ => v_move rfl) ?_
      refine p_free rfl rfl rfl rfl (fun _ _ => v_move rfl) ?_
      refine p_free rfl rfl rfl rfl (fun _ _ => v_quo rfl rfl (by omega) (wrap_i64 (by have h9 := tdiv_bd (d := (L.S.table.getD j default).min - (L.S.table.getD (j - 1) default).min) hnum; omega))) ?_
      refine p_free rfl rfl rfl rfl (fun _ _ => v_add rfl rfl (wrap_i64 (by have h9 := tdiv_bd (d := (L.S.table.getD j default).min - (L.S.table.getD (j - 1) default).min) hnum; omega))) ?_
      refine p_free rfl rfl rfl rfl (fun _ _ => v_assign rfl) ?_
      refine p_done ?_
      refine g_n_then ?_
      refine g_ret ?_
      refine g_done rfl (fun w hh => (.tmp rfl .nil)) (fun w hh => ⟨?_, hh.toExt⟩)
      simp only [retv, heightF, ej, heightAt, Int.toNat_natCast, slope, *, if_true, if_false]

set_option maxRecDepth 100000 in
theorem c_level (L : LS) (bd : Nat) (g : List Int) (m : Int) (w : World) (hL : L.OK w) (hG : Good L.S) (hgl : g.length = 8) (hd : segOK w (bd, 0, L.cells ++ ints g)) (hday : dayF L.S m = true) : Ret Try.prog 111 [ptr bd 0, .int .i64 m] w (.agg (encP (levelF L.S m)).toArray) := by
  have hlt := hL.tl
  have hlf := hL.fl
  have hls := hL.sl
  have hfl8 := hG.fl
  have htl12 := hG.tl
  have hhb := height_bd hG hday
  have hlo := hG.lo
  have hhi := hG.hi
  refine g_enter (args := [ptr bd 0, .int .i64 m]) Try.func111 rfl Try.ntmps111 rfl (e := [(0, _), (1, _)]) rfl (HS.start w [] ((bd, 0, L.cells ++ ints g) :: L.segs) (segsC hd hL.segs)) ?_
  refine g_seq ?_
  refine g_region ?_
  refine g_alloc (fun w => Try.zeroValue25 w) rfl (fun b1 hb1 => ?_)
  refine g_nil ?_
  refine g_n_then ?_
  refine g_seq ?_
  refine g_region ?_
  refine g_val rfl rfl rfl (fun _ _ => v_move rfl) ?_
  refine g_val rfl rfl rfl (fun _ _ => v_move rfl) ?_
  refine g_callv rfl rfl rfl rfl rfl rfl rfl (fun a w => Try.call110 a w) (fun w hh => c_height L bd g _ w (hL.ext hh.toExt) hG hgl (hh.seg 0 rfl) (by assumption)) ?_
  refine g_val rfl rfl rfl (fun _ _ => v_assign rfl) ?_
  refine g_nil ?_
  refine g_n_then ?_
  refine g_seq ?_
  refine g_draw (some 17) (.free 0 (.free 1 (.free 2 (.free 3 (.free 4 (.free 5 (.hoist 6 (.free 7 (.free 8 (.free 9 (.free 10 (.free 11 (.free 12 (.free 13 (.hoist 14 (.free 15 (.free 16 (.last 17 .done)))))))))))))))))) _ rfl (by decide +kernel) (fun w k hh => hh.draw k) (fun w hh => hh) ?_
  refine p_free rfl rfl rfl rfl (fun _ _ => v_move rfl) ?_
  refine p_free rfl rfl rfl rfl (fun _ _ => v_move rfl) ?_
  refine p_free rfl rfl rfl rfl (fun _ _ => v_nilCheck rfl) ?_
  refine p_free rfl rfl rfl rfl (fun w _ => v_fieldAddr 0 (Try.runUnderlying157 w) rfl (Try.sizeOf29 w) rfl) ?_
  refine p_free rfl rfl rfl rfl (fun w _ => v_fieldAddr 1 (Try.runUnderlying29 w) rfl (Try.sizeOf25 w) rfl) ?_
  refine p_free rfl rfl rfl rfl (fun w _ => v_fieldAddr 0 (Try.runUnderlying25 w) rfl (Try.sizeOf3 w) rfl) ?_
  refine p_hoist rfl rfl rfl rfl (fun w hh => v_load (Try.isAgg3 w) rfl (hh.rcell 0 1 rfl rfl)) ?_
  refine p_free rfl rfl rfl rfl (fun _ _ => v_add rfl rfl (wrap_i64 (by omega))) ?_
  refine p_free rfl rfl rfl rfl (fun _ _ => v_move rfl) ?_
  refine p_free rfl rfl rfl rfl (fun _ _ => v_move rfl) ?_
  refine p_free rfl rfl rfl rfl (fun _ _ => v_nilCheck rfl) ?_
  refine p_free rfl rfl rfl rfl (fun w _ => v_fieldAddr 0 (Try.runUnderlying157 w) rfl (Try.sizeOf29 w) rfl) ?_
  refine p_free rfl rfl rfl rfl (fun w _ => v_fieldAddr 1 (Try.runUnderlying29 w) rfl (Try.sizeOf25 w) rfl) ?_
  refine p_free rfl rfl rfl rfl (fun w _ => v_fieldAddr 1 (Try.runUnderlying25 w) rfl (Try.sizeOf3 w) rfl) ?_
  refine p_hoist rfl rfl rfl rfl (fun w hh => v_load (Try.isAgg3 w) rfl (hh.rcell 0 2 rfl rfl)) ?_
  refine p_free rfl rfl rfl rfl (fun _ _ => v_add rfl rfl (wrap_i64 (by omega))) ?_
  refine p_free rfl rfl rfl rfl (fun _ _ => v_build (vs := [(0, _), (1, _)]) (cells := [_, _]) rfl rfl) ?_
  refine p_last rfl ?_
  refine g_storeAgg (vs := #[_, _]) (own' := (_ :: _)) 0 (fun w => Try.sizeOf25 w) rfl rfl rfl rfl rfl rfl ?_
  refine p_nextL ?_
  refine p_done ?_
  refine g_n_then ?_
  refine g_ret ?_
  refine g_done rfl (fun w hh => (.cell rfl (loadVar_agg (vs := [_, _]) (Try.isAgg25 _) (Try.sizeOf25 _) (hh.cells 0 rfl rfl)) .nil)) (fun w hh => ⟨?_, hh.toExt⟩)
  rfl

set_option maxRecDepth 100000 in
theorem c_at (L : LS) (bd : Nat) (g : List Int) (m p : Int) (w : World) (hL : L.OK w) (hG : Good L.S) (hgl : g.length = 8) (hd : segOK w (bd, 0, L.cells ++ ints g)) (hday : dayF L.S m = true) (hp : 0 ≤ p ∧ p < 8) : Ret Try.prog 104 [ptr bd 0, .int .i64 m, .int .i64 p] w (.int .i64 (stateG L.S (g.getD p.toNat 0) m)) := by
  have hlt := hL.tl
  have hlf := hL.fl
  have hls := hL.sl
  have hfl8 := hG.fl
  have htl12 := hG.tl
  refine g_enter (args := [ptr bd 0, .int .i64 m, .int .i64 p]) Try.func104 rfl Try.ntmps104 rfl (e := [(0, _), (1, _), (2, _)]) rfl (HS.start w [] ((bd, 0, L.cells ++ ints g) :: L.segs) (segsC hd hL.segs)) ?_
  refine g_seq ?_
  refine g_region ?_
  refine g_val rfl rfl rfl (fun _ _ => v_assign rfl) ?_
  refine g_nil ?_
  refine g_n_then ?_
  refine g_seq ?_
  refine g_draw none (.free 0 (.free 1 (.free 3 (.free 4 (.free 5 (.free 6 (.hoist 7 (.hoist 8 (.br (.alt 2 (.one 9 (.one 10 (.free 11 .done))) (.alt 9 (.one 2 (.one 10 (.free 11 .done))) .nil))))))))))) _ rfl (by decide +kernel) (fun w k hh => hh.draw k) (fun w hh => hh) ?_
  refine p_free rfl rfl rfl rfl (fun _ _ => v_move rfl) ?_
  refine p_free rfl rfl rfl rfl (fun _ _ => v_move rfl) ?_
  refine p_free rfl rfl rfl rfl (fun _ _ => v_move rfl) ?_
  refine p_free rfl rfl rfl rfl (fun _ _ => v_move rfl) ?_
  refine p_free rfl rfl rfl rfl (fun _ _ => v_nilCheck rfl) ?_
  refine p_free rfl rfl rfl rfl (fun w _ => v_fieldAddr 5 (Try.runUnderlying157 w) rfl (Try.sizeOf155 w) rfl) ?_
  refine p_hoist rfl rfl rfl rfl (fun w _ => v_arrI1 (Try.runUnderlying155 w) (Try.sizeOf3 w) rfl rfl (by omega) (by omega)) ?_
  refine p_hoist rfl rfl rfl rfl (fun w hh => v_load (Try.isAgg3 w) rfl (hh.rgate 0 rfl (by omega))) ?_
  refine p_br ?_
  refine p_alt rfl ?_ ?_
  · refine g_callv rfl rfl rfl rfl rfl rfl rfl (fun a w => Try.call111 a w) (fun w hh => c_level L bd g _ w (hL.ext hh.toExt) hG hgl (hh.seg 0 rfl) (by assumption)) ?_
    refine p_next (fun w hh => hh) ?_
    refine p_one rfl ?_
    refine g_alloc (fun w => Try.zeroValue25 w) rfl (fun b1 hb1 => ?_)
    refine p_next (fun w hh => hh.dropN 1 rfl) ?_
    refine p_one rfl ?_
    refine g_storeAgg (vs := #[_, _]) (own' := (_ :: _)) 0 (fun w => Try.sizeOf25 w) rfl rfl rfl rfl rfl rfl ?_
    refine p_next (fun w hh => hh.dropN 1 rfl) ?_
    refine p_free rfl rfl rfl rfl (fun _ _ => v_assign rfl) ?_
    refine p_done ?_
    refine g_n_then ?_
    refine g_seq ?_
    refine g_block ?_
    refine g_seq ?_
    refine g_region ?_
    refine g_val rfl rfl rfl (fun _ _ => v_move rfl) ?_
    refine g_val rfl rfl rfl (fun _ _ => v_eql rfl rfl) ?_
    refine g_val rfl rfl rfl (fun _ _ => v_move rfl) ?_
    refine g_case 21 rfl (fun hg21_1 => ?_) (fun hg21_1 => ?_)
    · replace hg21_1 := of_decide_eq_true hg21_1
      refine g_skipG rfl rfl rfl rfl rfl rfl ?_
      refine g_skipG rfl rfl rfl rfl rfl rfl ?_
      refine g_skipG rfl rfl rfl rfl rfl rfl ?_
      refine g_skipG rfl rfl rfl rfl rfl rfl ?_
      refine g_val rfl rfl rfl (fun _ _ => v_pickT rfl rfl) ?_
      refine g_val rfl rfl rfl (fun _ _ => v_assign rfl) ?_
      refine g_nil ?_
      refine g_n_then ?_
      refine g_condT rfl rfl ?_
      refine g_seq ?_
      refine g_region ?_
      refine g_val rfl rfl rfl (fun _ _ => v_assign rfl) ?_
      refine g_nil ?_
      refine g_n_then ?_
      refine g_ret ?_
      refine g_r_blk ?_
      refine g_r_then ?_
      refine g_done rfl (fun w hh => (.tmp rfl .nil)) (fun w hh => ⟨?_, hh.toExt⟩)
      simp only [retv, stateG]
      split <;> (try split) <;> first | rfl | omega
    · replace hg21_1 := of_decide_eq_false hg21_1
      refine g_valG rfl rfl rfl rfl rfl (fun w _ => v_fieldAddr 1 (Try.runUnderlying25 w) rfl (Try.sizeOf3 w) rfl) ?_
      refine g_valG rfl rfl rfl rfl rfl (fun w hh => v_load (Try.isAgg3 w) rfl (hh.cell 0 rfl rfl)) ?_
      refine g_valG rfl rfl rfl rfl rfl (fun _ _ => v_move rfl) ?_
      refine g_valG rfl rfl rfl rfl rfl (fun _ _ => v_leq rfl rfl) ?_
      refine g_val rfl rfl rfl (fun _ _ => v_pickF rfl rfl) ?_
      refine g_val rfl rfl rfl (fun _ _ => v_assign rfl) ?_
      refine g_nil ?_
      refine g_n_then ?_
      refine g_cond rfl (fun hc18_2 => ?_) (fun hc18_2 => ?_)
      · replace hc18_2 := of_decide_eq_true hc18_2
        refine g_seq ?_
        refine g_region ?_
        refine g_val rfl rfl rfl (fun _ _ => v_assign rfl) ?_
        refine g_nil ?_
        refine g_n_then ?_
        refine g_ret ?_
        refine g_r_blk ?_
        refine g_r_then ?_
        refine g_done rfl (fun w hh => (.tmp rfl .nil)) (fun w hh => ⟨?_, hh.toExt⟩)
        simp only [retv, stateG]
        split <;> (try split) <;> first | rfl | omega
      · replace hc18_2 := of_decide_eq_false hc18_2
        refine g_seq ?_
        refine g_region ?_
        refine g_val rfl rfl rfl (fun w _ => v_fieldAddr 0 (Try.runUnderlying25 w) rfl (Try.sizeOf3 w) rfl) ?_
        refine g_val rfl rfl rfl (fun w hh => v_load (Try.isAgg3 w) rfl (hh.cell 0 rfl rfl)) ?_
        refine g_val rfl rfl rfl (fun _ _ => v_move rfl) ?_
        refine g_val rfl rfl rfl (fun _ _ => v_gtr rfl rfl) ?_
        refine g_val rfl rfl rfl (fun _ _ => v_assign rfl) ?_
        refine g_nil ?_
        refine g_n_then ?_
        refine g_cond rfl (fun hc27_3 => ?_) (fun hc27_3 => ?_)
        · replace hc27_3 := of_decide_eq_true hc27_3
          refine g_seq ?_
          refine g_region ?_
          refine g_val rfl rfl rfl (fun _ _ => v_assign rfl) ?_
          refine g_nil ?_
          refine g_n_then ?_
          refine g_ret ?_
          refine g_r_blk ?_
          refine g_r_then ?_
          refine g_done rfl (fun w hh => (.tmp rfl .nil)) (fun w hh => ⟨?_, hh.toExt⟩)
          simp only [retv, stateG]
          split <;> (try split) <;> first | rfl | omega
        · replace hc27_3 := of_decide_eq_false hc27_3
          refine g_skip ?_
          refine g_n_blk ?_
          refine g_n_then ?_
          refine g_seq ?_
          refine g_region ?_
          refine g_val rfl rfl rfl (fun _ _ => v_assign rfl) ?_
          refine g_nil ?_
          refine g_n_then ?_
          refine g_ret ?_
          refine g_done rfl (fun w hh => (.tmp rfl .nil)) (fun w hh => ⟨?_, hh.toExt⟩)
          simp only [retv, stateG]
          split <;> (try split) <;> first | rfl | omega
  refine p_alt rfl ?_ ?_
  · refine g_alloc (fun w => Try.zeroValue25 w) rfl (fun b2 hb2 => ?_)
    refine p_next (fun w hh => hh.dropN 1 rfl) ?_
    refine p_one rfl ?_
    refine g_callv rfl rfl rfl rfl rfl rfl rfl (fun a w => Try.call111 a w) (fun w hh => c_level L bd g _ w (hL.ext hh.toExt) hG hgl (hh.seg 0 rfl) (by assumption)) ?_
    refine p_next (fun w hh => hh.dropN 1 rfl) ?_
    refine p_one rfl ?_
    refine g_storeAgg (vs := #[_, _]) (own' := (_ :: _)) 0 (fun w => Try.sizeOf25 w) rfl rfl rfl rfl rfl rfl ?_
    refine p_next (fun w hh => hh.dropN 1 rfl) ?_
    refine p_free rfl rfl rfl rfl (fun _ _ => v_assign rfl) ?_
    refine p_done ?_
    refine g_n_then ?_
    refine g_seq ?_
    refine g_block ?_
    refine g_seq ?_
    refine g_region ?_
    refine g_val rfl rfl rfl (fun _ _ => v_move rfl) ?_
    refine g_val rfl rfl rfl (fun _ _ => v_eql rfl rfl) ?_
    refine g_val rfl rfl rfl (fun _ _ => v_move rfl) ?_
    refine g_case 21 rfl (fun hg21_4 => ?_) (fun hg21_4 => ?_)
    · replace hg21_4 := of_decide_eq_true hg21_4
      refine g_skipG rfl rfl rfl rfl rfl rfl ?_
      refine g_skipG rfl rfl rfl rfl rfl rfl ?_
      refine g_skipG rfl rfl rfl rfl rfl rfl ?_
      refine g_skipG rfl rfl rfl rfl rfl rfl ?_
      refine g_val rfl rfl rfl (fun _ _ => v_pickT rfl rfl) ?_
      refine g_val rfl rfl rfl (fun _ _ => v_assign rfl) ?_
      refine g_nil ?_
      refine g_n_then ?_
      refine g_condT rfl rfl ?_
      refine g_seq ?_
      refine g_region ?_
      refine g_val rfl rfl rfl (fun _ _ => v_assign rfl) ?_
      refine g_nil ?_
      refine g_n_then ?_
      refine g_ret ?_
      refine g_r_blk ?_
      refine g_r_then ?_
      refine g_done rfl (fun w hh => (.tmp rfl .nil)) (fun w hh => ⟨?_, hh.toExt⟩)
      simp only [retv, stateG]
      split <;> (try split) <;> first | rfl | omega
    · replace hg21_4 := of_decide_eq_false hg21_4
      refine g_valG rfl rfl rfl rfl rfl (fun w _ => v_fieldAddr 1 (Try.runUnderlying25 w) rfl (Try.sizeOf3 w) rfl) ?_
      refine g_valG rfl rfl rfl rfl rfl (fun w hh => v_load (Try.isAgg3 w) rfl (hh.cell 0 rfl rfl)) ?_
      refine g_valG rfl rfl rfl rfl rfl (fun _ _ => v_move rfl) ?_
      refine g_valG rfl rfl rfl rfl rfl (fun _ _ => v_leq rfl rfl) ?_
      refine g_val rfl rfl rfl (fun _ _ => v_pickF rfl rfl) ?_
      refine g_val rfl rfl rfl (fun _ _ => v_assign rfl) ?_
      refine g_nil ?_
      refine g_n_then ?_
      refine g_cond rfl (fun hc18_5 => ?_) (fun hc18_5 => ?_)
      · replace hc18_5 := of_decide_eq_true hc18_5
        refine g_seq ?_
        refine g_region ?_
        refine g_val rfl rfl rfl (fun _ _ => v_assign rfl) ?_
        refine g_nil ?_
        refine g_n_then ?_
        refine g_ret ?_
        refine g_r_blk ?_
        refine g_r_then ?_
        refine g_done rfl (fun w hh => (.tmp rfl .nil)) (fun w hh => ⟨?_, hh.toExt⟩)
        simp only [retv, stateG]
        split <;> (try split) <;> first | rfl | omega
      · replace hc18_5 := of_decide_eq_false hc18_5
        refine g_seq ?_
        refine g_region ?_
        refine g_val rfl rfl rfl (fun w _ => v_fieldAddr 0 (Try.runUnderlying25 w) rfl (Try.sizeOf3 w) rfl) ?_
        refine g_val rfl rfl rfl (fun w hh => v_load (Try.isAgg3 w) rfl (hh.cell 0 rfl rfl)) ?_
        refine g_val rfl rfl rfl (fun _ _ => v_move rfl) ?_
        refine g_val rfl rfl rfl (fun _ _ => v_gtr rfl rfl) ?_
        refine g_val rfl rfl rfl (fun _ _ => v_assign rfl) ?_
        refine g_nil ?_
        refine g_n_then ?_
        refine g_cond rfl (fun hc27_6 => ?_) (fun hc27_6 => ?_)
        · replace hc27_6 := of_decide_eq_true hc27_6
          refine g_seq ?_
          refine g_region ?_
          refine g_val rfl rfl rfl (fun _ _ => v_assign rfl) ?_
          refine g_nil ?_
          refine g_n_then ?_
          refine g_ret ?_
          refine g_r_blk ?_
          refine g_r_then ?_
          refine g_done rfl (fun w hh => (.tmp rfl .nil)) (fun w hh => ⟨?_, hh.toExt⟩)
          simp only [retv, stateG]
          split <;> (try split) <;> first | rfl | omega
        · replace hc27_6 := of_decide_eq_false hc27_6
          refine g_skip ?_
          refine g_n_blk ?_
          refine g_n_then ?_
          refine g_seq ?_
          refine g_region ?_
          refine g_val rfl rfl rfl (fun _ _ => v_assign rfl) ?_
          refine g_nil ?_
          refine g_n_then ?_
          refine g_ret ?_
          refine g_done rfl (fun w hh => (.tmp rfl .nil)) (fun w hh => ⟨?_, hh.toExt⟩)
          simp only [retv, stateG]
          split <;> (try split) <;> first | rfl | omega
  exact p_nil

end Go.Proofs

namespace Go.Proofs
open Go Go.Fw Go.Pl
theorem c_openedR (L : LS) (w : World) (hL : L.OK w) (hc : check L.S = 0) : Calls Try.prog 102 #[L.val] w (fun en w' => ∃ bd : Nat, en = .returned (.tuple #[ptr bd 0, .int .i64 0]) ∧ True ∧ News w w' [(bd, 0, L.cells ++ ints (gatesOf L.S))]) :=
  (c_opened L w hL (good_of_check hc) hc).mono (by rintro en w' ⟨bd, rfl, hF⟩; exact ⟨bd, rfl, trivial, hF.news 0 rfl⟩)
set_option maxRecDepth 100000 in
theorem c_Height (m : Int) (L : LS) (w : World) (hL : L.OK w) : Ret Try.prog 36 [L.val, .int .i64 m] w (.tuple #[.int .i64 (HeightR L.S m).1, .int .i64 (HeightR L.S m).2]) := by
  have hlt := hL.tl
  have hlf := hL.fl
  have hls := hL.sl
  refine g_enter (args := [L.val, .int .i64 m]) Try.func36 rfl Try.ntmps36 rfl (e := [(0, _), (1, _)]) rfl (HS.start w [] L.segs hL.segs) ?_
  refine g_seq ?_
  refine g_region ?_
  refine g_box rfl rfl (fun b1 hb1 => ?_)
  refine g_val rfl rfl rfl (fun _ _ => v_assign rfl) ?_
  refine g_val rfl rfl rfl (fun _ _ => v_assign rfl) ?_
  refine g_nil ?_
  refine g_n_then ?_
  refine g_seq ?_
  refine g_region ?_
  refine g_val rfl rfl rfl (fun w hh => v_loadAgg (vs := [_, _, _, _, _]) (Try.isAgg29 w) (Try.sizeOf29 w) rfl (hh.cells 0 rfl rfl)) ?_
  by_cases hc : check L.S = 0
  · have hG := good_of_check hc
    have hfl8 := hG.fl
    have htl12 := hG.tl
    have hsl16 := hG.sl
    refine g_callR (ι := Nat) (p := fun _ => True) (S := fun bd => [(bd, 0, L.cells ++ ints (gatesOf L.S))]) (ret := fun bd => .tuple #[ptr bd 0, .int .i64 0]) rfl rfl rfl rfl rfl rfl rfl (fun a w => Try.call102 a w) (fun w hh => c_openedR L w (hL.ext hh.toExt) hc) (fun bd _ => ?_)
    refine g_val rfl rfl rfl (fun _ _ => v_move rfl) ?_
    refine g_val rfl rfl rfl (fun _ _ => v_extract rfl rfl) ?_
    refine g_val rfl rfl rfl (fun _ _ => v_extract rfl rfl) ?_
    refine g_val rfl rfl rfl (fun _ _ => v_assign rfl) ?_
    refine g_val rfl rfl rfl (fun _ _ => v_assign rfl) ?_
    refine g_nil ?_
    refine g_n_then ?_
    refine g_seq ?_
    refine g_block ?_
    refine g_seq ?_
    refine g_region ?_
    refine g_val rfl rfl rfl (fun _ _ => v_move rfl) ?_
    refine g_val rfl rfl rfl (fun _ _ => v_neq rfl rfl) ?_
    refine g_val rfl rfl rfl (fun _ _ => v_assign rfl) ?_
    refine g_nil ?_
    refine g_n_then ?_
    refine g_condF rfl rfl ?_
    refine g_seq ?_
    refine g_region ?_
    refine g_val rfl rfl rfl (fun _ _ => v_move rfl) ?_
    refine g_val rfl rfl rfl (fun _ _ => v_move rfl) ?_
    refine g_callv rfl rfl rfl rfl rfl rfl rfl (fun a w => Try.call103 a w) (fun w hh => c_day L bd (gatesOf L.S) _ w (hL.ext hh.toExt) hG gates_length (hh.seg 0 rfl)) ?_
    refine g_val rfl rfl rfl (fun _ _ => v_not rfl) ?_
    refine g_val rfl rfl rfl (fun _ _ => v_assign rfl) ?_
    refine g_nil ?_
    refine g_n_then ?_
    refine g_cond rfl (fun hc17_1 => ?_) (fun hc17_1 => ?_)
    · replace hc17_1 := of_not_true hc17_1
      refine g_seq ?_
      refine g_region ?_
      refine g_val rfl rfl rfl (fun _ _ => v_assign rfl) ?_
      refine g_val rfl rfl rfl (fun _ _ => v_assign rfl) ?_
      refine g_nil ?_
      refine g_n_then ?_
      refine g_ret ?_
      refine g_r_blk ?_
      refine g_r_then ?_
      refine g_done rfl (fun w hh => (.tmp rfl (.tmp rfl .nil))) (fun w hh => ⟨?_, hh.toExt⟩)
      simp only [retv, HeightR, *] <;> simp [*]
    · replace hc17_1 := of_not_false hc17_1
      refine g_skip ?_
      refine g_n_blk ?_
      refine g_n_then ?_
      refine g_seq ?_
      refine g_region ?_
      refine g_val rfl rfl rfl (fun _ _ => v_move rfl) ?_
      refine g_val rfl rfl rfl (fun _ _ => v_move rfl) ?_
      refine g_callv rfl rfl rfl rfl rfl rfl rfl (fun a w => Try.call110 a w) (fun w hh => c_height L bd (gatesOf L.S) _ w (hL.ext hh.toExt) hG gates_length (hh.seg 0 rfl) (by assumption)) ?_
      refine g_val rfl rfl rfl (fun _ _ => v_assign rfl) ?_
      refine g_val rfl rfl rfl (fun _ _ => v_assign rfl) ?_
      refine g_nil ?_
      refine g_n_then ?_
      refine g_ret ?_
      refine g_done rfl (fun w hh => (.tmp rfl (.tmp rfl .nil))) (fun w hh => ⟨?_, hh.toExt⟩)
      simp only [retv, HeightR, *] <;> simp [*]
  · refine g_callv rfl rfl rfl rfl rfl rfl rfl (fun a w => Try.call102 a w) (fun w hh => c_openedE L w (hL.ext hh.toExt) hc) ?_
    refine g_val rfl rfl rfl (fun _ _ => v_move rfl) ?_
    refine g_val rfl rfl rfl (fun _ _ => v_extract rfl rfl) ?_
    refine g_val rfl rfl rfl (fun _ _ => v_extract rfl rfl) ?_
    refine g_val rfl rfl rfl (fun _ _ => v_assign rfl) ?_
    refine g_val rfl rfl rfl (fun _ _ => v_assign rfl) ?_
    refine g_nil ?_
    refine g_n_then ?_
    refine g_seq ?_
    refine g_block ?_
    refine g_seq ?_
    refine g_region ?_
    refine g_val rfl rfl rfl (fun _ _ => v_move rfl) ?_
    refine g_val rfl rfl rfl (fun _ _ => v_neq rfl rfl) ?_
    refine g_val rfl rfl rfl (fun _ _ => v_assign rfl) ?_
    refine g_nil ?_
    refine g_n_then ?_
    refine g_condT rfl (neP hc) ?_
    refine g_seq ?_
    refine g_region ?_
    refine g_val rfl rfl rfl (fun _ _ => v_move rfl) ?_
    refine g_val rfl rfl rfl (fun _ _ => v_assign rfl) ?_
    refine g_val rfl rfl rfl (fun _ _ => v_assign rfl) ?_
    refine g_nil ?_
    refine g_n_then ?_
    refine g_ret ?_
    refine g_r_blk ?_
    refine g_r_then ?_
    refine g_done rfl (fun w hh => (.tmp rfl (.tmp rfl .nil))) (fun w hh => ⟨?_, hh.toExt⟩)
    simp only [retv, HeightR, *] <;> simp [*]

set_option maxRecDepth 100000 in
theorem c_At (m p : Int) (L : LS) (w : World) (hL : L.OK w) : Ret Try.prog 46 [L.val, .int .i64 m, .int .i64 p] w (.tuple #[.int .i64 (AtR L.S m p).1, .int .i64 (AtR L.S m p).2]) := by
  have hlt := hL.tl
  have hlf := hL.fl
  have hls := hL.sl
  refine g_enter (args := [L.val, .int .i64 m, .int .i64 p]) Try.func46 rfl Try.ntmps46 rfl (e := [(0, _), (1, _), (2, _)]) rfl (HS.start w [] L.segs hL.segs) ?_
  refine g_seq ?_
  refine g_region ?_
  refine g_box rfl rfl (fun b1 hb1 => ?_)
  refine g_val rfl rfl rfl (fun _ _ => v_assign rfl) ?_
  refine g_val rfl rfl rfl (fun _ _ => v_assign rfl) ?_
  refine g_nil ?_
  refine g_n_then ?_
  refine g_seq ?_
  refine g_region ?_
  refine g_val rfl rfl rfl (fun w hh => v_loadAgg (vs := [_, _, _, _, _]) (Try.isAgg29 w) (Try.sizeOf29 w) rfl (hh.cells 0 rfl rfl)) ?_
  by_cases hc : check L.S = 0
  · have hG := good_of_check hc
    have hfl8 := hG.fl
    have htl12 := hG.tl
    have hsl16 := hG.sl
    refine g_callR (ι := Nat) (p := fun _ => True) (S := fun bd => [(bd, 0, L.cells ++ ints (gatesOf L.S))]) (ret := fun bd => .tuple #[ptr bd 0, .int .i64 0]) rfl rfl rfl rfl rfl rfl rfl (fun a w => Try.call102 a w) (fun w hh => c_openedR L w (hL.ext hh.toExt) hc) (fun bd _ => ?_)
    refine g_val rfl rfl rfl (fun _ _ => v_move rfl) ?_
    refine g_val rfl rfl rfl (fun _ _ => v_extract rfl rfl) ?_
    refine g_val rfl rfl rfl (fun _ _ => v_extract rfl rfl) ?_
    refine g_val rfl rfl rfl (fun _ _ => v_assign rfl) ?_
    refine g_val rfl rfl rfl (fun _ _ => v_assign rfl) ?_
    refine g_nil ?_
    refine g_n_then ?_
    refine g_seq ?_
    refine g_block ?_
    refine g_seq ?_
    refine g_region ?_
    refine g_val rfl rfl rfl (fun _ _ => v_move rfl) ?_
    refine g_val rfl rfl rfl (fun _ _ => v_neq rfl rfl) ?_
    refine g_val rfl rfl rfl (fun _ _ => v_assign rfl) ?_
    refine g_nil ?_
    refine g_n_then ?_
    refine g_condF rfl rfl ?_
    refine g_seq ?_
    refine g_region ?_
    refine g_val rfl rfl rfl (fun _ _ => v_move rfl) ?_
    refine g_val rfl rfl rfl (fun _ _ => v_move rfl) ?_
    refine g_callv rfl rfl rfl rfl rfl rfl rfl (fun a w => Try.call103 a w) (fun w hh => c_day L bd (gatesOf L.S) _ w (hL.ext hh.toExt) hG gates_length (hh.seg 0 rfl)) ?_
    refine g_val rfl rfl rfl (fun _ _ => v_not rfl) ?_
    refine g_val rfl rfl rfl (fun _ _ => v_assign rfl) ?_
    refine g_nil ?_
    refine g_n_then ?_
    refine g_cond rfl (fun hc19_1 => ?_) (fun hc19_1 => ?_)
    · replace hc19_1 := of_not_true hc19_1
      refine g_seq ?_
      refine g_region ?_
      refine g_val rfl rfl rfl (fun _ _ => v_assign rfl) ?_
      refine g_val rfl rfl rfl (fun _ _ => v_assign rfl) ?_
      refine g_nil ?_
      refine g_n_then ?_
      refine g_ret ?_
      refine g_r_blk ?_
      refine g_r_then ?_
      refine g_done rfl (fun w hh => (.tmp rfl (.tmp rfl .nil))) (fun w hh => ⟨?_, hh.toExt⟩)
      simp only [retv, AtR, stateF, *] <;> simp [*]
    · replace hc19_1 := of_not_false hc19_1
      refine g_seq ?_
      refine g_region ?_
      refine g_val rfl rfl rfl (fun _ _ => v_move rfl) ?_
      refine g_val rfl rfl rfl (fun _ _ => v_nilCheck rfl) ?_
      refine g_val rfl rfl rfl (fun w _ => v_fieldAddr 0 (Try.runUnderlying157 w) rfl (Try.sizeOf29 w) rfl) ?_
      refine g_val rfl rfl rfl (fun w hh => v_loadAgg (vs := [_, _, _, _, _]) (Try.isAgg29 w) (Try.sizeOf29 w) rfl (hh.rcells 0 0 rfl rfl)) ?_
      refine g_val rfl rfl rfl (fun _ _ => v_move rfl) ?_
      refine g_callv rfl rfl rfl rfl rfl rfl rfl (fun a w => Try.call89 a w) (fun w hh => c_place _ L w (hL.ext hh.toExt)) ?_
      refine g_val rfl rfl rfl (fun _ _ => v_not rfl) ?_
      refine g_val rfl rfl rfl (fun _ _ => v_assign rfl) ?_
      refine g_nil ?_
      refine g_n_then ?_
      refine g_cond rfl (fun hc24_2 => ?_) (fun hc24_2 => ?_)
      · replace hc24_2 := of_not_true hc24_2
        have hc24_2 := hc24_2
        refine g_seq ?_
        refine g_region ?_
        refine g_val rfl rfl rfl (fun _ _ => v_assign rfl) ?_
        refine g_val rfl rfl rfl (fun _ _ => v_assign rfl) ?_
        refine g_nil ?_
        refine g_n_then ?_
        refine g_ret ?_
        refine g_r_blk ?_
        refine g_r_then ?_
        refine g_done rfl (fun w hh => (.tmp rfl (.tmp rfl .nil))) (fun w hh => ⟨?_, hh.toExt⟩)
        simp only [retv, AtR, stateF, *] <;> simp [*]
      · replace hc24_2 := of_not_false hc24_2
        have hpl := isPlace_iff.1 hc24_2
        refine g_skip ?_
        refine g_n_blk ?_
        refine g_n_then ?_
        refine g_seq ?_
        refine g_region ?_
        refine g_val rfl rfl rfl (fun _ _ => v_move rfl) ?_
        refine g_val rfl rfl rfl (fun _ _ => v_move rfl) ?_
        refine g_val rfl rfl rfl (fun _ _ => v_move rfl) ?_
        refine g_callv rfl rfl rfl rfl rfl rfl rfl (fun a w => Try.call104 a w) (fun w hh => c_at L bd (gatesOf L.S) _ _ w (hL.ext hh.toExt) hG gates_length (hh.seg 0 rfl) (by assumption) (by omega)) ?_
        refine g_val rfl rfl rfl (fun _ _ => v_assign rfl) ?_
        refine g_val rfl rfl rfl (fun _ _ => v_assign rfl) ?_
        refine g_nil ?_
        refine g_n_then ?_
        refine g_ret ?_
        refine g_done rfl (fun w hh => (.tmp rfl (.tmp rfl .nil))) (fun w hh => ⟨?_, hh.toExt⟩)
        simp only [retv, AtR, stateF, *] <;> simp [*]
  · refine g_callv rfl rfl rfl rfl rfl rfl rfl (fun a w => Try.call102 a w) (fun w hh => c_openedE L w (hL.ext hh.toExt) hc) ?_
    refine g_val rfl rfl rfl (fun _ _ => v_move rfl) ?_
    refine g_val rfl rfl rfl (fun _ _ => v_extract rfl rfl) ?_
    refine g_val rfl rfl rfl (fun _ _ => v_extract rfl rfl) ?_
    refine g_val rfl rfl rfl (fun _ _ => v_assign rfl) ?_
    refine g_val rfl rfl rfl (fun _ _ => v_assign rfl) ?_
    refine g_nil ?_
    refine g_n_then ?_
    refine g_seq ?_
    refine g_block ?_
    refine g_seq ?_
    refine g_region ?_
    refine g_val rfl rfl rfl (fun _ _ => v_move rfl) ?_
    refine g_val rfl rfl rfl (fun _ _ => v_neq rfl rfl) ?_
    refine g_val rfl rfl rfl (fun _ _ => v_assign rfl) ?_
    refine g_nil ?_
    refine g_n_then ?_
    refine g_condT rfl (neP hc) ?_
    refine g_seq ?_
    refine g_region ?_
    refine g_val rfl rfl rfl (fun _ _ => v_move rfl) ?_
    refine g_val rfl rfl rfl (fun _ _ => v_assign rfl) ?_
    refine g_val rfl rfl rfl (fun _ _ => v_assign rfl) ?_
    refine g_nil ?_
    refine g_n_then ?_
    refine g_ret ?_
    refine g_r_blk ?_
    refine g_r_then ?_
    refine g_done rfl (fun w hh => (.tmp rfl (.tmp rfl .nil))) (fun w hh => ⟨?_, hh.toExt⟩)
    simp only [retv, AtR, stateF, *] <;> simp [*]

end Go.Proofs

namespace Go.Pl
def statesN (s : Sands) (m : Int) (k : Nat) : List Int := (List.range k).map (fun p => stateF s m (p : Nat))
theorem AllR_states {s : Sands} {m : Int} (hc : check s = 0) (hd : dayF s m = true) : AllR s m = (statesN s m s.floors.length, 0) := by simp [AllR, hc, hd, statesN]
def lookE (s : Sands) : List Look → Int
  | [] => 0
  | l :: r => if dayF s l.min = false then 3 else if isPlace s l.place = false then 1 else lookE s r
def lookedE (s : Sands) (l : List Look) : Int := if check s ≠ 0 then check s else if 10 < l.length then 2 else lookE s l
def mostG (s : Sands) (g : List Int) (l : Look) : Int := if g.getD l.place.toNat 0 = 1000 then 50 else g.getD l.place.toNat 0 - heightF s l.min
def leftStep (s : Sands) (g : List Int) (o : Span) (l : Look) : Span := if l.wet = true then ⟨max o.lo (mostG s g l + 1), o.hi⟩ else ⟨o.lo, min o.hi (mostG s g l)⟩
def leftG (s : Sands) (g : List Int) (l : List Look) : Span := l.foldl (leftStep s g) s.wind
def LooksR (s : Sands) (l : List Look) : Span × Int := if lookedE s l ≠ 0 then (⟨0, 0⟩, lookedE s l) else if (leftG s (gatesOf s) l).hi < (leftG s (gatesOf s) l).lo then (⟨0, 0⟩, 7) else (leftG s (gatesOf s) l, 0)
def lookOK (s : Sands) (l : Look) : Prop := dayF s l.min = true ∧ isPlace s l.place = true
theorem lookE_of {s : Sands} : ∀ {l : List Look} {k : Nat} {v : Int}, k < l.length → (∀ i, i < k → lookOK s (l.getD i default)) → (lookE s ((l.getD k default) :: l.drop (k + 1)) = v) → lookE s l = v
  | [], _, _, h, _, _ => by simp at h
  | x :: l, 0, v, _, _, h => by simpa using h
  | x :: l, k + 1, v, hk, hi, h => by
    have h0 := hi 0 (by omega)
    have := lookE_of (s := s) (l := l) (k := k) (v := v) (by simpa using hk) (fun i h => by simpa using hi (i + 1) (by omega)) (by simpa using h)
    simp only [List.getD_cons_zero] at h0
    simp only [lookE, h0.1, h0.2]
    simpa using this
theorem lookE_ok {s : Sands} : ∀ {l : List Look}, (∀ i, i < l.length → lookOK s (l.getD i default)) → lookE s l = 0
  | [], _ => rfl
  | x :: l, h => by
    have h0 := h 0 (by simp)
    have := lookE_ok (s := s) (l := l) (fun i hi => by simpa using h (i + 1) (by simpa using hi))
    simp only [List.getD_cons_zero] at h0
    simp only [lookE, h0.1, h0.2]
    simpa using this
theorem lookE_all {s : Sands} : ∀ {l : List Look}, lookE s l = 0 → ∀ i, i < l.length → lookOK s (l.getD i default)
  | [], _, i, h => by simp at h
  | x :: l, h, i, hi => by
    unfold lookE at h
    split at h
    · exact absurd h (by decide)
    · split at h
      · exact absurd h (by decide)
      · rename_i h1 h2
        cases i with
        | zero => exact ⟨by simpa using h1, by simpa using h2⟩
        | succ i => simpa using lookE_all h i (by simpa using hi)
theorem gatedE_zero {s : Sands} {p : Int} (h : gatedE s p = 0) : check s = 0 ∧ isPlace s p = true ∧ (gatesOf s).getD p.toNat 0 ≠ 1000 := by
  unfold gatedE at h
  split at h
  · rename_i h1; exact absurd h h1
  · split at h
    · exact absurd h (by decide)
    · split at h
      · exact absurd h (by decide)
      · rename_i h1 h2 h3
        exact ⟨by simpa using h1, by simpa using h2, h3⟩
theorem lookedE_zero {s : Sands} {l : List Look} (h : lookedE s l = 0) : check s = 0 ∧ l.length ≤ 10 ∧ lookE s l = 0 := by
  unfold lookedE at h
  split at h
  · rename_i h1; exact absurd h h1
  · split at h
    · exact absurd h (by decide)
    · rename_i h1 h2
      exact ⟨by simpa using h1, by omega, h⟩
theorem most_bd {s : Sands} {g : List Int} {l : Look} (hG : Good s) (hg : OKg g) (hd : dayF s l.min = true) : -2000000 ≤ mostG s g l ∧ mostG s g l ≤ 2000000 := by
  have h1 := height_bd hG hd
  have h2 := hg.lo l.place.toNat
  have h3 := hg.hi l.place.toNat
  unfold mostG
  split <;> omega
def leftN (s : Sands) (g : List Int) (l : List Look) (k : Nat) : Span := (l.take k).foldl (leftStep s g) s.wind
theorem leftN_succ {s : Sands} {g : List Int} {l : List Look} {k : Nat} (h : k < l.length) : leftN s g l (k + 1) = leftStep s g (leftN s g l k) (l.getD k default) := take_foldl h
theorem leftN_all {s : Sands} {g : List Int} {l : List Look} : leftN s g l l.length = leftG s g l := by simp [leftN, leftG]
theorem lookedE_look {s : Sands} {l : List Look} (hc : check s = 0) (hl : ¬ 10 < l.length) : lookedE s l = lookE s l := by
  unfold lookedE
  rw [if_neg (by simp [hc]), if_neg hl]
end Go.Pl

namespace Go.Pl
structure SpanSt where
  acc : List Span
  fr : Int
  op : Bool
def shutF (x : SpanSt) (m : Int) : SpanSt := match x.op with
  | true => ⟨x.acc ++ [⟨x.fr, m - 1⟩], x.fr, false⟩
  | false => ⟨x.acc, x.fr, false⟩
def spanStep (p : Int → Bool) (x : SpanSt) (m : Int) : SpanSt := match p m with
  | false => shutF x m
  | true => match x.op with
    | false => ⟨x.acc, m, true⟩
    | true => x
def spansN (p : Int → Bool) (a : Int) (k : Nat) : SpanSt := (List.range k).foldl (fun x i => spanStep p x (a + (i : Nat))) ⟨[], 0, false⟩
theorem spansN_succ {p : Int → Bool} {a : Int} {k : Nat} : spansN p a (k + 1) = spanStep p (spansN p a k) (a + k) := by
  unfold spansN
  rw [List.range_succ, List.foldl_append]
  rfl
def dayN (s : Sands) : Nat := (lastM s - firstM s + 1).toNat
def spansF (s : Sands) (p : Int → Bool) : List Span := (shutF (spansN p (firstM s) (dayN s)) (lastM s + 1)).acc
def spansE (s : Sands) (p st : Int) : Int := if check s ≠ 0 then check s else if isPlace s p = false then 1 else if inr st 0 2 = false then 8 else 0
def isState (s : Sands) (p st : Int) (m : Int) : Bool := decide (stateF s m p = st)
def SpansR (s : Sands) (p st : Int) : List Span × Int := if spansE s p st ≠ 0 then ([], spansE s p st) else (spansF s (isState s p st), 0)
def TurnR (s : Sands) (p m : Int) : Int × Int :=
  if spansE s p 0 ≠ 0 then (0, spansE s p 0) else if dayF s m = false then (0, 3) else
  if idxf (fun x => inr m x.lo x.hi) (spansF s (isState s p 0)) < 0 then (0, 6) else (((spansF s (isState s p 0)).getD (idxf (fun x => inr m x.lo x.hi) (spansF s (isState s p 0))).toNat default).hi, 0)
theorem spansE_zero {s : Sands} {p st : Int} (h : spansE s p st = 0) : check s = 0 ∧ isPlace s p = true ∧ inr st 0 2 = true := by
  unfold spansE at h
  split at h
  · rename_i h1; exact absurd h h1
  · split at h
    · exact absurd h (by decide)
    · split at h
      · exact absurd h (by decide)
      · rename_i h1 h2 h3
        exact ⟨by simpa using h1, by simpa using h2, by simpa using h3⟩
theorem day_span {s : Sands} (hG : Good s) : 0 ≤ firstM s ∧ firstM s < lastM s ∧ lastM s ≤ 1440 := by
  have h2 := hG.tl
  have h3 := hG.tab 0 (by omega)
  have h4 := hG.tab (s.table.length - 1) (by omega)
  have h5 := min_mono hG (i := 0) (j := s.table.length - 1) (by omega) (by omega)
  unfold firstM lastM
  omega
theorem dayN_eq {s : Sands} (hG : Good s) : (dayN s : Int) = lastM s - firstM s + 1 ∧ dayN s ≤ 1441 := by
  have := day_span hG
  unfold dayN
  omega
theorem day_of {s : Sands} {m : Int} (h : firstM s ≤ m ∧ m ≤ lastM s) : dayF s m = true := inr_iff.2 h
theorem shut_len {x : SpanSt} {m : Int} : (shutF x m).acc.length ≤ x.acc.length + 1 := by
  unfold shutF; split <;> simp
theorem step_len {p : Int → Bool} {x : SpanSt} {m : Int} : (spanStep p x m).acc.length ≤ x.acc.length + 1 := by
  unfold spanStep
  split
  · exact shut_len
  · split <;> simp
theorem spansN_len {p : Int → Bool} {a : Int} : ∀ {k : Nat}, (spansN p a k).acc.length ≤ k := by
  intro k
  induction k with
  | zero => simp [spansN]
  | succ k ih => rw [spansN_succ]; have := step_len (p := p) (x := spansN p a k) (m := a + k); omega
theorem spansF_len {s : Sands} {p : Int → Bool} (hG : Good s) : (spansF s p).length ≤ 1442 := by
  have h1 := (dayN_eq hG).2
  have h2 := spansN_len (p := p) (a := firstM s) (k := dayN s)
  have h3 := shut_len (x := spansN p (firstM s) (dayN s)) (m := lastM s + 1)
  unfold spansF
  omega
theorem stepF {p : Int → Bool} {x : SpanSt} {m : Int} (h : p m = false) : spanStep p x m = shutF x m := by unfold spanStep; rw [h]
theorem stepTF {p : Int → Bool} {x : SpanSt} {m : Int} (h : p m = true) (h2 : x.op = false) : spanStep p x m = ⟨x.acc, m, true⟩ := by unfold spanStep; rw [h]; simp only; rw [h2]
theorem stepTT {p : Int → Bool} {x : SpanSt} {m : Int} (h : p m = true) (h2 : x.op = true) : spanStep p x m = x := by unfold spanStep; rw [h]; simp only; rw [h2]
end Go.Pl

namespace Go.Proofs
open Go Go.Fw Go.Pl
theorem ints_snoc {l : List Int} {v : Int} : ints l ++ [.int .i64 v] = ints (l ++ [v]) := by simp [ints]
theorem statesN_snoc {s : Sands} {m : Int} {k : Nat} : ints (statesN s m k) ++ [.int .i64 (stateG s ((gatesOf s).getD (k : Int).toNat 0) m)] = ints (statesN s m (k + 1)) := by
  rw [ints_snoc]; simp [statesN, List.range_succ, stateF]
theorem statesN_length {s : Sands} {m : Int} {k : Nat} : (statesN s m k).length = k := by simp [statesN]
structure SlOK (q : Option (Nat × Nat)) (len cap : Nat) : Prop where
  ne : 0 < len → q ≠ none
  le : len ≤ cap
theorem _root_.Go.Fw.VOK.sl {sz len cap : Nat} {xs sp : List Value} {q : Option (Nat × Nat)} (h : VOK sz len cap xs sp q) : SlOK q len cap := ⟨fun h0 hq => by have := (h.hnone hq).1; omega, h.hle⟩
theorem SlOK.nil : SlOK none 0 0 := ⟨by simp, by simp⟩
end Go.Proofs
namespace Go.Proofs
open Go Go.Fw Go.Pl
theorem flat_snoc {α : Type} {enc : α → List Value} {l : List α} {x : α} : flat enc l ++ enc x = flat enc (l ++ [x]) := by simp [flat]
theorem perm_call {α : Type} {A B V : List α} : ((B ++ A) ++ (V ++ [])).Perm (B ++ (V ++ A)) := by
  rw [List.append_nil, List.append_assoc]; exact List.Perm.append_left B List.perm_append_comm
theorem vok_len {n cap sz : Nat} {sp : List Value} {q : Option (Nat × Nat)} {α : Type} {enc : α → List Value} {l : List α} (hs : ∀ x, (enc x).length = sz) (h0 : 0 < sz) (h : VOK sz n cap (flat enc l) sp q) : l.length = n := by
  have := h.hlen
  rw [flat_length hs] at this
  exact Nat.eq_of_mul_eq_mul_right h0 this
end Go.Proofs

namespace Go.Proofs
open Go Go.Fw Go.Pl
set_option maxRecDepth 100000 in
theorem inf46 : (Try.prog.info? 46).map (fun i => (i.zero, i.size, i.bytes)) = some (some (.int .i64 0), 1, 8) := by kernel_rfl
set_option maxRecDepth 100000 in
theorem c_gatedR (p : Int) (L : LS) (w : World) (hL : L.OK w) (h : gatedE L.S p = 0) : Calls Try.prog 106 #[L.val, .int .i64 p] w (fun en w' => ∃ bd : Nat, en = .returned (.tuple #[ptr bd 0, .int .i64 0]) ∧ True ∧ News w w' [(bd, 0, L.cells ++ ints (gatesOf L.S))]) := by
  have hlt := hL.tl
  have hlf := hL.fl
  have hls := hL.sl
  refine g_enter (args := [L.val, .int .i64 p]) Try.func106 rfl Try.ntmps106 rfl (e := [(0, _), (1, _)]) rfl (HS.start w [] L.segs hL.segs) ?_
  refine g_seq ?_
  refine g_region ?_
  refine g_box rfl rfl (fun b1 hb1 => ?_)
  refine g_val rfl rfl rfl (fun _ _ => v_assign rfl) ?_
  refine g_val rfl rfl rfl (fun _ _ => v_assign rfl) ?_
  refine g_nil ?_
  refine g_n_then ?_
  refine g_seq ?_
  refine g_region ?_
  refine g_val rfl rfl rfl (fun w hh => v_loadAgg (vs := [_, _, _, _, _]) (Try.isAgg29 w) (Try.sizeOf29 w) rfl (hh.cells 0 rfl rfl)) ?_
  by_cases hc : check L.S = 0
  · have hG := good_of_check hc
    have hfl8 := hG.fl
    have htl12 := hG.tl
    have hsl16 := hG.sl
    refine g_callR (ι := Nat) (p := fun bd => w.heap.size ≤ bd) (S := fun bd => [(bd, 0, L.cells ++ ints (gatesOf L.S))]) (ret := fun bd => .tuple #[ptr bd 0, .int .i64 0]) rfl rfl rfl rfl rfl rfl rfl (fun a w => Try.call102 a w) (fun w1 hh => (c_openedR L w1 (hL.ext hh.toExt) hc).mono (by rintro en w' ⟨bd, rfl, _, hN⟩; exact ⟨bd, rfl, Nat.le_trans hh.size (hN.new _ List.mem_cons_self (by simp [LS.cells])), hN⟩)) (fun bd hbdn => ?_)
    refine g_val rfl rfl rfl (fun _ _ => v_move rfl) ?_
    refine g_val rfl rfl rfl (fun _ _ => v_extract rfl rfl) ?_
    refine g_val rfl rfl rfl (fun _ _ => v_extract rfl rfl) ?_
    refine g_val rfl rfl rfl (fun _ _ => v_assign rfl) ?_
    refine g_val rfl rfl rfl (fun _ _ => v_assign rfl) ?_
    refine g_nil ?_
    refine g_n_then ?_
    refine g_seq ?_
    refine g_block ?_
    refine g_seq ?_
    refine g_region ?_
    refine g_val rfl rfl rfl (fun _ _ => v_move rfl) ?_
    refine g_val rfl rfl rfl (fun _ _ => v_neq rfl rfl) ?_
    refine g_val rfl rfl rfl (fun _ _ => v_assign rfl) ?_
    refine g_nil ?_
    refine g_n_then ?_
    refine g_condF rfl rfl ?_
    refine g_seq ?_
    refine g_region ?_
    refine g_val rfl rfl rfl (fun _ _ => v_move rfl) ?_
    refine g_val rfl rfl rfl (fun _ _ => v_nilCheck rfl) ?_
    refine g_val rfl rfl rfl (fun w _ => v_fieldAddr 0 (Try.runUnderlying157 w) rfl (Try.sizeOf29 w) rfl) ?_
    refine g_val rfl rfl rfl (fun w hh => v_loadAgg (vs := [_, _, _, _, _]) (Try.isAgg29 w) (Try.sizeOf29 w) rfl (hh.rcells 0 0 rfl rfl)) ?_
    refine g_val rfl rfl rfl (fun _ _ => v_move rfl) ?_
    refine g_callv rfl rfl rfl rfl rfl rfl rfl (fun a w => Try.call89 a w) (fun w hh => c_place _ L w (hL.ext hh.toExt)) ?_
    refine g_val rfl rfl rfl (fun _ _ => v_not rfl) ?_
    refine g_val rfl rfl rfl (fun _ _ => v_assign rfl) ?_
    refine g_nil ?_
    refine g_n_then ?_
    refine g_cond rfl (fun hc17_1 => ?_) (fun hc17_1 => ?_)
    · replace hc17_1 := of_not_true hc17_1
      have hc17_1 := hc17_1
      refine g_seq ?_
      refine g_region ?_
      refine g_val rfl rfl rfl (fun _ _ => v_assign rfl) ?_
      refine g_val rfl rfl rfl (fun _ _ => v_assign rfl) ?_
      refine g_nil ?_
      refine g_n_then ?_
      refine g_ret ?_
      refine g_r_blk ?_
      refine g_r_then ?_
      exact absurd h (by simp only [gatedE, *, ne_eq, not_true_eq_false, not_false_eq_true, if_false, if_true, reduceIte] <;> simp)
    · replace hc17_1 := of_not_false hc17_1
      have hpl := isPlace_iff.1 hc17_1
      refine g_seq ?_
      refine g_region ?_
      refine g_val rfl rfl rfl (fun _ _ => v_move rfl) ?_
      refine g_val rfl rfl rfl (fun _ _ => v_move rfl) ?_
      refine g_val rfl rfl rfl (fun _ _ => v_nilCheck rfl) ?_
      refine g_val rfl rfl rfl (fun w _ => v_fieldAddr 5 (Try.runUnderlying157 w) rfl (Try.sizeOf155 w) rfl) ?_
      refine g_val rfl rfl rfl (fun w _ => v_arrI1 (Try.runUnderlying155 w) (Try.sizeOf3 w) rfl rfl (by omega) (by omega)) ?_
      refine g_val rfl rfl rfl (fun w hh => v_load (Try.isAgg3 w) rfl (hh.rgate 0 rfl (by rw [gates_length]; omega))) ?_
      refine g_val rfl rfl rfl (fun _ _ => v_eql rfl rfl) ?_
      refine g_val rfl rfl rfl (fun _ _ => v_assign rfl) ?_
      refine g_nil ?_
      refine g_n_then ?_
      refine g_cond rfl (fun hc25_2 => ?_) (fun hc25_2 => ?_)
      · replace hc25_2 := of_decide_eq_true hc25_2
        refine g_seq ?_
        refine g_region ?_
        refine g_val rfl rfl rfl (fun _ _ => v_assign rfl) ?_
        refine g_val rfl rfl rfl (fun _ _ => v_assign rfl) ?_
        refine g_nil ?_
        refine g_n_then ?_
        refine g_ret ?_
        refine g_r_blk ?_
        refine g_r_then ?_
        exact absurd h (by simp only [gatedE, *, ne_eq, not_true_eq_false, not_false_eq_true, if_false, if_true, reduceIte] <;> simp)
      · replace hc25_2 := of_decide_eq_false hc25_2
        refine g_skip ?_
        refine g_n_blk ?_
        refine g_n_then ?_
        refine g_seq ?_
        refine g_region ?_
        refine g_val rfl rfl rfl (fun _ _ => v_move rfl) ?_
        refine g_val rfl rfl rfl (fun _ _ => v_assign rfl) ?_
        refine g_val rfl rfl rfl (fun _ _ => v_assign rfl) ?_
        refine g_nil ?_
        refine g_n_then ?_
        refine g_ret ?_
        refine g_done rfl (fun w hh => (.tmp rfl (.tmp rfl .nil))) (fun w hh => ⟨_, rfl, trivial, (News.nil hh.toExt).cons (hh.seg 0 rfl) (fun _ => by assumption)⟩)
  · refine g_callv rfl rfl rfl rfl rfl rfl rfl (fun a w => Try.call102 a w) (fun w hh => c_openedE L w (hL.ext hh.toExt) hc) ?_
    refine g_val rfl rfl rfl (fun _ _ => v_move rfl) ?_
    refine g_val rfl rfl rfl (fun _ _ => v_extract rfl rfl) ?_
    refine g_val rfl rfl rfl (fun _ _ => v_extract rfl rfl) ?_
    refine g_val rfl rfl rfl (fun _ _ => v_assign rfl) ?_
    refine g_val rfl rfl rfl (fun _ _ => v_assign rfl) ?_
    refine g_nil ?_
    refine g_n_then ?_
    refine g_seq ?_
    refine g_block ?_
    refine g_seq ?_
    refine g_region ?_
    refine g_val rfl rfl rfl (fun _ _ => v_move rfl) ?_
    refine g_val rfl rfl rfl (fun _ _ => v_neq rfl rfl) ?_
    refine g_val rfl rfl rfl (fun _ _ => v_assign rfl) ?_
    refine g_nil ?_
    refine g_n_then ?_
    refine g_condT rfl (neP hc) ?_
    refine g_seq ?_
    refine g_region ?_
    refine g_val rfl rfl rfl (fun _ _ => v_move rfl) ?_
    refine g_val rfl rfl rfl (fun _ _ => v_assign rfl) ?_
    refine g_val rfl rfl rfl (fun _ _ => v_assign rfl) ?_
    refine g_nil ?_
    refine g_n_then ?_
    refine g_ret ?_
    refine g_r_blk ?_
    refine g_r_then ?_
    exact absurd h (by simp only [gatedE, *, ne_eq, not_true_eq_false, not_false_eq_true, if_false, if_true, reduceIte] <;> simp)

set_option maxRecDepth 100000 in
theorem c_gatedE (p : Int) (L : LS) (w : World) (hL : L.OK w) (h : gatedE L.S p ≠ 0) : Ret Try.prog 106 [L.val, .int .i64 p] w (.tuple #[.pointer none, .int .i64 (gatedE L.S p)]) := by
  have hlt := hL.tl
  have hlf := hL.fl
  have hls := hL.sl
  refine g_enter (args := [L.val, .int .i64 p]) Try.func106 rfl Try.ntmps106 rfl (e := [(0, _), (1, _)]) rfl (HS.start w [] L.segs hL.segs) ?_
  refine g_seq ?_
  refine g_region ?_
  refine g_box rfl rfl (fun b1 hb1 => ?_)
  refine g_val rfl rfl rfl (fun _ _ => v_assign rfl) ?_
  refine g_val rfl rfl rfl (fun _ _ => v_assign rfl) ?_
  refine g_nil ?_
  refine g_n_then ?_
  refine g_seq ?_
  refine g_region ?_
  refine g_val rfl rfl rfl (fun w hh => v_loadAgg (vs := [_, _, _, _, _]) (Try.isAgg29 w) (Try.sizeOf29 w) rfl (hh.cells 0 rfl rfl)) ?_
  by_cases hc : check L.S = 0
  · have hG := good_of_check hc
    have hfl8 := hG.fl
    have htl12 := hG.tl
    have hsl16 := hG.sl
    refine g_callR (ι := Nat) (p := fun bd => w.heap.size ≤ bd) (S := fun bd => [(bd, 0, L.cells ++ ints (gatesOf L.S))]) (ret := fun bd => .tuple #[ptr bd 0, .int .i64 0]) rfl rfl rfl rfl rfl rfl rfl (fun a w => Try.call102 a w) (fun w1 hh => (c_openedR L w1 (hL.ext hh.toExt) hc).mono (by rintro en w' ⟨bd, rfl, _, hN⟩; exact ⟨bd, rfl, Nat.le_trans hh.size (hN.new _ List.mem_cons_self (by simp [LS.cells])), hN⟩)) (fun bd hbdn => ?_)
    refine g_val rfl rfl rfl (fun _ _ => v_move rfl) ?_
    refine g_val rfl rfl rfl (fun _ _ => v_extract rfl rfl) ?_
    refine g_val rfl rfl rfl (fun _ _ => v_extract rfl rfl) ?_
    refine g_val rfl rfl rfl (fun _ _ => v_assign rfl) ?_
    refine g_val rfl rfl rfl (fun _ _ => v_assign rfl) ?_
    refine g_nil ?_
    refine g_n_then ?_
    refine g_seq ?_
    refine g_block ?_
    refine g_seq ?_
    refine g_region ?_
    refine g_val rfl rfl rfl (fun _ _ => v_move rfl) ?_
    refine g_val rfl rfl rfl (fun _ _ => v_neq rfl rfl) ?_
    refine g_val rfl rfl rfl (fun _ _ => v_assign rfl) ?_
    refine g_nil ?_
    refine g_n_then ?_
    refine g_condF rfl rfl ?_
    refine g_seq ?_
    refine g_region ?_
    refine g_val rfl rfl rfl (fun _ _ => v_move rfl) ?_
    refine g_val rfl rfl rfl (fun _ _ => v_nilCheck rfl) ?_
    refine g_val rfl rfl rfl (fun w _ => v_fieldAddr 0 (Try.runUnderlying157 w) rfl (Try.sizeOf29 w) rfl) ?_
    refine g_val rfl rfl rfl (fun w hh => v_loadAgg (vs := [_, _, _, _, _]) (Try.isAgg29 w) (Try.sizeOf29 w) rfl (hh.rcells 0 0 rfl rfl)) ?_
    refine g_val rfl rfl rfl (fun _ _ => v_move rfl) ?_
    refine g_callv rfl rfl rfl rfl rfl rfl rfl (fun a w => Try.call89 a w) (fun w hh => c_place _ L w (hL.ext hh.toExt)) ?_
    refine g_val rfl rfl rfl (fun _ _ => v_not rfl) ?_
    refine g_val rfl rfl rfl (fun _ _ => v_assign rfl) ?_
    refine g_nil ?_
    refine g_n_then ?_
    refine g_cond rfl (fun hc17_1 => ?_) (fun hc17_1 => ?_)
    · replace hc17_1 := of_not_true hc17_1
      have hc17_1 := hc17_1
      refine g_seq ?_
      refine g_region ?_
      refine g_val rfl rfl rfl (fun _ _ => v_assign rfl) ?_
      refine g_val rfl rfl rfl (fun _ _ => v_assign rfl) ?_
      refine g_nil ?_
      refine g_n_then ?_
      refine g_ret ?_
      refine g_r_blk ?_
      refine g_r_then ?_
      refine g_done rfl (fun w hh => (.tmp rfl (.tmp rfl .nil))) (fun w hh => ⟨?_, hh.toExt⟩)
      simp only [retv, gatedE, *] <;> simp [*]
    · replace hc17_1 := of_not_false hc17_1
      have hpl := isPlace_iff.1 hc17_1
      refine g_seq ?_
      refine g_region ?_
      refine g_val rfl rfl rfl (fun _ _ => v_move rfl) ?_
      refine g_val rfl rfl rfl (fun _ _ => v_move rfl) ?_
      refine g_val rfl rfl rfl (fun _ _ => v_nilCheck rfl) ?_
      refine g_val rfl rfl rfl (fun w _ => v_fieldAddr 5 (Try.runUnderlying157 w) rfl (Try.sizeOf155 w) rfl) ?_
      refine g_val rfl rfl rfl (fun w _ => v_arrI1 (Try.runUnderlying155 w) (Try.sizeOf3 w) rfl rfl (by omega) (by omega)) ?_
      refine g_val rfl rfl rfl (fun w hh => v_load (Try.isAgg3 w) rfl (hh.rgate 0 rfl (by rw [gates_length]; omega))) ?_
      refine g_val rfl rfl rfl (fun _ _ => v_eql rfl rfl) ?_
      refine g_val rfl rfl rfl (fun _ _ => v_assign rfl) ?_
      refine g_nil ?_
      refine g_n_then ?_
      refine g_cond rfl (fun hc25_2 => ?_) (fun hc25_2 => ?_)
      · replace hc25_2 := of_decide_eq_true hc25_2
        refine g_seq ?_
        refine g_region ?_
        refine g_val rfl rfl rfl (fun _ _ => v_assign rfl) ?_
        refine g_val rfl rfl rfl (fun _ _ => v_assign rfl) ?_
        refine g_nil ?_
        refine g_n_then ?_
        refine g_ret ?_
        refine g_r_blk ?_
        refine g_r_then ?_
        refine g_done rfl (fun w hh => (.tmp rfl (.tmp rfl .nil))) (fun w hh => ⟨?_, hh.toExt⟩)
        simp only [retv, gatedE, *] <;> simp [*]
      · replace hc25_2 := of_decide_eq_false hc25_2
        refine g_skip ?_
        refine g_n_blk ?_
        refine g_n_then ?_
        refine g_seq ?_
        refine g_region ?_
        refine g_val rfl rfl rfl (fun _ _ => v_move rfl) ?_
        refine g_val rfl rfl rfl (fun _ _ => v_assign rfl) ?_
        refine g_val rfl rfl rfl (fun _ _ => v_assign rfl) ?_
        refine g_nil ?_
        refine g_n_then ?_
        refine g_ret ?_
        exact absurd (show gatedE L.S p = 0 by simp only [gatedE, *] <;> simp [*]) h
  · refine g_callv rfl rfl rfl rfl rfl rfl rfl (fun a w => Try.call102 a w) (fun w hh => c_openedE L w (hL.ext hh.toExt) hc) ?_
    refine g_val rfl rfl rfl (fun _ _ => v_move rfl) ?_
    refine g_val rfl rfl rfl (fun _ _ => v_extract rfl rfl) ?_
    refine g_val rfl rfl rfl (fun _ _ => v_extract rfl rfl) ?_
    refine g_val rfl rfl rfl (fun _ _ => v_assign rfl) ?_
    refine g_val rfl rfl rfl (fun _ _ => v_assign rfl) ?_
    refine g_nil ?_
    refine g_n_then ?_
    refine g_seq ?_
    refine g_block ?_
    refine g_seq ?_
    refine g_region ?_
    refine g_val rfl rfl rfl (fun _ _ => v_move rfl) ?_
    refine g_val rfl rfl rfl (fun _ _ => v_neq rfl rfl) ?_
    refine g_val rfl rfl rfl (fun _ _ => v_assign rfl) ?_
    refine g_nil ?_
    refine g_n_then ?_
    refine g_condT rfl (neP hc) ?_
    refine g_seq ?_
    refine g_region ?_
    refine g_val rfl rfl rfl (fun _ _ => v_move rfl) ?_
    refine g_val rfl rfl rfl (fun _ _ => v_assign rfl) ?_
    refine g_val rfl rfl rfl (fun _ _ => v_assign rfl) ?_
    refine g_nil ?_
    refine g_n_then ?_
    refine g_ret ?_
    refine g_r_blk ?_
    refine g_r_then ?_
    refine g_done rfl (fun w hh => (.tmp rfl (.tmp rfl .nil))) (fun w hh => ⟨?_, hh.toExt⟩)
    simp only [retv, gatedE, *] <;> simp [*]

set_option maxRecDepth 100000 in
theorem c_Gate (p : Int) (L : LS) (w : World) (hL : L.OK w) : Ret Try.prog 31 [L.val, .int .i64 p] w (.tuple #[.int .i64 (GateR L.S p).1, .int .i64 (GateR L.S p).2]) := by
  have hlt := hL.tl
  have hlf := hL.fl
  have hls := hL.sl
  refine g_enter (args := [L.val, .int .i64 p]) Try.func31 rfl Try.ntmps31 rfl (e := [(0, _), (1, _)]) rfl (HS.start w [] L.segs hL.segs) ?_
  refine g_seq ?_
  refine g_region ?_
  refine g_box rfl rfl (fun b1 hb1 => ?_)
  refine g_val rfl rfl rfl (fun _ _ => v_assign rfl) ?_
  refine g_val rfl rfl rfl (fun _ _ => v_assign rfl) ?_
  refine g_nil ?_
  refine g_n_then ?_
  refine g_seq ?_
  refine g_region ?_
  refine g_val rfl rfl rfl (fun w hh => v_loadAgg (vs := [_, _, _, _, _]) (Try.isAgg29 w) (Try.sizeOf29 w) rfl (hh.cells 0 rfl rfl)) ?_
  refine g_val rfl rfl rfl (fun _ _ => v_move rfl) ?_
  by_cases hg : gatedE L.S p = 0
  · have hc := (gatedE_zero hg).1
    have hpl := isPlace_iff.1 (gatedE_zero hg).2.1
    have hG := good_of_check hc
    have hfl8 := hG.fl
    have htl12 := hG.tl
    have hsl16 := hG.sl
    refine g_callR (ι := Nat) (p := fun _ => True) (S := fun bd => [(bd, 0, L.cells ++ ints (gatesOf L.S))]) (ret := fun bd => .tuple #[ptr bd 0, .int .i64 0]) rfl rfl rfl rfl rfl rfl rfl (fun a w => Try.call106 a w) (fun w hh => c_gatedR p L w (hL.ext hh.toExt) hg) (fun bd _ => ?_)
    refine g_val rfl rfl rfl (fun _ _ => v_move rfl) ?_
    refine g_val rfl rfl rfl (fun _ _ => v_extract rfl rfl) ?_
    refine g_val rfl rfl rfl (fun _ _ => v_extract rfl rfl) ?_
    refine g_val rfl rfl rfl (fun _ _ => v_assign rfl) ?_
    refine g_val rfl rfl rfl (fun _ _ => v_assign rfl) ?_
    refine g_nil ?_
    refine g_n_then ?_
    refine g_seq ?_
    refine g_seq ?_
    refine g_region ?_
    refine g_val rfl rfl rfl (fun _ _ => v_move rfl) ?_
    refine g_val rfl rfl rfl (fun _ _ => v_neq rfl rfl) ?_
    refine g_nil ?_
    refine g_n_then ?_
    refine g_condF rfl rfl ?_
    refine g_skip ?_
    refine g_n_then ?_
    refine g_seq ?_
    refine g_region ?_
    refine g_val rfl rfl rfl (fun _ _ => v_move rfl) ?_
    refine g_val rfl rfl rfl (fun _ _ => v_move rfl) ?_
    refine g_val rfl rfl rfl (fun _ _ => v_nilCheck rfl) ?_
    refine g_val rfl rfl rfl (fun w _ => v_fieldAddr 5 (Try.runUnderlying157 w) rfl (Try.sizeOf155 w) rfl) ?_
    refine g_val rfl rfl rfl (fun w _ => v_arrI1 (Try.runUnderlying155 w) (Try.sizeOf3 w) rfl rfl (by omega) (by omega)) ?_
    refine g_val rfl rfl rfl (fun w hh => v_load (Try.isAgg3 w) rfl (hh.rgate 0 rfl (by rw [gates_length]; omega))) ?_
    refine g_val rfl rfl rfl (fun _ _ => v_assign rfl) ?_
    refine g_val rfl rfl rfl (fun _ _ => v_assign rfl) ?_
    refine g_nil ?_
    refine g_n_then ?_
    refine g_ret ?_
    refine g_done rfl (fun w hh => (.tmp rfl (.tmp rfl .nil))) (fun w hh => ⟨?_, hh.toExt⟩)
    simp only [retv, GateR, *] <;> simp [*]
  · refine g_callv rfl rfl rfl rfl rfl rfl rfl (fun a w => Try.call106 a w) (fun w hh => c_gatedE p L w (hL.ext hh.toExt) hg) ?_
    refine g_val rfl rfl rfl (fun _ _ => v_move rfl) ?_
    refine g_val rfl rfl rfl (fun _ _ => v_extract rfl rfl) ?_
    refine g_val rfl rfl rfl (fun _ _ => v_extract rfl rfl) ?_
    refine g_val rfl rfl rfl (fun _ _ => v_assign rfl) ?_
    refine g_val rfl rfl rfl (fun _ _ => v_assign rfl) ?_
    refine g_nil ?_
    refine g_n_then ?_
    refine g_seq ?_
    refine g_seq ?_
    refine g_region ?_
    refine g_val rfl rfl rfl (fun _ _ => v_move rfl) ?_
    refine g_val rfl rfl rfl (fun _ _ => v_neq rfl rfl) ?_
    refine g_nil ?_
    refine g_n_then ?_
    refine g_condT rfl (neP hg) ?_
    refine g_seq ?_
    refine g_region ?_
    refine g_val rfl rfl rfl (fun _ _ => v_move rfl) ?_
    refine g_val rfl rfl rfl (fun _ _ => v_assign rfl) ?_
    refine g_val rfl rfl rfl (fun _ _ => v_assign rfl) ?_
    refine g_nil ?_
    refine g_n_then ?_
    refine g_ret ?_
    refine g_r_then ?_
    refine g_done rfl (fun w hh => (.tmp rfl (.tmp rfl .nil))) (fun w hh => ⟨?_, hh.toExt⟩)
    simp only [retv, GateR, *] <;> simp [*]

set_option maxRecDepth 100000 in
theorem c_All (m : Int) (L : LS) (w : World) (hL : L.OK w) : Calls Try.prog 28 #[L.val, .int .i64 m] w (fun en w' => ∃ q cap, en = .returned (.tuple #[slv q (AllR L.S m).1.length cap, .int .i64 (AllR L.S m).2]) ∧ SlOK q (AllR L.S m).1.length cap ∧ News w w' [(bk q, off q, ints (AllR L.S m).1)]) := by
  have hlt := hL.tl
  have hlf := hL.fl
  have hls := hL.sl
  refine g_enter (args := [L.val, .int .i64 m]) Try.func28 rfl Try.ntmps28 rfl (e := [(0, _), (1, _)]) rfl (HS.start w [] L.segs hL.segs) ?_
  refine g_seq ?_
  refine g_region ?_
  refine g_box rfl rfl (fun b1 hb1 => ?_)
  refine g_val rfl rfl rfl (fun _ _ => v_nilSlice rfl rfl) ?_
  refine g_val rfl rfl rfl (fun _ _ => v_assign rfl) ?_
  refine g_nil ?_
  refine g_n_then ?_
  refine g_seq ?_
  refine g_region ?_
  refine g_val rfl rfl rfl (fun w hh => v_loadAgg (vs := [_, _, _, _, _]) (Try.isAgg29 w) (Try.sizeOf29 w) rfl (hh.cells 0 rfl rfl)) ?_
  by_cases hc : check L.S = 0
  · have hG := good_of_check hc
    have hfl8 := hG.fl
    have htl12 := hG.tl
    have hsl16 := hG.sl
    refine g_callR (ι := Nat) (p := fun _ => True) (S := fun bd => [(bd, 0, L.cells ++ ints (gatesOf L.S))]) (ret := fun bd => .tuple #[ptr bd 0, .int .i64 0]) rfl rfl rfl rfl rfl rfl rfl (fun a w => Try.call102 a w) (fun w hh => c_openedR L w (hL.ext hh.toExt) hc) (fun bd _ => ?_)
    refine g_val rfl rfl rfl (fun _ _ => v_move rfl) ?_
    refine g_val rfl rfl rfl (fun _ _ => v_extract rfl rfl) ?_
    refine g_val rfl rfl rfl (fun _ _ => v_extract rfl rfl) ?_
    refine g_val rfl rfl rfl (fun _ _ => v_assign rfl) ?_
    refine g_val rfl rfl rfl (fun _ _ => v_assign rfl) ?_
    refine g_nil ?_
    refine g_n_then ?_
    refine g_seq ?_
    refine g_block ?_
    refine g_seq ?_
    refine g_region ?_
    refine g_val rfl rfl rfl (fun _ _ => v_move rfl) ?_
    refine g_val rfl rfl rfl (fun _ _ => v_neq rfl rfl) ?_
    refine g_val rfl rfl rfl (fun _ _ => v_assign rfl) ?_
    refine g_nil ?_
    refine g_n_then ?_
    refine g_condF rfl rfl ?_
    refine g_seq ?_
    refine g_region ?_
    refine g_val rfl rfl rfl (fun _ _ => v_move rfl) ?_
    refine g_val rfl rfl rfl (fun _ _ => v_move rfl) ?_
    refine g_callv rfl rfl rfl rfl rfl rfl rfl (fun a w => Try.call103 a w) (fun w hh => c_day L bd (gatesOf L.S) _ w (hL.ext hh.toExt) hG gates_length (hh.seg 0 rfl)) ?_
    refine g_val rfl rfl rfl (fun _ _ => v_not rfl) ?_
    refine g_val rfl rfl rfl (fun _ _ => v_assign rfl) ?_
    refine g_nil ?_
    refine g_n_then ?_
    refine g_cond rfl (fun hc19_1 => ?_) (fun hc19_1 => ?_)
    · replace hc19_1 := of_not_true hc19_1
      refine g_seq ?_
      refine g_region ?_
      refine g_val rfl rfl rfl (fun _ _ => v_nilSlice rfl rfl) ?_
      refine g_val rfl rfl rfl (fun _ _ => v_assign rfl) ?_
      refine g_nil ?_
      refine g_n_then ?_
      refine g_ret ?_
      refine g_r_blk ?_
      refine g_r_then ?_
      refine g_done rfl (fun w hh => (.tmp rfl (.tmp rfl .nil))) (fun w hh => ?_)
      have ea : AllR L.S m = ([], 3) := by simp only [AllR, *, ne_eq, not_true_eq_false, not_false_eq_true, if_false, if_true, reduceIte]
      rw [ea]
      exact ⟨none, 0, rfl, .nil, (News.nil hh.toExt).cons segOK.nil (fun h => absurd rfl h)⟩
    · replace hc19_1 := of_not_false hc19_1
      refine g_skip ?_
      refine g_n_blk ?_
      refine g_n_then ?_
      refine g_seq ?_
      refine g_region ?_
      refine g_val rfl rfl rfl (fun _ _ => v_nilSlice rfl rfl) ?_
      refine g_nil ?_
      refine g_n_then ?_
      refine g_seq ?_
      refine g_seq ?_
      refine g_region ?_
      refine g_val rfl rfl rfl (fun w _ => v_fieldAddr 3 (Try.runUnderlying29 w) rfl (Try.sizeOf26 w) rfl) ?_
      refine g_val rfl rfl rfl (fun w hh => v_load (Try.isAgg26 w) rfl (hh.cell 0 rfl rfl)) ?_
      refine g_val rfl rfl rfl (fun w _ => v_lenS (Try.runUnderlying26 w) rfl) ?_
      refine g_val rfl rfl rfl (fun _ _ => v_move rfl) ?_
      refine g_nil ?_
      refine g_n_then ?_
      refine g_block ?_
      refine g_sub (e' := [(27, _), (8, _), (1, _), (6, _), (26, _)]) ((.cons rfl (.cons rfl (.cons rfl (.cons rfl (.cons rfl .nil)))))) ?_
      refine g_loopV (ι := Nat × List Value × Option (Nat × Nat) × Nat) (ofix := [_]) (fun (k, sp, q, cap) => [(27, .int .i64 (k : Nat)), (8, slv q k cap)]) (fun (k, sp, q, cap) => []) (fun (k, sp, q, cap) => vown 46 (ints (statesN L.S m k)) sp q ++ []) (fun (k, sp, q, cap) => k ≤ L.S.floors.length ∧ VOK 1 k cap (ints (statesN L.S m k)) sp q) (fun (k, sp, q, cap) => L.S.floors.length - k) (0, [], none, 0) (⟨Nat.zero_le _, VOK.nil⟩) ?_
      intro ⟨k, sp, q, cap⟩ hI1
      simp only at hI1
      refine g_seq ?_
      refine g_region ?_
      refine g_val rfl rfl rfl (fun _ _ => v_lss rfl rfl) ?_
      refine g_nil ?_
      refine g_n_then ?_
      refine g_seq ?_
      refine g_cond rfl (fun h28 => ?_) (fun h28 => ?_)
      · replace h28 := of_decide_eq_true h28
        refine g_skip ?_
        refine g_n_then ?_
        refine g_seq ?_
        refine g_block ?_
        refine g_seq ?_
        refine g_region ?_
        refine g_val rfl rfl rfl (fun _ _ => v_move rfl) ?_
        refine g_val rfl rfl rfl (fun _ _ => v_assign rfl) ?_
        refine g_nil ?_
        refine g_n_then ?_
        refine g_region ?_
        refine g_val rfl rfl rfl (fun _ _ => v_move rfl) ?_
        refine g_val rfl rfl rfl (fun _ _ => v_move rfl) ?_
        refine g_val rfl rfl rfl (fun _ _ => v_move rfl) ?_
        refine g_val rfl rfl rfl (fun _ _ => v_move rfl) ?_
        refine g_callv rfl rfl rfl rfl rfl rfl rfl (fun a w => Try.call104 a w) (fun w hh => c_at L bd (gatesOf L.S) _ _ w (hL.ext hh.toExt) hG gates_length (hh.seg 0 rfl) (by assumption) (by omega)) ?_
        refine g_buildSlice (vs := [(0, _)]) (cells := [_]) (fun w => Try.runUnderlying43 w) (fun w => Try.sizeOf46 w) (fun w => Try.zeroValue46 w) rfl rfl rfl rfl rfl (fun b2 hb2 => ?_)
        refine g_appendM [_, _] (news := [_]) (xs := (ints (statesN L.S m k))) (sp := sp) (q := q) Try.underlying43 inf46 rfl rfl rfl hI1.2 (by simp) (by decide) rfl (fun w hh => hh.ownSeg 0 rfl) (ones_all rfl) (by simp only [maxLen]; omega) (by omega) rfl (fun q3 cap4 sp5 hv6 => ?_)
        rw [statesN_snoc] at hv6 ⊢
        refine g_val rfl rfl rfl (fun _ _ => v_assign rfl) ?_
        refine g_nil ?_
        refine g_n_blk ?_
        refine g_n_then ?_
        refine g_region ?_
        refine g_val rfl rfl rfl (fun _ _ => v_add rfl rfl (wrap_i64 (by omega))) ?_
        refine g_val rfl rfl rfl (fun _ _ => v_move rfl) ?_
        refine g_nil ?_
        refine g_n_then ?_
        exact g_againV (pre := [_, _]) (i := ⟨k, sp, q, cap⟩) (k + 1, sp5, (some q3), cap4) [1] ((.cons rfl (.cons rfl (.cons rfl (.cons rfl (.cons rfl .nil)))))) (by decide) rfl rfl (⟨by omega, hv6⟩) (by simp only; omega)
      · replace h28 := of_decide_eq_false h28
        have ek : k = L.S.floors.length := by omega
        subst ek
        refine g_exit ?_
        refine g_x_then ?_
        refine g_x_then ?_
        refine g_x_blk ?_
        refine g_n_then ?_
        refine g_seq ?_
        refine g_region ?_
        refine g_val rfl rfl rfl (fun _ _ => v_move rfl) ?_
        refine g_val rfl rfl rfl (fun _ _ => v_assign rfl) ?_
        refine g_val rfl rfl rfl (fun _ _ => v_assign rfl) ?_
        refine g_nil ?_
        refine g_n_then ?_
        refine g_ret ?_
        have ea := AllR_states (m := m) hc (by assumption)
        refine g_done rfl (fun w hh => (.tmp rfl (.tmp rfl .nil))) (fun w hh => ?_)
        rw [ea]
        exact ⟨q, cap, by simp only [retv, statesN_length], by rw [statesN_length]; exact hI1.2.sl, hh.vec [_] hI1.2.hoff hI1.2.noneNil⟩
  · refine g_callv rfl rfl rfl rfl rfl rfl rfl (fun a w => Try.call102 a w) (fun w hh => c_openedE L w (hL.ext hh.toExt) hc) ?_
    refine g_val rfl rfl rfl (fun _ _ => v_move rfl) ?_
    refine g_val rfl rfl rfl (fun _ _ => v_extract rfl rfl) ?_
    refine g_val rfl rfl rfl (fun _ _ => v_extract rfl rfl) ?_
    refine g_val rfl rfl rfl (fun _ _ => v_assign rfl) ?_
    refine g_val rfl rfl rfl (fun _ _ => v_assign rfl) ?_
    refine g_nil ?_
    refine g_n_then ?_
    refine g_seq ?_
    refine g_block ?_
    refine g_seq ?_
    refine g_region ?_
    refine g_val rfl rfl rfl (fun _ _ => v_move rfl) ?_
    refine g_val rfl rfl rfl (fun _ _ => v_neq rfl rfl) ?_
    refine g_val rfl rfl rfl (fun _ _ => v_assign rfl) ?_
    refine g_nil ?_
    refine g_n_then ?_
    refine g_condT rfl (neP hc) ?_
    refine g_seq ?_
    refine g_region ?_
    refine g_val rfl rfl rfl (fun _ _ => v_move rfl) ?_
    refine g_val rfl rfl rfl (fun _ _ => v_nilSlice rfl rfl) ?_
    refine g_val rfl rfl rfl (fun _ _ => v_assign rfl) ?_
    refine g_nil ?_
    refine g_n_then ?_
    refine g_ret ?_
    refine g_r_blk ?_
    refine g_r_then ?_
    refine g_done rfl (fun w hh => (.tmp rfl (.tmp rfl .nil))) (fun w hh => ?_)
    have ea : AllR L.S m = ([], check L.S) := by simp only [AllR, *, ne_eq, not_true_eq_false, not_false_eq_true, if_false, if_true, reduceIte]
    rw [ea]
    exact ⟨none, 0, rfl, .nil, (News.nil hh.toExt).cons segOK.nil (fun h => absurd rfl h)⟩

end Go.Proofs

