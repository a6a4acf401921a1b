/- What the functions that the law TideAsked reaches come to, and why it holds: part 2. -/
import Derived.KernelRfl
import Derived.Test.YtaicfimbclibpaaProg
import Derived.Test.YtaicfimbclibpaaTideAsked1
namespace Go.Gx
open Go Go.Fw

/-! ### plain programs: what the functions compute -/
def ix {α : Type} (l : List α) (i : Int) : Option α := if i < 0 then none else l[i.toNat]?
def addc (a b : Int) : Option Int := if -9223372036854775808 ≤ a + b ∧ a + b ≤ 9223372036854775807 then some (a + b) else none
def subc (a b : Int) : Option Int := if -9223372036854775808 ≤ a - b ∧ a - b ≤ 9223372036854775807 then some (a - b) else none
def mulc (a b : Int) : Option Int := if -9223372036854775808 ≤ a * b ∧ a * b ≤ 9223372036854775807 then some (a * b) else none
def negc (a : Int) : Option Int := if -9223372036854775808 ≤ -a ∧ -a ≤ 9223372036854775807 then some (-a) else none
def quoc (a b : Int) : Option Int := if b ≠ 0 ∧ -9223372036854775808 ≤ a.tdiv b ∧ a.tdiv b ≤ 9223372036854775807 then some (a.tdiv b) else none
def remc (a b : Int) : Option Int := if b ≠ 0 then some (a.tmod b) else none
/-- append: as long as it takes no more than a process can hold -/
def appc {α : Type} (bytes : Nat) (l m : List α) : Option (List α) := if (l.length + m.length) * bytes ≤ 140737488355328 then some (l ++ m) else none
/-- make -/
def makec {α : Type} (bytes : Nat) (z : α) (n c : Int) : Option (List α) := if 0 ≤ n ∧ n ≤ c ∧ (bytes : Int) * c ≤ 140737488355328 ∧ c ≤ 140737488355328 then some (List.replicate n.toNat z) else none
def iterM {σ β : Type} : Nat → (σ → Option (σ ⊕ β)) → σ → Option β
  | 0, _, _ => none
  | n + 1, f, s => match f s with
    | none => none
    | some (.inl s') => iterM n f s'
    | some (.inr b) => some b
def FU : Nat := 1099511627776
def oc {α β γ : Type} (o : α ⊕ β) (f : α → γ) (g : β → γ) : γ := match o with
  | .inl a => f a
  | .inr b => g b

/-! taking a plain program apart -/
theorem bindO {α β : Type} {o : Option α} {k : α → Option β} {r : β} (h : o.bind k = some r) : ∃ a, o = some a ∧ k a = some r := by
  cases o with
  | none => simp at h
  | some a => exact ⟨a, rfl, h⟩
theorem ifT {α : Type} {c : Prop} [Decidable c] {a b r : α} (hc : c) (h : (if c then a else b) = r) : a = r := by rw [if_pos hc] at h; exact h
theorem ifF {α : Type} {c : Prop} [Decidable c] {a b r : α} (hc : ¬ c) (h : (if c then a else b) = r) : b = r := by rw [if_neg hc] at h; exact h
theorem ifO {α : Type} {c : Prop} [Decidable c] {a : Option α} {r : α} (h : (if c then a else none) = some r) : c ∧ a = some r := by
  by_cases hc : c
  · rw [if_pos hc] at h; exact ⟨hc, h⟩
  · rw [if_neg hc] at h; cases h
theorem ocL {α β γ : Type} {a : α} {f : α → γ} {g : β → γ} {r : γ} (h : oc (.inl a) f g = r) : f a = r := h
theorem ocR {α β γ : Type} {b : β} {f : α → γ} {g : β → γ} {r : γ} (h : oc (.inr b) f g = r) : g b = r := h
theorem addcO {a b c : Int} (h : addc a b = some c) : c = a + b ∧ -9223372036854775808 ≤ a + b ∧ a + b ≤ 9223372036854775807 := by unfold addc at h; obtain ⟨h1, h2⟩ := ifO h; cases h2; exact ⟨rfl, h1⟩
theorem subcO {a b c : Int} (h : subc a b = some c) : c = a - b ∧ -9223372036854775808 ≤ a - b ∧ a - b ≤ 9223372036854775807 := by unfold subc at h; obtain ⟨h1, h2⟩ := ifO h; cases h2; exact ⟨rfl, h1⟩
theorem mulcO {a b c : Int} (h : mulc a b = some c) : c = a * b ∧ -9223372036854775808 ≤ a * b ∧ a * b ≤ 9223372036854775807 := by unfold mulc at h; obtain ⟨h1, h2⟩ := ifO h; cases h2; exact ⟨rfl, h1⟩
theorem negcO {a c : Int} (h : negc a = some c) : c = -a ∧ -9223372036854775808 ≤ -a ∧ -a ≤ 9223372036854775807 := by unfold negc at h; obtain ⟨h1, h2⟩ := ifO h; cases h2; exact ⟨rfl, h1⟩
theorem quocO {a b c : Int} (h : quoc a b = some c) : c = a.tdiv b ∧ b ≠ 0 ∧ -9223372036854775808 ≤ a.tdiv b ∧ a.tdiv b ≤ 9223372036854775807 := by unfold quoc at h; obtain ⟨h1, h2⟩ := ifO h; cases h2; exact ⟨rfl, h1⟩
theorem remcO {a b c : Int} (h : remc a b = some c) : c = a.tmod b ∧ b ≠ 0 := by unfold remc at h; obtain ⟨h1, h2⟩ := ifO h; cases h2; exact ⟨rfl, h1⟩
theorem ixO {α : Type} {l : List α} {i : Int} {x : α} (h : ix l i = some x) : 0 ≤ i ∧ i.toNat < l.length ∧ l[i.toNat]? = some x := by
  unfold ix at h
  by_cases hi : i < 0
  · rw [if_pos hi] at h; cases h
  · rw [if_neg hi] at h
    obtain ⟨h1, _⟩ := List.getElem?_eq_some_iff.1 h
    exact ⟨by omega, h1, h⟩
theorem appcO {α : Type} {bytes : Nat} {l m r : List α} (h : appc bytes l m = some r) : r = l ++ m ∧ (l.length + m.length) * bytes ≤ 140737488355328 := by unfold appc at h; obtain ⟨h1, h2⟩ := ifO h; cases h2; exact ⟨rfl, h1⟩
theorem makecO {α : Type} {bytes : Nat} {z : α} {n c : Int} {r : List α} (h : makec bytes z n c = some r) : r = List.replicate n.toNat z ∧ 0 ≤ n ∧ n ≤ c ∧ (bytes : Int) * c ≤ 140737488355328 ∧ c ≤ 140737488355328 := by unfold makec at h; obtain ⟨h1, h2⟩ := ifO h; cases h2; exact ⟨rfl, h1⟩

/-! ### rows -/
structure Row (α : Type) where
  sz : Nat
  cells : α → List Value
  len : ∀ x, (cells x).length = sz
  one : ∀ x, ones (cells x) = true
def Row.enc {α : Type} (R : Row α) (l : List α) : List Value := l.flatMap R.cells
def RI : Row Int := ⟨1, fun n => [.int .i64 n], fun _ => rfl, fun _ => rfl⟩
def RU8 : Row Int := ⟨1, fun n => [.int .u8 n], fun _ => rfl, fun _ => rfl⟩
def RB : Row Bool := ⟨1, fun b => [.bool b], fun _ => rfl, fun _ => rfl⟩
theorem RI_enc (l : List Int) : RI.enc l = ints l := by
  induction l with
  | nil => rfl
  | cons x l ih => simp only [Row.enc, List.flatMap_cons, ints, List.map_cons] at ih ⊢; rw [ih]; rfl
theorem RU8_enc (l : List Int) : RU8.enc l = u8s l := by
  induction l with
  | nil => rfl
  | cons x l ih => simp only [Row.enc, List.flatMap_cons, u8s, List.map_cons] at ih ⊢; rw [ih]; rfl
section rows
variable {α : Type} (R : Row α)
theorem Row.enc_nil : R.enc [] = [] := rfl
theorem Row.enc_append (l m : List α) : R.enc (l ++ m) = R.enc l ++ R.enc m := by simp [Row.enc]
theorem Row.enc_len (l : List α) : (R.enc l).length = l.length * R.sz := by
  induction l with
  | nil => simp [Row.enc]
  | cons x l ih => simp only [Row.enc, List.flatMap_cons, List.length_append, R.len, List.length_cons, Nat.add_mul, Nat.one_mul] at ih ⊢; omega
theorem Row.enc_one (l : List α) : ∀ u ∈ R.enc l, u.oneCell' = true := by
  intro u hu
  obtain ⟨x, _, hx⟩ := List.mem_flatMap.1 hu
  exact ones_all (R.one x) u hx
theorem Row.enc_get : ∀ (l : List α) (j f : Nat) (x : α), l[j]? = some x → f < R.sz → (R.enc l)[j * R.sz + f]? = (R.cells x)[f]?
  | [], j, f, x, h, _ => by simp at h
  | y :: l, 0, f, x, h, hf => by
    simp at h; subst h
    simp only [Row.enc, List.flatMap_cons, Nat.zero_mul, Nat.zero_add]
    rw [List.getElem?_append_left (by rw [R.len]; exact hf)]
  | y :: l, j + 1, f, x, h, hf => by
    have ih := Row.enc_get l j f x (by simpa using h) hf
    simp only [Row.enc, List.flatMap_cons] at ih ⊢
    rw [List.getElem?_append_right (by rw [R.len, Nat.add_mul]; omega), R.len, show (j + 1) * R.sz + f - R.sz = j * R.sz + f by rw [Nat.add_mul]; omega, ih]
theorem Row.enc_set : ∀ (l : List α) (j : Nat) (x x' : α), l[j]? = some x → (R.enc l).take (j * R.sz) ++ R.cells x' ++ (R.enc l).drop (j * R.sz + R.sz) = R.enc (l.set j x')
  | [], j, x, _, h => by simp at h
  | y :: l, 0, x, x', h => by
    simp only [Row.enc, List.flatMap_cons, List.set_cons_zero, Nat.zero_mul, List.take_zero, List.nil_append, Nat.zero_add]
    rw [← R.len y, List.drop_left]
  | y :: l, j + 1, x, x', h => by
    have ih := Row.enc_set l j x x' (by simpa using h)
    simp only [Row.enc, List.flatMap_cons, List.set_cons_succ] at ih ⊢
    rw [← ih]
    have e1 : (j + 1) * R.sz = (R.cells y).length + j * R.sz := by rw [R.len, Nat.add_mul]; omega
    rw [e1, List.take_length_add_append, Nat.add_assoc, List.drop_length_add_append]
    simp only [List.append_assoc]
theorem Row.enc_set1 : ∀ (l : List α) (j f : Nat) (x x' : α) (v : Value), l[j]? = some x → f < R.sz → (R.cells x).set f v = R.cells x' → (R.enc l).set (j * R.sz + f) v = R.enc (l.set j x')
  | [], j, f, x, _, _, h, _, _ => by simp at h
  | y :: l, 0, f, x, x', v, h, hf, hs => by
    simp at h; subst h
    simp only [Row.enc, List.flatMap_cons, List.set_cons_zero, Nat.zero_mul, Nat.zero_add]
    rw [List.set_append_left _ _ (by rw [R.len]; exact hf), hs]
  | y :: l, j + 1, f, x, x', v, h, hf, hs => by
    have ih := Row.enc_set1 l j f x x' v (by simpa using h) hf hs
    simp only [Row.enc, List.flatMap_cons, List.set_cons_succ] at ih ⊢
    rw [List.set_append_right _ _ (by rw [R.len, Nat.add_mul]; omega), R.len, show (j + 1) * R.sz + f - R.sz = j * R.sz + f by rw [Nat.add_mul]; omega, ih]
end rows

def aB (a : Option Addr) : Nat := (a.map (·.block)).getD 0
def aO (a : Option Addr) : Nat := (a.map (·.off)).getD 0
abbrev qA (q : Option (Nat × Nat)) : Option Addr := q.map fun p => ⟨p.1, p.2, none⟩
def AOK (n : Nat) (a : Option Addr) : Prop := 0 < n → ∃ b o, a = some ⟨b, o, none⟩
theorem AOK.q {n : Nat} {q : Option (Nat × Nat)} (h : 0 < n → q ≠ none) : AOK n (qA q) := fun h0 => by
  cases q with
  | none => exact absurd rfl (h h0)
  | some p => exact ⟨p.1, p.2, rfl⟩
theorem AOK.nil {a : Option Addr} : AOK 0 a := fun h => absurd h (Nat.lt_irrefl 0)
/-! ### what the call has of its own: blocks that are known cell by cell, and slices that grow -/
structure VR where
  E : TypeId
  xs : List Value
  sp : List Value
  q : Option (Nat × Nat)
def VR.bl (v : VR) : List (Nat × Obj) := vown v.E v.xs v.sp v.q
def vbl : List VR → List (Nat × Obj)
  | [] => []
  | v :: r => v.bl ++ vbl r
structure VL where
  q : Option (Nat × Nat)
  n : Nat
  cap : Nat
  sp : List Value
theorem vlen {α : Type} (R : Row α) {n cap : Nat} {l : List α} {sp : List Value} {q : Option (Nat × Nat)} (hv : VOK R.sz n cap (R.enc l) sp q) (h0 : Nat.blt 0 R.sz = true) : l.length = n := by
  have h1 := hv.hlen
  rw [R.enc_len] at h1
  exact Nat.eq_of_mul_eq_mul_right (by simpa using h0) h1
theorem vne {sz n cap : Nat} {xs sp : List Value} {q : Option (Nat × Nat)} (hv : VOK sz n cap xs sp q) : 0 < n → q ≠ none := fun h0 hq => by have := (hv.hnone hq).1; omega
theorem vbl_append : ∀ (A B : List VR), vbl (A ++ B) = vbl A ++ vbl B
  | [], _ => rfl
  | v :: A, B => by simp only [List.cons_append, vbl, vbl_append A B, List.append_assoc]
def HV (w0 : World) (M : List Nat) (S : List (Nat × Obj)) (vs : List VR) (ro : List Sg) (w : World) : Prop := HS w0 M (S ++ vbl vs) ro w
def keys (S : List (Nat × Obj)) (vs : List VR) : List Nat := (S ++ vbl vs).map (·.1)

section hv
variable {w0 w w' : World} {M : List Nat} {S : List (Nat × Obj)} {vs : List VR} {ro : List Sg}
theorem getO {α : Type} {l : List α} {i : Nat} {v : α} (h : l[i]? = some v) : l = l.take i ++ v :: l.drop (i + 1) := by
  obtain ⟨h1, h2⟩ := List.getElem?_eq_some_iff.1 h
  rw [← h2, List.getElem_cons_drop, List.take_append_drop]
theorem HV.hs (h : HV w0 M S vs ro w) : HS w0 M (S ++ vbl vs) ro w := h
theorem HV.seg (h : HV w0 M S vs ro w) (i : Nat) {s : Sg} (hi : ro[i]? = some s) : segOK w s := HS.seg h i hi
theorem HV.get (h : HV w0 M S vs ro w) (i : Nat) {b : Nat} {o : Obj} (hi : S[i]? = some (b, o)) : w.heap[b]? = some o :=
  HS.get h i (by rw [List.getElem?_append_left (List.getElem?_eq_some_iff.1 hi).1]; exact hi)
theorem HV.cell (h : HV w0 M S vs ro w) (i : Nat) {b o : Nat} {cs : Array Value} {T : TypeId} {fr : Nat × Nat} {v : Value} (hi : S[i]? = some (b, .cells cs T fr)) (hv : cs.toList[o]? = some v) : w.cell? ⟨b, o, none⟩ = some v :=
  HS.cell h i (by rw [List.getElem?_append_left (List.getElem?_eq_some_iff.1 hi).1]; exact hi) hv
theorem HV.cells (h : HV w0 M S vs ro w) (i : Nat) {b o : Nat} {cs : Array Value} {T : TypeId} {fr : Nat × Nat} {us : List Value} (hi : S[i]? = some (b, .cells cs T fr)) (hv : (cs.toList.drop o).take us.length = us) :
    ∀ j (_ : j < us.length), w.cell? ⟨b, o + j, none⟩ = some us[j] :=
  HS.cells h i (by rw [List.getElem?_append_left (List.getElem?_eq_some_iff.1 hi).1]; exact hi) hv
theorem HV.vmem (i : Nat) {v : VR} (hi : vs[i]? = some v) : ∀ p, p ∈ v.bl → p ∈ S ++ vbl vs := fun p hp => by
  rw [getO hi, vbl_append]
  simp only [vbl, List.mem_append]
  exact .inr (.inr (.inl hp))
theorem HV.vseg (h : HV w0 M S vs ro w) (i : Nat) {E : TypeId} {xs sp : List Value} {q : Option (Nat × Nat)} {sz len cap : Nat} (hi : vs[i]? = some ⟨E, xs, sp, q⟩) (hv : VOK sz len cap xs sp q) : segOK w (bk q, off q, xs) := by
  cases q with
  | none =>
    have : xs = [] := hv.noneNil rfl
    subst this
    exact segOK.nil
  | some p =>
    have ho := hv.hoff p rfl
    have hb := h.hs.ownOK (p.1, .cells (xs ++ sp).toArray E (0, 0)) (HV.vmem i hi _ (by simp [VR.bl, vown]))
    have h3 : segOK w (p.1, 0, xs ++ sp) := .of_block hb
    intro j hj
    have h5 : j < (xs ++ sp).length := by simp at hj ⊢; omega
    have := h3 j h5
    simp only at this hj ⊢
    simp only [bk, off, Option.getD_some, ho]
    rw [this, List.getElem_append_left hj]
theorem HV.draw (h : HV w0 M S vs ro w) (k : Nat) : HV w0 M S vs ro { w with drawn := k } := HS.draw h k
theorem HV.perm {S' : List (Nat × Obj)} {vs' : List VR} (h : HV w0 M S vs ro w) (hp : (S ++ vbl vs).Perm (S' ++ vbl vs')) : HV w0 M S' vs' ro w := HS.perm h hp

theorem pick_sub {α : Type} {l l' : List α} {idx : List Nat} (hn : idx.Nodup) (hi : idx.map (fun i => l[i]?) = l'.map some) : ∃ r, l.Perm (l' ++ r) := by
  induction l' generalizing idx l with
  | nil => exact ⟨l, .refl _⟩
  | cons p l' ih =>
    cases idx with
    | nil => simp at hi
    | cons i idx =>
      simp only [List.map_cons, List.cons.injEq] at hi
      rw [List.nodup_cons] at hn
      obtain ⟨hlt, hp⟩ := List.getElem?_eq_some_iff.1 hi.1
      have h1 : l.Perm (p :: l.eraseIdx i) := by
        have h2 := getO hi.1
        rw [List.eraseIdx_eq_take_drop_succ]
        exact (List.Perm.of_eq h2).trans List.perm_middle
      let g : Nat → Nat := fun j => if j < i then j else j - 1
      have hg : (idx.map g).Nodup := by
        have : ∀ (m : List Nat), i ∉ m → m.Nodup → (m.map g).Nodup := by
          intro m
          induction m with
          | nil => intro _ _; simp
          | cons a m ihm =>
            intro hm hnd
            rw [List.nodup_cons] at hnd
            simp only [List.mem_cons, not_or] at hm
            rw [List.map_cons, List.nodup_cons]
            refine ⟨fun hmem => ?_, ihm hm.2 hnd.2⟩
            obtain ⟨c, hc, hce⟩ := List.mem_map.1 hmem
            have hci : c ≠ i := fun e => hm.2 (e ▸ hc)
            have hac : c ≠ a := fun e => hnd.1 (e ▸ hc)
            simp only [g] at hce
            split at hce <;> split at hce <;> omega
        exact this idx hn.1 hn.2
      have hmap : (idx.map g).map (fun k => (l.eraseIdx i)[k]?) = l'.map some := by
        rw [← hi.2, List.map_map]
        apply List.map_congr_left
        intro j hj
        have hji : j ≠ i := fun e => hn.1 (e ▸ hj)
        simp only [Function.comp_apply, g, List.getElem?_eraseIdx]
        by_cases h : j < i
        · simp [h]
        · have h2 : ¬ (j - 1 < i) := by omega
          simp only [h, h2, if_false]
          rw [show j - 1 + 1 = j by omega]
      obtain ⟨r, hr⟩ := ih hg hmap
      exact ⟨r, h1.trans (hr.cons p)⟩
theorem vbl_perm {a b : List VR} (h : a.Perm b) : (vbl a).Perm (vbl b) := by
  induction h with
  | nil => exact .refl _
  | cons x _ ih => exact List.Perm.append_left _ ih
  | swap x y l =>
    simp only [vbl]
    rw [← List.append_assoc, ← List.append_assoc]
    exact List.Perm.append_right _ List.perm_append_comm
  | trans _ _ h1 h2 => exact h1.trans h2
/-- of the own blocks and slices some, in this order; of the segments those behind the first k -/
theorem HV.sel {S' : List (Nat × Obj)} {vs' : List VR} {ro' : List Sg} (h : HV w0 M S vs ro w) (iS iV : List Nat) (k : Nat) (hn : iS.Nodup) (hm : iV.Nodup) (hS : iS.map (fun i => S[i]?) = S'.map some) (hV : iV.map (fun i => vs[i]?) = vs'.map some) (hr : ro.drop k = ro') : HV w0 M S' vs' ro' w := by
  obtain ⟨r, hr1⟩ := pick_sub hn hS
  obtain ⟨u, hu⟩ := pick_sub hm hV
  have hp : (S ++ vbl vs).Perm ((S' ++ vbl vs') ++ (r ++ vbl u)) := by
    have h1 := hr1.append (vbl_perm hu)
    refine h1.trans ?_
    rw [vbl_append]
    simp only [List.append_assoc]
    refine List.Perm.append_left _ ?_
    rw [← List.append_assoc, ← List.append_assoc]
    exact List.Perm.append_right _ List.perm_append_comm
  have h2 : HS w0 M ((S' ++ vbl vs') ++ (r ++ vbl u)) ro w := HS.perm h hp
  have h3 : HS w0 M (S' ++ vbl vs') ro w := h2.drop (List.sublist_append_left _ _)
  exact h3.dropRo (fun s hs => List.mem_of_mem_drop (hr ▸ hs : s ∈ ro.drop k))

/-! slices that came in: the address may be any if nothing lies there -/
theorem HV.vsegA (h : HV w0 M S vs ro w) (i : Nat) {E : TypeId} {xs sp : List Value} {q : Option (Nat × Nat)} {sz len cap : Nat} (hi : vs[i]? = some ⟨E, xs, sp, q⟩) (hv : VOK sz len cap xs sp q) : segOK w (aB (qA q), aO (qA q), xs) := by
  have := h.vseg i hi hv
  cases q <;> exact this

/-! calls -/
theorem HV.callee {S0 : List (Nat × Obj)} {vs0 : List VR} {ro0 : List Sg} (h : HV w0 M (S0 ++ S) (vs0 ++ vs) ro w) (hr : ∀ s, s ∈ ro0 → segOK w s ∧ (s.2.2 ≠ [] → s.1 ∉ keys S0 vs0)) : HV w (keys S0 vs0) S0 vs0 ro0 w := by
  have hp : ((S0 ++ S) ++ vbl (vs0 ++ vs)).Perm ((S0 ++ vbl vs0) ++ (S ++ vbl vs)) := by
    rw [vbl_append]
    simp only [List.append_assoc]
    refine List.Perm.append_left _ ?_
    rw [← List.append_assoc, ← List.append_assoc]
    exact List.Perm.append_right _ List.perm_append_comm
  have h2 : HS w0 M (S0 ++ vbl vs0) ro w := (HS.perm h hp).drop (List.sublist_append_left _ _)
  exact ⟨rfl, rfl, rfl, Nat.le_refl _, fun _ _ _ => rfl, h2.ownOK, fun p hp => .inr (List.mem_map_of_mem hp), h2.nodup, fun s hs => (hr s hs).1, fun s hs => (hr s hs).2⟩
theorem HS.back {B0 B B1 : List (Nat × Obj)} (h : HS w0 M (B0 ++ B) ro w) (hc : HS w (B0.map (·.1)) B1 [] w') : HS w0 M (B1 ++ B) ro w' := by
  have hnd := h.nodup
  rw [List.map_append, List.nodup_append] at hnd
  have hK : ∀ k, k ∈ B0.map (·.1) → k < w.heap.size := fun k hk => by
    obtain ⟨p, hp, rfl⟩ := List.mem_map.1 hk
    exact h.lt (List.mem_append_left _ hp)
  have hB : ∀ p, p ∈ B → p.1 < w.heap.size ∧ p.1 ∉ B0.map (·.1) := fun p hp => ⟨h.lt (List.mem_append_right _ hp), fun hm => hnd.2.2 _ hm _ (List.mem_map_of_mem hp) rfl⟩
  refine ⟨hc.os.trans h.os, hc.tape.trans h.tape, hc.output.trans h.output, Nat.le_trans h.size hc.size, ?_, ?_, ?_, ?_, ?_, ?_⟩
  · intro k hk hM
    refine (hc.old k (Nat.lt_of_lt_of_le hk h.size) (fun hm => ?_)).trans (h.old k hk hM)
    obtain ⟨p, hp, rfl⟩ := List.mem_map.1 hm
    rcases h.new p (List.mem_append_left _ hp) with h1 | h1
    · omega
    · exact hM h1
  · intro p hp
    rcases List.mem_append.1 hp with hp | hp
    · exact hc.ownOK p hp
    · exact (hc.old p.1 (hB p hp).1 (hB p hp).2).trans (h.ownOK p (List.mem_append_right _ hp))
  · intro p hp
    rcases List.mem_append.1 hp with hp | hp
    · rcases hc.new p hp with h1 | h1
      · exact .inl (Nat.le_trans h.size h1)
      · obtain ⟨p', hp', he⟩ := List.mem_map.1 h1
        rw [← he]
        exact h.new p' (List.mem_append_left _ hp')
    · exact h.new p (List.mem_append_right _ hp)
  · rw [List.map_append, List.nodup_append]
    refine ⟨hc.nodup, hnd.2.1, fun a ha b hb he => ?_⟩
    obtain ⟨p, hp, rfl⟩ := List.mem_map.1 ha
    obtain ⟨q, hq, rfl⟩ := List.mem_map.1 hb
    have h2 := hB q hq
    rcases hc.new p hp with h1 | h1
    · omega
    · exact h2.2 (he ▸ h1)
  · intro s hs j hj
    have hne : s.2.2 ≠ [] := by intro e; rw [e] at hj; simp at hj
    have h1 := h.roOK s hs
    have h2 := h.sep s hs hne
    rw [List.map_append, List.mem_append] at h2
    rw [cell_of_block (hc.old s.1 (h1.lt hne) (fun hm => h2 (.inl hm)))]
    exact h1 j hj
  · intro s hs hne hm
    have h1 := (h.roOK s hs).lt hne
    have h2 := h.sep s hs hne
    rw [List.map_append, List.mem_append] at h2
    rw [List.map_append, List.mem_append] at hm
    rcases hm with hm | hm
    · obtain ⟨p, hp, he⟩ := List.mem_map.1 hm
      rcases hc.new p hp with h3 | h3
      · omega
      · exact h2 (.inl (he ▸ h3))
    · exact h2 (.inr hm)
theorem HV.back {S0 S1 : List (Nat × Obj)} {vs0 vs1 : List VR} (h : HV w0 M (S0 ++ S) (vs0 ++ vs) ro w) (hc : HV w (keys S0 vs0) S1 vs1 [] w') : HV w0 M (S1 ++ S) (vs1 ++ vs) ro w' := by
  have hp : ∀ (A : List (Nat × Obj)) (a : List VR), ((A ++ S) ++ vbl (a ++ vs)).Perm ((A ++ vbl a) ++ (S ++ vbl vs)) := fun A a => by
    rw [vbl_append]
    simp only [List.append_assoc]
    refine List.Perm.append_left _ ?_
    rw [← List.append_assoc, ← List.append_assoc]
    exact List.Perm.append_right _ List.perm_append_comm
  exact HS.perm (HS.back (HS.perm h (hp S0 vs0)) hc) (hp S1 vs1).symm
/-- a slice of the call's own lies apart from others of its own -/
theorem HV.vsep {S0 : List (Nat × Obj)} {vs0 : List VR} (h : HV w0 M (S0 ++ S) (vs0 ++ vs) ro w) (i : Nat) {E : TypeId} {xs sp : List Value} {q : Option (Nat × Nat)} {sz len cap : Nat} (hi : vs[i]? = some ⟨E, xs, sp, q⟩) (hv : VOK sz len cap xs sp q) : segOK w (bk q, off q, xs) ∧ (xs ≠ [] → bk q ∉ keys S0 vs0) := by
  have hseg : segOK w (bk q, off q, xs) := HV.vseg h (vs0.length + i) (by rw [List.getElem?_append_right (by omega)]; simpa using hi) hv
  refine ⟨hseg, fun hne hm => ?_⟩
  cases q with
  | none => exact hne (hv.noneNil rfl)
  | some p =>
    have hp : ((S0 ++ S) ++ vbl (vs0 ++ vs)).Perm ((S0 ++ vbl vs0) ++ (S ++ vbl vs)) := by
      rw [vbl_append]
      simp only [List.append_assoc]
      refine List.Perm.append_left _ ?_
      rw [← List.append_assoc, ← List.append_assoc]
      exact List.Perm.append_right _ List.perm_append_comm
    have hnd := (HS.perm h hp).nodup
    rw [List.map_append, List.nodup_append] at hnd
    refine hnd.2.2 _ hm p.1 ?_ (by simp [bk])
    exact List.mem_map.2 ⟨_, HV.vmem (S := S) i hi (p.1, .cells (xs ++ sp).toArray E (0, 0)) (by simp [VR.bl, vown]), rfl⟩
theorem HV.vsepA {S0 : List (Nat × Obj)} {vs0 : List VR} (h : HV w0 M (S0 ++ S) (vs0 ++ vs) ro w) (i : Nat) {E : TypeId} {xs sp : List Value} {q : Option (Nat × Nat)} {sz len cap : Nat} (hi : vs[i]? = some ⟨E, xs, sp, q⟩) (hv : VOK sz len cap xs sp q) : segOK w (aB (qA q), aO (qA q), xs) ∧ (xs ≠ [] → aB (qA q) ∉ keys S0 vs0) := by
  have := h.vsep i hi hv
  cases q <;> exact this
/-- a segment that can be read lies apart from all own ones -/
theorem HV.rsep {S0 : List (Nat × Obj)} {vs0 : List VR} (h : HV w0 M (S0 ++ S) (vs0 ++ vs) ro w) (i : Nat) {s : Sg} (hi : ro[i]? = some s) : segOK w s ∧ (s.2.2 ≠ [] → s.1 ∉ keys S0 vs0) := by
  refine ⟨HS.seg h i hi, fun hne hm => h.hs.sep s (List.mem_of_getElem? hi) hne ?_⟩
  obtain ⟨p, hp, he⟩ := List.mem_map.1 hm
  refine List.mem_map.2 ⟨p, ?_, he⟩
  rw [vbl_append]
  simp only [List.mem_append] at hp ⊢
  rcases hp with hp | hp
  · exact .inl (.inl hp)
  · exact .inr (.inl hp)
end hv
theorem roC {w : World} {K : List Nat} {s : Sg} {ro : List Sg} (h : segOK w s ∧ (s.2.2 ≠ [] → s.1 ∉ K)) (hr : ∀ t, t ∈ ro → segOK w t ∧ (t.2.2 ≠ [] → t.1 ∉ K)) : ∀ t, t ∈ s :: ro → segOK w t ∧ (t.2.2 ≠ [] → t.1 ∉ K) := fun t ht => by
  rcases List.mem_cons.1 ht with rfl | ht
  · exact h
  · exact hr t ht
theorem roN {w : World} {K : List Nat} : ∀ t, t ∈ ([] : List Sg) → segOK w t ∧ (t.2.2 ≠ [] → t.1 ∉ K) := fun t ht => by cases ht
end Go.Gx

namespace Go.Gx
open Go Go.Fw

theorem segA {w : World} {q : Option (Nat × Nat)} {xs : List Value} (h : segOK w (bk q, off q, xs)) : segOK w (aB (qA q), aO (qA q), xs) := by cases q <;> exact h
theorem sepA {w : World} {K : List Nat} {q : Option (Nat × Nat)} {xs : List Value} (h : segOK w (bk q, off q, xs) ∧ (xs ≠ [] → bk q ∉ K)) : segOK w (aB (qA q), aO (qA q), xs) ∧ (xs ≠ [] → aB (qA q) ∉ K) := by cases q <;> exact h
/-! ### joins and loops -/
theorem HV.dropF {w0 w : World} {M : List Nat} {S S' : List (Nat × Obj)} {vs vs' : List VR} {ro : List Sg} (h : HV w0 M S vs ro w) (k kv : Nat) (hS : S.drop k = S') (hV : vs.drop kv = vs') : HV w0 M S' vs' ro w := by
  subst hS hV
  have e : S ++ vbl vs = (S.take k ++ S.drop k) ++ (vbl (vs.take kv) ++ vbl (vs.drop kv)) := by rw [List.take_append_drop, ← vbl_append, List.take_append_drop]
  have h1 : HS w0 M (S ++ vbl vs) ro w := h
  rw [e] at h1
  refine h1.drop ?_
  exact List.Sublist.append (List.sublist_append_right _ _) (List.sublist_append_right _ _)
section control
variable {n : Nat} {ds : List Deferred} {e : EnvL} {H : World → Prop} {P : Program} {F : Fence} {Q : Exit → Act → World → Prop} {w0 : World} {M : List Nat} {S : List (Nat × Obj)} {vs : List VR} {ro : List Sg}

def Jn (n : Nat) (ds : List Deferred) (w0 : World) (M : List Nat) (ro : List Sg) {ι : Type} (p : ι → Prop) (m : ι → EnvL) (mo : ι → List (Nat × Obj)) (mv : ι → List VR) : Act → World → Prop :=
  fun a w => ∃ j, p j ∧ Env n ds (m j) a ∧ HV w0 M (mo j) (mv j) ro w

theorem g_cut {ι : Type} {x : Code} (p : ι → Prop) (m : ι → EnvL) (mo : ι → List (Nat × Obj)) (mv : ι → List VR)
    (hx : G n ds e (HV w0 M S vs ro) (x.wpIn F 0 P (thenQ (Jn n ds w0 M ro p m mo mv) Q)))
    (hy : ∀ j, p j → G n ds (m j) (HV w0 M (mo j) (mv j) ro) (Q .normal)) : G n ds e (HV w0 M S vs ro) (x.wpIn F 0 P Q) := by
  refine hx.mono fun a w h => ?_
  rw [thenQ_eq] at h
  refine Go.wpIn_mono h (fun ex a w hq => ?_)
  cases ex with
  | normal =>
    obtain ⟨j, hp, he, hw⟩ := hq
    exact hy j hp a w he hw
  | _ => exact hq
theorem g_leaf {ι : Type} {p : ι → Prop} {m : ι → EnvL} {mo : ι → List (Nat × Obj)} {mv : ι → List VR} (j : ι) (hp : p j) (he : Sub e (m j)) (hw : ∀ w, H w → HV w0 M (mo j) (mv j) ro w) :
    G n ds e H (Jn n ds w0 M ro p m mo mv) := fun _ w ha hh => ⟨j, hp, ha.sub he, hw w hh⟩

def Ag (n : Nat) (ds : List Deferred) (w0 : World) (M : List Nat) (ro : List Sg) {σ β ι : Type} (r : σ ⊕ β) (pl : σ → ι → Prop) (m : σ → ι → EnvL) (mo : σ → ι → List (Nat × Obj)) (mv : σ → ι → List VR) : Act → World → Prop :=
  fun a w => ∃ s l, r = .inl s ∧ pl s l ∧ Env n ds (m s l) a ∧ HV w0 M (mo s l) (mv s l) ro w
/-- A loop that goes as a plain program goes. -/
theorem g_loopF {σ β ι : Type} {c : Code} {f : σ → Option (σ ⊕ β)} {o : β} {N : Nat} {s0 : σ} (hN : iterM N f s0 = some o) (pl : σ → ι → Prop) (m : σ → ι → EnvL) (mo : σ → ι → List (Nat × Obj)) (mv : σ → ι → List VR)
    (l0 : ι) (h0 : pl s0 l0) (he : Sub e (m s0 l0)) (hw : ∀ w, HV w0 M S vs ro w → HV w0 M (mo s0 l0) (mv s0 l0) ro w)
    (round : ∀ s l r, pl s l → f s = some r → (∀ b, r = .inr b → b = o) → G n ds (m s l) (HV w0 M (mo s l) (mv s l) ro) (c.wpIn F 0 P (thenQ (Ag n ds w0 M ro r pl m mo mv) Q))) :
    G n ds e (HV w0 M S vs ro) ((Code.loop c).wpIn F 0 P Q) := by
  have key : ∀ (i : Nat × σ × ι), G n ds (m i.2.1 i.2.2 ++ []) (fun w => iterM i.1 f i.2.1 = some o ∧ pl i.2.1 i.2.2 ∧ HV w0 M (mo i.2.1 i.2.2) (mv i.2.1 i.2.2) ro w)
      (c.wpIn F 0 P (thenQ (fun a' w' => ∃ j : Nat × σ × ι, Env n ds (m j.2.1 j.2.2 ++ []) a' ∧ (iterM j.1 f j.2.1 = some o ∧ pl j.2.1 j.2.2 ∧ HV w0 M (mo j.2.1 j.2.2) (mv j.2.1 j.2.2) ro w') ∧ j.1 < i.1) Q)) := by
    rintro ⟨k, s, l⟩ a w ha ⟨hk, hp, hh⟩
    simp only [List.append_nil] at ha ⊢
    cases k with
    | zero => simp [iterM] at hk
    | succ k =>
      unfold iterM at hk
      cases hf : f s with
      | none => rw [hf] at hk; cases hk
      | some r =>
        rw [hf] at hk
        have hr := round s l r hp hf (fun b hb => by subst hb; simpa using hk) a w ha hh
        rw [thenQ_eq] at hr ⊢
        refine Go.wpIn_mono hr (fun ex a w hq => ?_)
        cases ex with
        | normal =>
          obtain ⟨s', l', rfl, hp', he', hw'⟩ := hq
          exact ⟨(k, s', l'), he', ⟨hk, hp', hw'⟩, Nat.lt_succ_self k⟩
        | _ => exact hq
  have hl := g_loop (kept := []) (H := fun w => iterM N f s0 = some o ∧ pl s0 l0 ∧ HV w0 M (mo s0 l0) (mv s0 l0) ro w) (fun i : Nat × σ × ι => m i.2.1 i.2.2) (fun i w => iterM i.1 f i.2.1 = some o ∧ pl i.2.1 i.2.2 ∧ HV w0 M (mo i.2.1 i.2.2) (mv i.2.1 i.2.2) ro w) (fun i => i.1) (N, s0, l0) (fun w h => h) key
  simp only [List.append_nil] at hl
  exact g_sub he (hl.pre fun w hh => ⟨hN, h0, hw w hh⟩)
theorem g_again' {σ β ι : Type} {r : σ ⊕ β} {pl : σ → ι → Prop} {m : σ → ι → EnvL} {mo : σ → ι → List (Nat × Obj)} {mv : σ → ι → List VR} (s : σ) (l : ι) (hr : r = .inl s) (hp : pl s l) (he : Sub e (m s l)) (hw : ∀ w, H w → HV w0 M (mo s l) (mv s l) ro w) :
    G n ds e H (Ag n ds w0 M ro r pl m mo mv) := fun _ w ha hh => ⟨s, l, hr, hp, ha.sub he, hw w hh⟩
theorem g_sel {X : Act → World → Prop} {S' : List (Nat × Obj)} {vs' : List VR} {ro' : List Sg} (iS iV : List Nat) (k : Nat) (hn : iS.Nodup) (hm : iV.Nodup) (hS : iS.map (fun i => S[i]?) = S'.map some) (hV : iV.map (fun i => vs[i]?) = vs'.map some) (hr : ro.drop k = ro')
    (h : G n ds e (HV w0 M S' vs' ro') X) : G n ds e (HV w0 M S vs ro) X := h.pre fun _ hh => hh.sel iS iV k hn hm hS hV hr
theorem g_vnil {X : Act → World → Prop} (E : TypeId) (h : G n ds e (HV w0 M S (⟨E, [], [], none⟩ :: vs) ro) X) : G n ds e (HV w0 M S vs ro) X := h.pre fun _ hh => hh
end control

/-! ### operations that turn the world -/
section ops
variable {n : Nat} {ds : List Deferred} {e : EnvL} {P : Program} {r : Option Nat} {Q : Exit → Act → World → Prop} {ops : Array Oper} {w0 : World} {M : List Nat} {S : List (Nat × Obj)} {vs : List VR} {ro : List Sg} {rest : List Oper}

theorem v_unguard {H : World → Prop} {dst : Option Nat} {op : Op} {ty : TypeId} {pos : String} {after : Array Edge} {j t : Nat} {want : Bool} (hj : (ops[j]?).bind (·.dst) = some t) (ht : lk e t = some (.bool want))
    (h : G n ds e H (wpListIn (fw r) 0 P ops Q (⟨dst, op, ty, pos, after, none⟩ :: rest))) : G n ds e H (wpListIn (fw r) 0 P ops Q (⟨dst, op, ty, pos, after, some (j, want)⟩ :: rest)) := fun a w he hh => by
  have h1 := h a w he hh
  unfold wpListIn at h1 ⊢
  rw [if_pos (wanted_none rfl _)] at h1
  rw [if_pos (by rw [wanted_some he rfl hj ht]; simp)]
  refine ⟨fun _ _ => trivial, ?_⟩
  have h2 := h1.2
  exact h2
theorem wanted_undef' {o : Oper} {a : Act} {j t : Nat} {want : Bool} (he : Env n ds e a) (hg : o.guard = some (j, want)) (hj : (ops[j]?).bind (·.dst) = some t) (ht : lk e t = some undef) :
    Region.wanted o (yielded ops a.tmps) = false := by
  have h1 := he.get _ _ ht
  simp [Region.wanted, hg, yielded, hj, h1, undef]
theorem g_skipU' {H : World → Prop} {o : Oper} {d j t : Nat} {want : Bool} (hd : o.dst = some d) (hg : o.guard = some (j, want)) (hj : (ops[j]?).bind (·.dst) = some t) (ht : lk e t = some undef) (hn : Nat.blt d n = true)
    (h : G n ds ((d, undef) :: e) H (wpListIn (fw r) 0 P ops Q rest)) : G n ds e H (wpListIn (fw r) 0 P ops Q (o :: rest)) := fun a w he hh => by
  unfold wpListIn
  rw [if_neg (by rw [wanted_undef' he hg hj ht]; simp)]
  refine ⟨fun _ _ => trivial, ?_⟩
  rw [hd]
  exact h _ w (he.put hn undef) hh
theorem g_skipN {H : World → Prop} {o : Oper} {j t : Nat} {want b : Bool} (hd : o.dst = none) (hg : o.guard = some (j, want)) (hj : (ops[j]?).bind (·.dst) = some t) (ht : lk e t = some (.bool b)) (hb : (b == want) = false)
    (h : G n ds e H (wpListIn (fw r) 0 P ops Q rest)) : G n ds e H (wpListIn (fw r) 0 P ops Q (o :: rest)) := fun a w he hh => by
  unfold wpListIn
  rw [if_neg (by rw [wanted_some he hg hj ht, hb]; simp)]
  refine ⟨fun _ _ => trivial, ?_⟩
  rw [hd]
  exact h _ w (he.putNone undef) hh

theorem g_boxV {d : Nat} {T : TypeId} {x : Operand} {v : Value} {ty : TypeId} {pos : String} {after : Array Edge} (hx : ev e x = some v) (hn : Nat.blt d n = true)
    (h : ∀ b, w0.heap.size ≤ b → G n ds ((d, ptr b 0) :: e) (HV w0 M ((b, .cells v.cells T (0, 0)) :: S) vs ro) (wpListIn (fw r) 0 P ops Q rest)) :
    G n ds e (HV w0 M S vs ro) (wpListIn (fw r) 0 P ops Q (⟨some d, .box T x, ty, pos, after, none⟩ :: rest)) := g_box hx hn h
theorem g_allocV {d : Nat} {T : TypeId} {z : Value} {ty : TypeId} {pos : String} {after : Array Edge} (hz : ∀ w, (zeroValue T).run P w = .ok z w) (hn : Nat.blt d n = true)
    (h : ∀ b, w0.heap.size ≤ b → G n ds ((d, ptr b 0) :: e) (HV w0 M ((b, .cells z.cells T (0, 0)) :: S) vs ro) (wpListIn (fw r) 0 P ops Q rest)) :
    G n ds e (HV w0 M S vs ro) (wpListIn (fw r) 0 P ops Q (⟨some d, .alloc T, ty, pos, after, none⟩ :: rest)) := g_alloc hz hn h
theorem g_stS {t : TypeId} {x y : Operand} {b o : Nat} {cs cs' : Array Value} {T : TypeId} {v : Value} {S' : List (Nat × Obj)} {ty : TypeId} {pos : String} {after : Array Edge} (i : Nat)
    (hz : ∀ w, (sizeOf t).run P w = .ok 1 w) (hx : ev e x = some (ptr b o)) (hy : ev e y = some v) (h1 : v.oneCell' = true) (hi : S[i]? = some (b, .cells cs T (0, 0))) (ho : Nat.blt o cs.size = true) (hcs : cs.setIfInBounds o v = cs') (hS : S.set i (b, .cells cs' T (0, 0)) = S')
    (h : G n ds e (HV w0 M S' vs ro) (wpListIn (fw r) 0 P ops Q rest)) :
    G n ds e (HV w0 M S vs ro) (wpListIn (fw r) 0 P ops Q (⟨none, .store t x y, ty, pos, after, none⟩ :: rest)) := by
  have hl := (List.getElem?_eq_some_iff.1 hi).1
  exact g_storeAt (own' := S' ++ vbl vs) i hz hx hy h1 (by rw [List.getElem?_append_left hl]; exact hi) ho hcs (by rw [List.set_append_left _ _ hl, hS]) h
theorem g_stSA {t : TypeId} {x y : Operand} {b o : Nat} {cs us : Array Value} {cs' : List Value} {T : TypeId} {S' : List (Nat × Obj)} {ty : TypeId} {pos : String} {after : Array Edge} (i : Nat)
    (hz : ∀ w, (sizeOf t).run P w = .ok us.size w) (hx : ev e x = some (ptr b o)) (hy : ev e y = some (.agg us)) (h1 : ones us.toList = true) (hi : S[i]? = some (b, .cells cs T (0, 0))) (ho : Nat.ble (o + us.size) cs.size = true) (hcs : cs.toList.take o ++ us.toList ++ cs.toList.drop (o + us.toList.length) = cs') (hS : S.set i (b, .cells cs'.toArray T (0, 0)) = S')
    (h : G n ds e (HV w0 M S' vs ro) (wpListIn (fw r) 0 P ops Q rest)) :
    G n ds e (HV w0 M S vs ro) (wpListIn (fw r) 0 P ops Q (⟨none, .store t x y, ty, pos, after, none⟩ :: rest)) := fun a w he hh => by
  have hl := (List.getElem?_eq_some_iff.1 hi).1
  have hi' : (S ++ vbl vs)[i]? = some (b, .cells cs T (0, 0)) := by rw [List.getElem?_append_left hl]; exact hi
  have hb := HS.get hh i hi'
  have hst := run_storeCells_at P b o T us.toList 0 cs w hb (by simp at ho; simpa using ho) (fun v hv => ones_all h1 v hv)
  simp only [Nat.add_zero, hcs] at hst
  have hs : (storeVar t ⟨b, o, none⟩ (.agg us)).run P w = .ok () (w.setRow b cs'.toArray) := by
    simp [storeVar, hz, Value.cells, hst]
  refine wpListIn_skipped (w' := w.setRow b cs'.toArray) (by simp) (wanted_none rfl _) (by simp [execOp, he.eval hx, he.eval hy, Instr.storeAt, Instr.sureAddr, hs]) ?_
  refine h a _ he (HS.upd' hh i hi' Ext.setRow (setRow_heap w b cs _ T (0, 0) hb) ?_)
  rw [List.set_append_left _ _ hl, hS]

/-- the block of a slice of the call's own -/
theorem vbl_at (i : Nat) {v : VR} (hi : vs[i]? = some v) : S ++ vbl vs = (S ++ vbl (vs.take i)) ++ (v.bl ++ vbl (vs.drop (i + 1))) := by
  rw [show vbl vs = vbl (vs.take i ++ v :: vs.drop (i + 1)) from congrArg vbl (getO hi), vbl_append]
  simp only [vbl, List.append_assoc]
theorem vbl_set (i : Nat) {v v' : VR} (hi : vs[i]? = some v) : S ++ vbl (vs.set i v') = (S ++ vbl (vs.take i)) ++ (v'.bl ++ vbl (vs.drop (i + 1))) := by
  have hl := (List.getElem?_eq_some_iff.1 hi).1
  rw [show vs.set i v' = vs.take i ++ v' :: vs.drop (i + 1) by rw [List.set_eq_take_append_cons_drop, if_pos hl], vbl_append]
  simp only [vbl, List.append_assoc]

/-- append -/
theorem g_vapp {α : Type} (R : Row α) (i : Nat) {d : Nat} {t ty E : TypeId} {x y : Operand} {z : Value} {sz bytes ln mn cap c2 : Nat} {l m lm : List α} {sp : List Value} {q : Option (Nat × Nat)} {a2 : Option Addr} {pos : String} {after : Array Edge}
    (hlm : appc bytes l m = some lm) (ht : P.underlying t = some (.slice E)) (hi : (P.info? E).map (fun i => (i.zero, i.size, i.bytes)) = some (some z, sz, bytes)) (hsz : sz = R.sz) (hb0 : Nat.blt 0 bytes = true) (hz : z.cells.size = sz)
    (hvi : vs[i]? = some ⟨E, R.enc l, sp, q⟩) (hs0 : Nat.blt 0 R.sz = true) (hv : VOK sz ln cap (R.enc l) sp q)
    (hx : ev e x = some (slv q ln cap)) (hy : ev e y = some (.slice a2 mn c2)) (hmn : m.length = mn) (ha2 : AOK mn a2)
    (hsrc : ∀ w, HV w0 M S vs ro w → segOK w (aB a2, aO a2, R.enc m)) (hn : Nat.blt d n = true)
    (h : ∀ L : VL, VOK sz L.n L.cap (R.enc lm) L.sp L.q → ((q = none ↔ l = []) → (L.q = none ↔ lm = [])) → G n ds ((d, slv L.q L.n L.cap) :: e) (HV w0 M S (vs.set i ⟨E, R.enc lm, L.sp, L.q⟩) ro) (wpListIn (fw r) 0 P ops Q rest)) :
    G n ds e (HV w0 M S vs ro) (wpListIn (fw r) 0 P ops Q (⟨some d, .call ⟨.builtin .append, #[x, y], #[t, t]⟩, ty, pos, after, none⟩ :: rest)) := by
  obtain ⟨rfl, hbytes⟩ := appcO hlm
  have hb1 : 0 < bytes := by simpa using hb0
  subst hsz hmn
  obtain rfl := vlen R hv hs0
  by_cases hm : m = []
  · subst hm
    have hrest := h ⟨q, l.length, cap, sp⟩ (by simpa using hv) (by simp)
    simp only [List.append_nil] at hrest
    have hset : vs.set i ⟨E, R.enc l, sp, q⟩ = vs := by
      apply List.ext_getElem?
      intro k
      rw [List.getElem?_set]
      split
      · rename_i hik
        subst hik
        have := (List.getElem?_eq_some_iff.1 hvi).1
        rw [if_pos this, hvi]
      · rfl
    rw [hset] at hrest
    intro a w he hh
    obtain ⟨ii, hii⟩ : ∃ ii, P.info? E = some ii := by
      cases hh : P.info? E with
      | none => simp [hh] at hi
      | some ii => exact ⟨ii, rfl⟩
    have hle := hv.hle
    have hrun : (Builtin.append_ #[t, t] ty #[slv q l.length cap, .slice a2 0 c2]).run P w = .ok (slv q l.length cap) w := by
      cases q <;> cases a2 <;> simp [Builtin.append_, run_underlying ht, sizeOf, typeInfo, hii, Builtin.lenOf, Builtin.firstCells, hle, slv, storeCells, loadCells, loadCellsFrom]
    refine wpListIn_value (v := slv q l.length cap) (w' := w) (wanted_none rfl _) (by simp only [execOp, resolve]; simp [invoke, builtin, he.eval hx, he.eval (show ev e y = some (.slice a2 0 c2) from hy), hrun]) ?_
    exact hrest _ w (he.put hn _) hh
  · have hm0 : 0 < m.length := List.length_pos_iff.2 hm
    have hmx : l.length + m.length ≤ maxLen := by
      have h1 : (l.length + m.length) * 1 ≤ (l.length + m.length) * bytes := Nat.mul_le_mul_left _ hb1
      have h2 : maxLen = 9223372036854775807 := rfl
      omega
    obtain ⟨b2, o2, rfl⟩ := ha2 hm0
    have e1 := vbl_at (S := S) i hvi
    refine G.pre (H' := HS w0 M ((S ++ vbl (vs.take i)) ++ (vown E (R.enc l) sp q ++ vbl (vs.drop (i + 1)))) ro) ?_ (fun w hh => ?_)
    · refine g_appendM (q2 := some (b2, o2)) (S ++ vbl (vs.take i)) ht hi hz hx hy hv (by simp) hm0 (by rw [R.enc_len]) (fun w hh => hsrc w ?_) (R.enc_one m) hmx hbytes hn (fun q' cap' sp' hv' => ?_)
      · unfold HV; rw [e1]; exact hh
      · have := h ⟨some q', l.length + m.length, cap', sp'⟩ (by rw [R.enc_append]; exact hv') (fun _ => by simp [hm])
        refine this.pre (fun w hh => ?_)
        unfold HV
        rw [vbl_set (S := S) i hvi, R.enc_append]
        exact hh
    · have : HS w0 M (S ++ vbl vs) ro w := hh
      rw [e1] at this
      exact this
theorem enc_rep {α : Type} (R : Row α) (z : α) : ∀ k, R.enc (List.replicate k z) = (List.replicate k (R.cells z)).flatten
  | 0 => rfl
  | k + 1 => by rw [List.replicate_succ, List.replicate_succ, List.flatten_cons, ← enc_rep R z k]; rfl
theorem made_get {z : Array Value} {sz c : Nat} (hz : z.size = sz) : (madeCells z (c * sz)).toList = (List.replicate c z.toList).flatten := by
  subst hz
  apply List.ext_getElem?
  intro j
  induction c generalizing j with
  | zero => simp [madeCells]
  | succ c ih =>
    have key : ∀ k, (madeCells z k).toList = (List.range k).map (fun i => z[i % z.size]!) := by
      intro k; simp [madeCells]
    rw [key] at ih ⊢
    rw [List.replicate_succ, List.flatten_cons]
    by_cases hj : j < z.size
    · rw [List.getElem?_append_left (by simpa using hj), List.getElem?_map, List.getElem?_range (by rw [Nat.add_mul]; omega)]
      simp [Nat.mod_eq_of_lt hj, hj]
    · rw [List.getElem?_append_right (by simpa using Nat.le_of_not_lt hj)]
      have h1 := ih (j - z.toList.length)
      rw [← h1]
      simp only [List.getElem?_map, Array.length_toList]
      by_cases hk : j < (c + 1) * z.size
      · rw [List.getElem?_range hk, List.getElem?_range (by rw [Nat.add_mul] at hk; omega)]
        simp only [Option.map_some, Option.some.injEq]
        rw [show j % z.size = (j - z.size) % z.size from by rw [Nat.mod_eq_sub_mod (by omega)]]
      · rw [List.getElem?_eq_none (by simp; omega), List.getElem?_eq_none (by simp; rw [Nat.add_mul] at hk; omega)]
/-- make -/
theorem g_vmake {α : Type} (R : Row α) (z : α) {d : Nat} {t E : TypeId} {zv : Value} {sz bytes : Nat} {x y : Operand} {k1 k2 : IntKind} {m1 m2 : Int} {l : List α} {ty : TypeId} {pos : String} {after : Array Edge}
    (hl : makec bytes z m1 m2 = some l) (ht : P.underlying t = some (.slice E)) (hi : (P.info? E).map (fun i => (i.zero, i.size, i.bytes)) = some (some zv, sz, bytes)) (hsz : sz = R.sz) (hzc : zv.cells.toList = R.cells z)
    (hx : ev e x = some (.int k1 m1)) (hy : ev e y = some (.int k2 m2)) (hn : Nat.blt d n = true)
    (h : ∀ L : VL, VOK sz L.n L.cap (R.enc l) L.sp L.q → G n ds ((d, slv L.q L.n L.cap) :: e) (HV w0 M S (⟨E, R.enc l, L.sp, L.q⟩ :: vs) ro) (wpListIn (fw r) 0 P ops Q rest)) :
    G n ds e (HV w0 M S vs ro) (wpListIn (fw r) 0 P ops Q (⟨some d, .makeSlice t x y, ty, pos, after, none⟩ :: rest)) := by
  obtain ⟨rfl, h0, hnc, hb, hc⟩ := makecO hl
  subst hsz
  obtain ⟨ii, hi1, hi2⟩ : ∃ ii, P.info? E = some ii ∧ (ii.zero, ii.size, ii.bytes) = (some zv, R.sz, bytes) := by
    cases hii : P.info? E with
    | none => simp [hii] at hi
    | some ii => exact ⟨ii, rfl, by simpa [hii] using hi⟩
  simp only [Prod.mk.injEq] at hi2
  have hb' : bytes * m2.toNat ≤ 281474976710656 := by
    have h1 : ((m2.toNat : Nat) : Int) = m2 := by omega
    have h2 : ((bytes * m2.toNat : Nat) : Int) = (bytes : Int) * m2 := by rw [Int.natCast_mul, h1]
    omega
  have hzs : zv.cells.size = R.sz := by rw [← Array.length_toList, hzc, R.len]
  refine g_makeSlice (l := m1.toNat) (c := m2.toNat) ht hi1 hi2.1 hi2.2.1 hi2.2.2 hx hy (by omega) (by omega) (by omega) hb' (by omega) hn (fun b hbn => ?_)
  have hcells : (madeCells zv.cells (m2.toNat * R.sz)).toList = R.enc (List.replicate m1.toNat z) ++ R.enc (List.replicate (m2.toNat - m1.toNat) z) := by
    rw [made_get hzs, hzc, ← enc_rep, ← R.enc_append, List.replicate_append_replicate, show m1.toNat + (m2.toNat - m1.toNat) = m2.toNat by omega]
  have hv : VOK R.sz (List.replicate m1.toNat z).length m2.toNat (R.enc (List.replicate m1.toNat z)) (R.enc (List.replicate (m2.toNat - m1.toNat) z)) (some (b, 0)) :=
    ⟨R.enc_len _, by rw [← R.enc_append, R.enc_len, List.replicate_append_replicate, List.length_replicate, show m1.toNat + (m2.toNat - m1.toNat) = m2.toNat by omega], by rw [List.length_replicate]; omega, by have : maxLen = 9223372036854775807 := rfl; omega, by simp, by simp⟩
  have := h ⟨some (b, 0), (List.replicate m1.toNat z).length, m2.toNat, R.enc (List.replicate (m2.toNat - m1.toNat) z)⟩ hv
  simp only [List.length_replicate] at this
  refine this.pre (fun w hh => ?_)
  unfold HV
  simp only [vbl, VR.bl, vown]
  have e2 : (R.enc (List.replicate m1.toNat z) ++ R.enc (List.replicate (m2.toNat - m1.toNat) z)).toArray = madeCells zv.cells (m2.toNat * R.sz) := by
    apply Array.toList_inj.1; rw [hcells]
  rw [e2]
  exact HS.perm hh List.perm_middle.symm
/-- []T{..} -/
theorem g_vlit {α : Type} (R : Row α) (l : List α) {d : Nat} {t E : TypeId} {len sz : Nat} {parts : List (Nat × Operand)} {ps : List (Nat × Value)} {z : Value} {cells : List Value} {ty : TypeId} {pos : String} {after : Array Edge}
    (hu : ∀ w, (underlying t).run P w = .ok (.slice E) w) (hz : ∀ w, (sizeOf E).run P w = .ok sz w) (hzv : ∀ w, (zeroValue E).run P w = .ok z w) (hp : evp e parts = some ps) (hs : Nat.ble (len * sz) 16777216 = true)
    (hf : fillL sz (zsL z (len * sz)) ps = some cells) (hl0 : Nat.blt 0 (len * sz) = true) (hn : Nat.blt d n = true) (hsz : sz = R.sz) (hlen : l.length = len) (hc : cells = R.enc l)
    (h : ∀ L : VL, VOK sz L.n L.cap (R.enc l) L.sp L.q → G n ds ((d, slv L.q L.n L.cap) :: e) (HV w0 M S (⟨E, R.enc l, L.sp, L.q⟩ :: vs) ro) (wpListIn (fw r) 0 P ops Q rest)) :
    G n ds e (HV w0 M S vs ro) (wpListIn (fw r) 0 P ops Q (⟨some d, .buildSlice t len parts.toArray, ty, pos, after, none⟩ :: rest)) := by
  subst hc
  subst hlen
  refine g_buildSlice hu hz hzv hp hs hf hl0 hn (fun b hb => ?_)
  have hle : l.length * sz ≤ 16777216 := Nat.le_of_ble_eq_true hs
  have hsz0 : 0 < sz := by
    have : 0 < l.length * sz := by simpa using hl0
    exact Nat.pos_of_mul_pos_left this
  have hll : l.length ≤ 16777216 := Nat.le_trans (Nat.le_mul_of_pos_right _ hsz0) hle
  have hv : VOK sz l.length l.length (R.enc l) [] (some (b, 0)) := VOK.full (by rw [R.enc_len, hsz]) (by have : maxLen = 9223372036854775807 := rfl; omega)
  have := h ⟨some (b, 0), l.length, l.length, []⟩ hv
  refine this.pre (fun w hh => ?_)
  unfold HV
  simp only [vbl, VR.bl, vown, List.append_nil]
  exact HS.perm hh List.perm_middle.symm

/-- []T{} -/
theorem g_vlit0 {α : Type} (R : Row α) {d : Nat} {t E : TypeId} {sz : Nat} {ty : TypeId} {pos : String} {after : Array Edge}
    (hu : ∀ w, (underlying t).run P w = .ok (.slice E) w) (hz : ∀ w, (sizeOf E).run P w = .ok sz w) (hn : Nat.blt d n = true) (hsz : sz = R.sz)
    (h : ∀ L : VL, VOK sz L.n L.cap (R.enc []) L.sp L.q → G n ds ((d, slv L.q L.n L.cap) :: e) (HV w0 M S (⟨E, R.enc [], L.sp, L.q⟩ :: vs) ro) (wpListIn (fw r) 0 P ops Q rest)) :
    G n ds e (HV w0 M S vs ro) (wpListIn (fw r) 0 P ops Q (⟨some d, .buildSlice t 0 #[], ty, pos, after, none⟩ :: rest)) := by
  refine g_new (.cells #[] E (0, 0)) (fun b => slv (some (b, 0)) 0 0) rfl rfl hn (fun a w he _ => ?_) (fun b hb => ?_)
  · have e0 : (Array.map (fun _ => (default : Value)) (Array.range 0)) = #[] := by simp
    simp [execOp, Instr.buildSlice, hu, hz, Instr.fill, newRow, slv, e0]
  · have hv : VOK sz 0 0 (R.enc []) [] (some (b, 0)) := ⟨by simp [Row.enc], by simp [Row.enc], Nat.le_refl _, Nat.zero_le _, by simp, by simp⟩
    have := h ⟨some (b, 0), 0, 0, []⟩ hv
    refine this.pre (fun w hh => ?_)
    unfold HV
    simp only [vbl, VR.bl, vown, List.append_nil, R.enc_nil]
    exact HS.perm hh List.perm_middle.symm

/-- a slice of the call's own turned by a store -/
theorem HV.vupd {w w' : World} (hh : HV w0 M S vs ro w) (i : Nat) {E : TypeId} {xs xs' sp : List Value} {q : Nat × Nat} (hi : vs[i]? = some ⟨E, xs, sp, some q⟩) (hx : Ext [q.1] w w') (ho : w'.heap[q.1]? = some (.cells (xs' ++ sp).toArray E (0, 0))) : HV w0 M S (vs.set i ⟨E, xs', sp, some q⟩) ro w' := by
  have h1 : HS w0 M ((S ++ vbl (vs.take i)) ++ (vown E xs sp (some q) ++ vbl (vs.drop (i + 1)))) ro w := by
    have : HS w0 M (S ++ vbl vs) ro w := hh
    rw [vbl_at (S := S) i hi] at this
    exact this
  have hk : ((S ++ vbl (vs.take i)) ++ (vown E xs sp (some q) ++ vbl (vs.drop (i + 1))))[(S ++ vbl (vs.take i)).length]? = some (q.1, .cells (xs ++ sp).toArray E (0, 0)) := by
    rw [List.getElem?_append_right (Nat.le_refl _)]; simp [vown]
  have h2 := h1.upd (S ++ vbl (vs.take i)).length hk hx ho
  unfold HV
  rw [vbl_set (S := S) i hi]
  rw [List.set_append_right _ _ (Nat.le_refl _)] at h2
  simpa [vown, VR.bl] using h2
theorem g_vst {α : Type} (R : Row α) (i : Nat) (f : Nat) (x1 : α) {t : TypeId} {x y : Operand} {b a : Nat} {E : TypeId} {sz ln cap : Nat} {l l' : List α} {j : Int} {x0 : α} {v : Value} {sp : List Value} {q : Option (Nat × Nat)} {ty : TypeId} {pos : String} {after : Array Edge}
    (hz : ∀ w, (sizeOf t).run P w = .ok 1 w) (hx : ev e x = some (ptr b a)) (hy : ev e y = some v) (h1 : v.oneCell' = true) (hvi : vs[i]? = some ⟨E, R.enc l, sp, q⟩) (hv : VOK sz ln cap (R.enc l) sp q)
    (hb : b = bk q) (ha : a = off q + j.toNat * sz + f) (hsz : sz = R.sz) (hj : ix l j = some x0) (hf : Nat.blt f sz = true) (hset : (R.cells x0).set f v = R.cells x1) (hl' : l.set j.toNat x1 = l')
    (h : VOK sz ln cap (R.enc l') sp q → G n ds e (HV w0 M S (vs.set i ⟨E, R.enc l', sp, q⟩) ro) (wpListIn (fw r) 0 P ops Q rest)) :
    G n ds e (HV w0 M S vs ro) (wpListIn (fw r) 0 P ops Q (⟨none, .store t x y, ty, pos, after, none⟩ :: rest)) := fun ac w he hh => by
  subst hsz hl'
  obtain ⟨hj0, hjl, hjx⟩ := ixO hj
  have hf' : f < R.sz := by simpa using hf
  cases q with
  | none =>
    have h1 := (hv.hnone rfl).1
    have h2 := hv.hlen
    rw [R.enc_len, h1, Nat.zero_mul] at h2
    have h3 : 0 < l.length * R.sz := Nat.mul_pos (by omega) (Nat.lt_of_le_of_lt (Nat.zero_le _) hf')
    omega
  | some p =>
    have hoff := hv.hoff p rfl
    have hbk : w.heap[p.1]? = some (.cells (R.enc l ++ sp).toArray E (0, 0)) := hh.hs.ownOK (p.1, _) (HV.vmem i hvi _ (by simp [VR.bl, vown]))
    simp only [bk, off, Option.getD_some, hoff, Nat.zero_add] at hb ha
    subst hb ha
    have hlt : j.toNat * R.sz + f < (R.enc l).length := by
      rw [R.enc_len]
      have : (j.toNat + 1) * R.sz ≤ l.length * R.sz := Nat.mul_le_mul_right _ hjl
      rw [Nat.add_mul] at this
      omega
    have hs := run_storeVar_cell (P := P) (t := t) (v := v) (o := j.toNat * R.sz + f) (hz w) hbk (by simp; omega) h1
    have hset2 := R.enc_set1 l j.toNat f x0 x1 v hjx hf' hset
    have hcs : (R.enc l ++ sp).toArray.setIfInBounds (j.toNat * R.sz + f) v = (R.enc (l.set j.toNat x1) ++ sp).toArray := by
      apply Array.toList_inj.1
      rw [Array.toList_setIfInBounds]
      simp only
      rw [List.set_append_left _ _ hlt, hset2]
    rw [hcs] at hs
    refine wpListIn_skipped (w' := w.setRow p.1 (R.enc (l.set j.toNat x1) ++ sp).toArray) (by simp) (wanted_none rfl _) (by simp [execOp, he.eval hx, he.eval hy, Instr.storeAt, Instr.sureAddr, hs]) ?_
    have hlen : (R.enc (l.set j.toNat x1)).length = (R.enc l).length := by rw [R.enc_len, R.enc_len, List.length_set]
    refine h ⟨by rw [hlen]; exact hv.hlen, by rw [List.length_append, hlen, ← List.length_append]; exact hv.hcap, hv.hle, hv.hmax, (fun hn => by cases hn), hv.hoff⟩ ac _ he (hh.vupd i hvi Ext.setRow (setRow_heap w p.1 _ _ E (0, 0) hbk))
theorem g_vstA {α : Type} (R : Row α) (i : Nat) (x1 : α) {t : TypeId} {x y : Operand} {b a : Nat} {E : TypeId} {sz ln cap : Nat} {l l' : List α} {j : Int} {x0 : α} {us : Array Value} {sp : List Value} {q : Option (Nat × Nat)} {ty : TypeId} {pos : String} {after : Array Edge}
    (hz : ∀ w, (sizeOf t).run P w = .ok us.size w) (hx : ev e x = some (ptr b a)) (hy : ev e y = some (.agg us)) (hvi : vs[i]? = some ⟨E, R.enc l, sp, q⟩) (hv : VOK sz ln cap (R.enc l) sp q)
    (hb : b = bk q) (ha : a = off q + j.toNat * sz) (hsz : sz = R.sz) (hs0 : Nat.blt 0 R.sz = true) (hj : ix l j = some x0) (hset : us.toList = R.cells x1) (hl' : l.set j.toNat x1 = l')
    (h : VOK sz ln cap (R.enc l') sp q → G n ds e (HV w0 M S (vs.set i ⟨E, R.enc l', sp, q⟩) ro) (wpListIn (fw r) 0 P ops Q rest)) :
    G n ds e (HV w0 M S vs ro) (wpListIn (fw r) 0 P ops Q (⟨none, .store t x y, ty, pos, after, none⟩ :: rest)) := fun ac w he hh => by
  subst hsz hl'
  obtain ⟨hj0, hjl, hjx⟩ := ixO hj
  cases q with
  | none =>
    have h1 := (hv.hnone rfl).1
    have h2 := hv.hlen
    rw [R.enc_len, h1, Nat.zero_mul] at h2
    have h3 : 0 < l.length * R.sz := Nat.mul_pos (by omega) (by simpa using hs0)
    omega
  | some p =>
    have hoff := hv.hoff p rfl
    have hbk : w.heap[p.1]? = some (.cells (R.enc l ++ sp).toArray E (0, 0)) := hh.hs.ownOK (p.1, _) (HV.vmem i hvi _ (by simp [VR.bl, vown]))
    simp only [bk, off, Option.getD_some, hoff, Nat.zero_add] at hb ha
    subst hb ha
    have hus : us.toList.length = R.sz := by rw [hset, R.len]
    have hle : j.toNat * R.sz + R.sz ≤ (R.enc l).length := by
      rw [R.enc_len]
      have : (j.toNat + 1) * R.sz ≤ l.length * R.sz := Nat.mul_le_mul_right _ hjl
      rw [Nat.add_mul] at this
      omega
    have hst := run_storeCells_at P p.1 (j.toNat * R.sz) E us.toList 0 (R.enc l ++ sp).toArray w hbk (by simp [hus]; omega) (fun v hv => ones_all (R.one x1) v (by rw [← hset]; exact hv))
    have hcs : (R.enc l ++ sp).toArray.toList.take (j.toNat * R.sz + 0) ++ us.toList ++ (R.enc l ++ sp).toArray.toList.drop (j.toNat * R.sz + 0 + us.toList.length) = R.enc (l.set j.toNat x1) ++ sp := by
      rw [← R.enc_set l j.toNat x0 x1 hjx, hus, hset]
      simp only [Nat.add_zero]
      rw [List.take_append_of_le_length (by omega), List.drop_append_of_le_length (by omega), List.append_assoc, List.append_assoc, List.append_assoc]
    rw [hcs] at hst
    have hs : (storeVar t ⟨p.1, j.toNat * R.sz, none⟩ (.agg us)).run P w = .ok () (w.setRow p.1 (R.enc (l.set j.toNat x1) ++ sp).toArray) := by
      simp [storeVar, hz, Value.cells, hst]
    refine wpListIn_skipped (w' := w.setRow p.1 (R.enc (l.set j.toNat x1) ++ sp).toArray) (by simp) (wanted_none rfl _) (by simp [execOp, he.eval hx, he.eval hy, Instr.storeAt, Instr.sureAddr, hs]) ?_
    have hlen : (R.enc (l.set j.toNat x1)).length = (R.enc l).length := by rw [R.enc_len, R.enc_len, List.length_set]
    refine h ⟨by rw [hlen]; exact hv.hlen, by rw [List.length_append, hlen, ← List.length_append]; exact hv.hcap, hv.hle, hv.hmax, (fun hn => by cases hn), hv.hoff⟩ ac _ he (hh.vupd i hvi Ext.setRow (setRow_heap w p.1 _ _ E (0, 0) hbk))

/-- a call: of the own blocks S0 and slices vs0 are handed over, the others stay -/
theorem g_callH {ι : Type} {o : Oper} {d : Nat} {p : ι → Prop} {ret : ι → Value} {f : FuncId} {x : Operand} {xs : List Operand} {ts : Array TypeId} {fst cap : Array Value} {us args : List Value} (S0 : List (Nat × Obj)) (vs0 : List VR) {S1 : ι → List (Nat × Obj)} {vs1 : ι → List VR}
    (ho : o.op = .call ⟨.value x, xs.toArray, ts⟩) (hd : o.dst = some d) (hg : o.guard = none) (hn : Nat.blt d n = true)
    (hx : ev e x = some (.func (.func f) fst cap)) (hxs : evs e xs = some us) (ha : fst.toList ++ us ++ cap.toList = args)
    (hf : ∀ args w, (callFunc f args).run P w = .ok (.enter f args) w)
    (hc : ∀ w, HV w0 M (S0 ++ S) (vs0 ++ vs) ro w → Calls P f args.toArray w (fun en w' => ∃ i, en = .returned (ret i) ∧ p i ∧ HV w (keys S0 vs0) (S1 i) (vs1 i) [] w'))
    (h : ∀ i, p i → G n ds ((d, ret i) :: e) (HV w0 M (S1 i ++ S) (vs1 i ++ vs) ro) (wpListIn (fw r) 0 P ops Q rest)) : G n ds e (HV w0 M (S0 ++ S) (vs0 ++ vs) ro) (wpListIn (fw r) 0 P ops Q (o :: rest)) :=
  g_call (H' := fun i w' => p i ∧ HV w0 M (S1 i ++ S) (vs1 i ++ vs) ro w') ho hd hg hn hx hxs ha hf (fun w hh => (hc w hh).mono (by rintro en w' ⟨i, rfl, hp, hF⟩; exact ⟨i, rfl, hp, hh.back hF⟩))
    (fun i => g_pure (fun w hh => hh.1) (fun hp => (h i hp).pre (fun w hh => hh.2)))
theorem HV.ofExt {w w' : World} (h : Ext [] w w') : HV w (keys [] []) [] [] [] w' := ⟨h.os, h.tape, h.output, h.size, fun k hk _ => h.block k hk (by simp), by simp [vbl], by simp [vbl], by simp [vbl], by simp, by simp⟩
theorem HV.news {w w' : World} (h : HV w0 M S vs ro w) {Sg' : List Sg} (hn : News w w' Sg') : HV w0 M S vs (Sg' ++ ro) w' := HS.news h hn
/-- a call that leaves new segments -/
theorem g_callN {ι : Type} {o : Oper} {d : Nat} {p : ι → Prop} {Sn : ι → List Sg} {ret : ι → Value} {f : FuncId} {x : Operand} {xs : List Operand} {ts : Array TypeId} {fst cap : Array Value} {us args : List Value}
    (ho : o.op = .call ⟨.value x, xs.toArray, ts⟩) (hd : o.dst = some d) (hg : o.guard = none) (hn : Nat.blt d n = true)
    (hx : ev e x = some (.func (.func f) fst cap)) (hxs : evs e xs = some us) (ha : fst.toList ++ us ++ cap.toList = args)
    (hf : ∀ args w, (callFunc f args).run P w = .ok (.enter f args) w)
    (hc : ∀ w, HV w0 M S vs ro w → Calls P f args.toArray w (fun en w' => ∃ i, en = .returned (ret i) ∧ p i ∧ News w w' (Sn i)))
    (h : ∀ i, p i → G n ds ((d, ret i) :: e) (HV w0 M S vs (Sn i ++ ro)) (wpListIn (fw r) 0 P ops Q rest)) : G n ds e (HV w0 M S vs ro) (wpListIn (fw r) 0 P ops Q (o :: rest)) :=
  g_callR ho hd hg hn hx hxs ha hf hc h
end ops

/-! ### values -/
section vals
variable {P : Program} {e : EnvL} {w : World} {dst : Option Tmp} {ty : TypeId} {pos : String} {after : Array Edge} {g : Option (Nat × Bool)}
theorem v_addc {t u : TypeId} {x y : Operand} {a b c : Int} (h : addc a b = some c) (hx : ev e x = some (.int .i64 a)) (hy : ev e y = some (.int .i64 b)) : Val P e w ⟨dst, .binOp .add t x y u, ty, pos, after, g⟩ (.int .i64 c) := by
  obtain ⟨rfl, h1⟩ := addcO h; exact v_add hx hy (wrap_i64 h1)
theorem v_subc {t u : TypeId} {x y : Operand} {a b c : Int} (h : subc a b = some c) (hx : ev e x = some (.int .i64 a)) (hy : ev e y = some (.int .i64 b)) : Val P e w ⟨dst, .binOp .sub t x y u, ty, pos, after, g⟩ (.int .i64 c) := by
  obtain ⟨rfl, h1⟩ := subcO h; exact v_sub hx hy (wrap_i64 h1)
theorem v_mulc {t u : TypeId} {x y : Operand} {a b c : Int} (h : mulc a b = some c) (hx : ev e x = some (.int .i64 a)) (hy : ev e y = some (.int .i64 b)) : Val P e w ⟨dst, .binOp .mul t x y u, ty, pos, after, g⟩ (.int .i64 c) := by
  obtain ⟨rfl, h1⟩ := mulcO h; exact v_mul hx hy (wrap_i64 h1)
theorem v_quoc {t u : TypeId} {x y : Operand} {a b c : Int} (h : quoc a b = some c) (hx : ev e x = some (.int .i64 a)) (hy : ev e y = some (.int .i64 b)) : Val P e w ⟨dst, .binOp .quo t x y u, ty, pos, after, g⟩ (.int .i64 c) := by
  obtain ⟨rfl, h0, h1⟩ := quocO h; exact v_quo hx hy h0 (wrap_i64 h1)
theorem v_remc {t u : TypeId} {x y : Operand} {k : IntKind} {a b c : Int} (h : remc a b = some c) (hx : ev e x = some (.int k a)) (hy : ev e y = some (.int k b)) : Val P e w ⟨dst, .binOp .rem t x y u, ty, pos, after, g⟩ (.int k c) := by
  obtain ⟨rfl, h0⟩ := remcO h; exact v_rem hx hy h0
theorem v_negc {t : TypeId} {x : Operand} {a c : Int} (h : negc a = some c) (hx : ev e x = some (.int .i64 a)) : Val P e w ⟨dst, .unOp .neg t x, ty, pos, after, g⟩ (.int .i64 c) := by
  obtain ⟨rfl, h1⟩ := negcO h; exact v_neg hx (wrap_i64 h1)
theorem v_nilS {x : Operand} (hx : ev e x = some (.slice none 0 0)) : Val P e w ⟨dst, .assign x, ty, pos, after, g⟩ (slv none 0 0) := v_assign hx
theorem v_nilM {x : Operand} (hx : ev e x = some (.slice none 0 0)) : Val P e w ⟨dst, .move x, ty, pos, after, g⟩ (slv none 0 0) := v_move hx
theorem binOp_eql_sl {t : TypeId} {a c : Option Addr} {n1 c1 n2 c2 : Nat} : binOp .eql t (.slice a n1 c1) (.slice c n2 c2) = (do pure (.bool (← Op.equal t (.slice a n1 c1) (.slice c n2 c2)))) := rfl
theorem binOp_neq_sl {t : TypeId} {a c : Option Addr} {n1 c1 n2 c2 : Nat} : binOp .neq t (.slice a n1 c1) (.slice c n2 c2) = (do pure (.bool (!(← Op.equal t (.slice a n1 c1) (.slice c n2 c2))))) := rfl
theorem run_eqNil {t E : TypeId} {a : Option Addr} {n c : Nat} (hu : (underlying t).run P w = .ok (.slice E) w) : (Op.equal t (.slice a n c) (.slice none 0 0)).run P w = .ok a.isNone w := by
  have : (Op.equalIn 10000 t (.slice a n c) (.slice none 0 0)).run P w = .ok a.isNone w := by
    unfold Op.equalIn
    cases a <;> simp [hu]
  exact this
/-- is a slice nil? -/
theorem v_eqlNil {α : Type} {l : List α} {t u E : TypeId} {x y : Operand} {q : Option (Nat × Nat)} {n c : Nat} (hn : q = none ↔ l = []) (hu : (underlying t).run P w = .ok (.slice E) w) (hx : ev e x = some (slv q n c)) (hy : ev e y = some (.slice none 0 0)) :
    Val P e w ⟨dst, .binOp .eql t x y u, ty, pos, after, g⟩ (.bool l.isEmpty) := fun n' ds a he => by
  have h2 : (eqGuard .eql t x y (slv q n c) (.slice none 0 0)).run P w = .ok () w := by cases q <;> rfl
  have h3 : (qA q).isNone = l.isEmpty := by
    rw [Bool.eq_iff_iff]
    cases q <;> cases l <;> simp_all
  have h4 : (binOp .eql t (slv q n c) (.slice none 0 0)).run P w = .ok (.bool l.isEmpty) w := by
    simp only [slv, binOp_eql_sl, Sem.run_bind, run_eqNil hu, Result.andThen_ok, Sem.run_pure]
    rw [← h3]
  simp only [execOp, he.eval hx, he.eval hy, Sem.run_bind, h2, Result.andThen_ok, h4, Sem.run_pure]
theorem v_neqNil {α : Type} {l : List α} {t u E : TypeId} {x y : Operand} {q : Option (Nat × Nat)} {n c : Nat} (hn : q = none ↔ l = []) (hu : (underlying t).run P w = .ok (.slice E) w) (hx : ev e x = some (slv q n c)) (hy : ev e y = some (.slice none 0 0)) :
    Val P e w ⟨dst, .binOp .neq t x y u, ty, pos, after, g⟩ (.bool (!l.isEmpty)) := fun n' ds a he => by
  have h2 : (eqGuard .neq t x y (slv q n c) (.slice none 0 0)).run P w = .ok () w := by cases q <;> rfl
  have h3 : (qA q).isNone = l.isEmpty := by
    rw [Bool.eq_iff_iff]
    cases q <;> cases l <;> simp_all
  have h4 : (binOp .neq t (slv q n c) (.slice none 0 0)).run P w = .ok (.bool (!l.isEmpty)) w := by
    simp only [slv, binOp_neq_sl, Sem.run_bind, run_eqNil hu, Result.andThen_ok, Sem.run_pure]
    rw [← h3]
  simp only [execOp, he.eval hx, he.eval hy, Sem.run_bind, h2, Result.andThen_ok, h4, Sem.run_pure]
theorem v_eqlNil0 {t u E : TypeId} {x y : Operand} (hu : (underlying t).run P w = .ok (.slice E) w) (hx : ev e x = some (slv none 0 0)) (hy : ev e y = some (.slice none 0 0)) :
    Val P e w ⟨dst, .binOp .eql t x y u, ty, pos, after, g⟩ (.bool true) := v_eqlNil (l := ([] : List Nat)) (by simp) hu hx hy
theorem v_neqNil0 {t u E : TypeId} {x y : Operand} (hu : (underlying t).run P w = .ok (.slice E) w) (hx : ev e x = some (slv none 0 0)) (hy : ev e y = some (.slice none 0 0)) :
    Val P e w ⟨dst, .binOp .neq t x y u, ty, pos, after, g⟩ (.bool false) := v_neqNil (l := ([] : List Nat)) (by simp) hu hx hy
theorem nieN {α : Type} : ((none : Option (Nat × Nat)) = none ↔ ([] : List α) = []) := ⟨fun _ => rfl, fun _ => rfl⟩
theorem nieP {α : Type} {R : Row α} {n cap : Nat} {l : List α} {sp : List Value} {q : Option (Nat × Nat)} (hv : VOK R.sz n cap (R.enc l) sp q) (h0 : Nat.blt 0 R.sz = true) (hl : Nat.blt 0 l.length = true) : q = none ↔ l = [] := by
  have h1 := vlen R hv h0
  have h2 : 0 < l.length := by simpa using hl
  refine ⟨fun hq => absurd hq (vne hv (by omega)), fun hl => ?_⟩
  subst hl
  simp at h2
/-- the address of an element -/
theorem v_ixA {α : Type} {l : List α} {i : Int} {x : α} (h : ix l i = some x) {t E : TypeId} {xo io : Operand} {q : Option (Nat × Nat)} {n cap sz : Nat} {k : IntKind} (hu : (underlying t).run P w = .ok (.slice E) w) (hz : (sizeOf E).run P w = .ok sz w)
    (hx : ev e xo = some (slv q n cap)) (hi : ev e io = some (.int k i)) (hn : l.length = n) (hq : 0 < n → q ≠ none) : Val P e w ⟨dst, .indexAddr t xo io, ty, pos, after, g⟩ (ptr (bk q) (off q + i.toNat * sz)) := by
  obtain ⟨h0, h1, _⟩ := ixO h
  subst hn
  exact v_indexAddr i.toNat hu hz hx hi (by omega) h1 (hq (by omega))
theorem v_ixR {α : Type} {l : List α} {i : Int} {x : α} (h : ix l i = some x) {t E : TypeId} {xo io : Operand} {q : Option Addr} {n cap sz : Nat} {k : IntKind} (hu : (underlying t).run P w = .ok (.slice E) w) (hz : (sizeOf E).run P w = .ok sz w)
    (hx : ev e xo = some (.slice q n cap)) (hi : ev e io = some (.int k i)) (hn : l.length = n) (hq : AOK n q) : Val P e w ⟨dst, .indexAddr t xo io, ty, pos, after, g⟩ (ptr (aB q) (aO q + i.toNat * sz)) := by
  obtain ⟨h0, h1, _⟩ := ixO h
  subst hn
  obtain ⟨b, o, rfl⟩ := hq (by omega)
  exact v_indexAddr (r := some (b, o)) i.toNat hu hz hx hi (by omega) h1 (by simp)
theorem v_lenR {α : Type} {l : List α} {t E : TypeId} {x : Operand} {q : Option Addr} {n cap : Nat} (hn : l.length = n) (hu : (underlying t).run P w = .ok (.slice E) w) (hx : ev e x = some (.slice q n cap)) :
    Val P e w ⟨dst, .call ⟨.builtin .len, #[x], #[t]⟩, ty, pos, after, g⟩ (.int .i64 l.length) := by
  subst hn; exact v_len hu hx
theorem v_lenN {α : Type} {l : List α} {t E : TypeId} {x : Operand} {q : Option (Nat × Nat)} {n cap : Nat} (hn : l.length = n) (hu : (underlying t).run P w = .ok (.slice E) w) (hx : ev e x = some (slv q n cap)) :
    Val P e w ⟨dst, .call ⟨.builtin .len, #[x], #[t]⟩, ty, pos, after, g⟩ (.int .i64 l.length) := by
  subst hn; exact v_lenS hu hx
/-- an element, or a part of it, loaded -/
theorem seg_elem {α : Type} (R : Row α) {l : List α} {i : Int} {x : α} {b o : Nat} (h : ix l i = some x) (hs : segOK w (b, o, R.enc l)) (f : Nat) {v : Value} (hv : (R.cells x)[f]? = some v) : w.cell? ⟨b, o + i.toNat * R.sz + f, none⟩ = some v := by
  obtain ⟨_, h1, h2⟩ := ixO h
  have hf : f < R.sz := by rw [← R.len x]; exact (List.getElem?_eq_some_iff.1 hv).1
  have := hs.at (j := i.toNat * R.sz + f) (v := v) (by rw [R.enc_get l i.toNat f x h2 hf]; exact hv)
  rwa [← Nat.add_assoc] at this
theorem v_ldE {α : Type} (R : Row α) (f : Nat) {l : List α} {i : Int} {x : α} (h : ix l i = some x) {t : TypeId} {xo : Operand} {b o a : Nat} {v : Value} (hg' : (isAgg t).run P w = .ok false w) (hx : ev e xo = some (ptr b a)) (hs : segOK w (b, o, R.enc l)) (hv : (R.cells x)[f]? = some v) (ha : a = o + i.toNat * R.sz + f) :
    Val P e w ⟨dst, .load t xo, ty, pos, after, g⟩ v := by
  subst ha; exact v_load hg' hx (seg_elem R h hs f hv)
theorem v_ldEA {α : Type} (R : Row α) (f : Nat) (us : List Value) {l : List α} {i : Int} {x : α} (h : ix l i = some x) {t : TypeId} {xo : Operand} {b o a : Nat} (hg' : (isAgg t).run P w = .ok true w) (hz : (sizeOf t).run P w = .ok us.length w) (hx : ev e xo = some (ptr b a)) (hs : segOK w (b, o, R.enc l)) (hu : ((R.cells x).drop f).take us.length = us) (ha : a = o + i.toNat * R.sz + f) :
    Val P e w ⟨dst, .load t xo, ty, pos, after, g⟩ (.agg us.toArray) := by
  subst ha
  refine v_loadAgg hg' hz hx (fun j hj => ?_)
  have := seg_elem R h hs (f + j) (take_drop_get hu j hj)
  rwa [← Nat.add_assoc] at this
/-- a part of a struct -/
theorem v_fld1 {s : TypeId} {x : Operand} {f : Nat} {cs : Array Value} {v : Value} (T o : Nat) {fs : Array Field} (hu : (underlying s).run P w = .ok (.struct fs) w) (hf : (fs[f]?).map (fun fd => (fd.type, fd.offset)) = some (T, o)) (hg : (isAgg T).run P w = .ok false w) (hx : ev e x = some (.agg cs)) (hv : cs.toList[o]? = some v) :
    Val P e w ⟨dst, .field s x f, ty, pos, after, g⟩ v := by
  obtain ⟨fd, hfd, he⟩ : ∃ fd, fs[f]? = some fd ∧ (fd.type, fd.offset) = (T, o) := by
    cases hh : fs[f]? with
    | none => simp [hh] at hf
    | some fd => exact ⟨fd, rfl, by simpa [hh] using hf⟩
  simp only [Prod.mk.injEq] at he
  obtain ⟨h1, h2⟩ := he
  subst h1 h2
  exact v_field hu hfd hx (part_one hg (by rw [← Array.getElem?_toList]; exact hv))
theorem v_fldA {s : TypeId} {x : Operand} {f : Nat} {cs : Array Value} (us : List Value) (T o : Nat) {fs : Array Field} (hu : (underlying s).run P w = .ok (.struct fs) w) (hf : (fs[f]?).map (fun fd => (fd.type, fd.offset)) = some (T, o)) (hg : (isAgg T).run P w = .ok true w) (hz : (sizeOf T).run P w = .ok us.length w) (hx : ev e x = some (.agg cs)) (hv : (cs.toList.drop o).take us.length = us) :
    Val P e w ⟨dst, .field s x f, ty, pos, after, g⟩ (.agg us.toArray) := by
  obtain ⟨fd, hfd, he⟩ : ∃ fd, fs[f]? = some fd ∧ (fd.type, fd.offset) = (T, o) := by
    cases hh : fs[f]? with
    | none => simp [hh] at hf
    | some fd => exact ⟨fd, rfl, by simpa [hh] using hf⟩
  simp only [Prod.mk.injEq] at he
  obtain ⟨h1, h2⟩ := he
  subst h1 h2
  refine v_field hu hfd hx ?_
  have hsub : cs.extract fd.offset (fd.offset + us.length) = us.toArray := by
    apply Array.toList_inj.1
    rw [Array.toList_extract, List.extract_eq_take_drop]
    simpa using hv
  simp [part, hg, hz, hsub]
end vals
end Go.Gx

-- plain facts: lists, numbers
namespace Go.Pl
def idxf {α : Type} (p : α → Bool) (l : List α) : Int := match l.findIdx? p with
  | none => -1
  | some i => i
theorem idxf_found {α : Type} {p : α → Bool} {l : List α} {d : α} {k : Nat} (hk : k < l.length) (h : ∀ i, i < k → p (l.getD i d) = false) (hp : p (l.getD k d) = true) : idxf p l = (k : Int) := by
  have : l.findIdx? p = some k := by
    rw [List.findIdx?_eq_some_iff_getElem]
    refine ⟨hk, ?_, fun j hj => ?_⟩
    · simpa [List.getD_eq_getElem?_getD, hk] using hp
    · have := h j hj
      have hjl : j < l.length := by omega
      simpa [List.getD_eq_getElem?_getD, hjl] using this
  simp [idxf, this]
theorem idxf_none {α : Type} {p : α → Bool} {l : List α} {d : α} (h : ∀ i, i < l.length → p (l.getD i d) = false) : idxf p l = -1 := by
  have : l.findIdx? p = none := by
    rw [List.findIdx?_eq_none_iff]
    intro x hx
    obtain ⟨i, hi, rfl⟩ := List.mem_iff_getElem.1 hx
    have := h i hi
    simpa [List.getD_eq_getElem?_getD, hi] using this
  simp [idxf, this]
theorem idxf_nonneg {α : Type} {p : α → Bool} {l : List α} : decide (0 ≤ idxf p l) = l.any p := by
  unfold idxf
  cases h : l.findIdx? p with
  | none =>
    rw [List.findIdx?_eq_none_iff] at h
    simp
    exact h
  | some i =>
    rw [List.findIdx?_eq_some_iff_getElem] at h
    obtain ⟨hi, hp, _⟩ := h
    have : l.any p = true := by rw [List.any_eq_true]; exact ⟨l[i], List.getElem_mem hi, hp⟩
    simp [this]
theorem idxf_range {α : Type} {p : α → Bool} {l : List α} : -1 ≤ idxf p l ∧ idxf p l < l.length := by
  unfold idxf
  cases h : l.findIdx? p with
  | none => simp; omega
  | some i =>
    rw [List.findIdx?_eq_some_iff_getElem] at h
    obtain ⟨hi, _⟩ := h
    simp; omega
end Go.Pl

namespace Go.Proofs
open Go Go.Fw Go.Pl
/-- a heap of numbers, as it lies -/
def bkA (r : Option Addr) : Nat := (r.map (·.block)).getD 0
def offA (r : Option Addr) : Nat := (r.map (·.off)).getD 0
def hobj (r : Option Addr) (len cap : Nat) (p : Int × Int) : Obj := .cells #[.slice r len cap, .int .i64 p.1, .int .u32 p.2] 138 (0, 0)
def hok (len : Nat) (p : Int × Int) : Prop := 0 ≤ p.1 ∧ (p.1 < (len : Int) ∨ p.1 = 0)
end Go.Proofs

-- plain: the sands
namespace Go.Pl
structure Water where
  min : Int
  h : Int
  deriving Inhabited, DecidableEq
structure Sill where
  a : Int
  b : Int
  h : Int
  deriving Inhabited, DecidableEq
structure Span where
  lo : Int
  hi : Int
  deriving Inhabited, DecidableEq
structure Look where
  min : Int
  place : Int
  wet : Bool
  deriving Inhabited, DecidableEq
structure Sands where
  table : List Water
  wind : Span
  floors : List Int
  sills : List Sill
  deriving Inhabited, DecidableEq
def inr (x lo hi : Int) : Bool := decide (lo ≤ x) && decide (x ≤ hi)
def isPlace (s : Sands) (p : Int) : Bool := inr p 0 ((s.floors.length : Int) - 1)
def isEnd (s : Sands) (p : Int) : Bool := decide (p = -1) || isPlace s p
def ordered (s : Sands) : Bool := (List.range (s.table.length - 1)).all (fun i => decide ((s.table.getD i default).min < (s.table.getD (i + 1) default).min)) && decide (s.wind.lo ≤ s.wind.hi)
def bigW (w : Water) : Bool := inr w.min 0 1440 && inr w.h 0 999
def hgt (n : Int) : Bool := inr n 0 999
def check (s : Sands) : Int :=
  if !inr s.table.length 2 12 || !inr s.floors.length 1 8 || decide (16 < (s.sills.length : Int)) then 2
  else if !s.table.all bigW then 3
  else if !inr s.wind.lo (-50) 50 || !inr s.wind.hi (-50) 50 || !s.floors.all hgt then 3
  else if !s.sills.all (fun x => hgt x.h) then 3
  else if !ordered s then 4
  else if !s.sills.all (fun x => isEnd s x.a && isEnd s x.b) then 1
  else if !s.sills.all (fun x => !decide (x.a = x.b)) then 8
  else 0
theorem all_not_any {α : Type} {p : α → Bool} {l : List α} : (!l.any (fun x => !p x)) = l.all p := by
  induction l with
  | nil => rfl
  | cons x l ih => simp [ih.symm]
end Go.Pl
namespace Go.Pl
theorem ordered_false {s : Sands} {k : Nat} (hk : k < s.table.length - 1) (h : ¬ (s.table.getD k default).min < (s.table.getD (k + 1) default).min) : ordered s = false := by
  unfold ordered
  rw [Bool.and_eq_false_iff]
  left
  rw [Bool.eq_false_iff]
  intro ha
  rw [List.all_eq_true] at ha
  have := ha k (List.mem_range.2 hk)
  exact h (of_decide_eq_true this)
theorem ordered_true {s : Sands} (h : ∀ i, i < s.table.length - 1 → (s.table.getD i default).min < (s.table.getD (i + 1) default).min) : ordered s = decide (s.wind.lo ≤ s.wind.hi) := by
  unfold ordered
  have : ((List.range (s.table.length - 1)).all fun i => decide ((s.table.getD i default).min < (s.table.getD (i + 1) default).min)) = true := by
    rw [List.all_eq_true]
    intro i hi
    exact decide_eq_true (h i (List.mem_range.1 hi))
  rw [this, Bool.true_and]
end Go.Pl

namespace Go.Proofs
open Go Go.Fw Go.Pl
def encW (x : Water) : List Value := [.int .i64 x.min, .int .i64 x.h]
def encS (x : Sill) : List Value := [.int .i64 x.a, .int .i64 x.b, .int .i64 x.h]
def encP (x : Span) : List Value := [.int .i64 x.lo, .int .i64 x.hi]
def encL (x : Look) : List Value := [.int .i64 x.min, .int .i64 x.place, .bool x.wet]
theorem encW_len (x : Water) : (encW x).length = 2 := rfl
theorem encS_len (x : Sill) : (encS x).length = 3 := rfl
theorem encP_len (x : Span) : (encP x).length = 2 := rfl
theorem encL_len (x : Look) : (encL x).length = 3 := rfl
/-- sands, and where their slices lie -/
structure LS where
  rt : Option (Nat × Nat)
  ct : Nat
  rf : Option (Nat × Nat)
  cf : Nat
  rs : Option (Nat × Nat)
  cs : Nat
  S : Sands
def LS.cells (L : LS) : List Value := [slv L.rt L.S.table.length L.ct, .int .i64 L.S.wind.lo, .int .i64 L.S.wind.hi, slv L.rf L.S.floors.length L.cf, slv L.rs L.S.sills.length L.cs]
def LS.val (L : LS) : Value := .agg L.cells.toArray
def LS.segs (L : LS) : List Sg := [(bk L.rt, off L.rt, flat encW L.S.table), (bk L.rf, off L.rf, ints L.S.floors), (bk L.rs, off L.rs, flat encS L.S.sills)]
structure LS.OK (L : LS) (w : World) : Prop where
  segs : ∀ s, s ∈ L.segs → segOK w s
  t0 : 0 < L.S.table.length → L.rt ≠ none
  f0 : 0 < L.S.floors.length → L.rf ≠ none
  s0 : 0 < L.S.sills.length → L.rs ≠ none
  tl : L.S.table.length ≤ 8796093022208
  fl : L.S.floors.length ≤ 17592186044416
  sl : L.S.sills.length ≤ 5864062014805
  tc : L.S.table.length ≤ L.ct
  fc : L.S.floors.length ≤ L.cf
  sc : L.S.sills.length ≤ L.cs
theorem LS.OK.ext {L : LS} {w w' : World} (h : L.OK w) (hx : Ext [] w w') : L.OK w' := ⟨fun s hs => (h.segs s hs).ext hx (by simp), h.t0, h.f0, h.s0, h.tl, h.fl, h.sl, h.tc, h.fc, h.sc⟩
end Go.Proofs
namespace Go.Fw
theorem segsC {w : Go.World} {s : Sg} {ro : List Sg} (h : segOK w s) (hr : ∀ t, t ∈ ro → segOK w t) : ∀ t, t ∈ s :: ro → segOK w t := fun t ht => by
  rcases List.mem_cons.1 ht with rfl | ht
  · exact h
  · exact hr t ht
theorem segsN {w : Go.World} : ∀ t, t ∈ ([] : List Sg) → segOK w t := fun t ht => by cases ht
end Go.Fw

namespace Go.Proofs.Wk
open Go Go.Fw Go.Gx Go.Pl
def RW : Row Water := ⟨2, fun x => [.int .i64 x.min, .int .i64 x.h], fun _ => rfl, fun _ => rfl⟩
def RS : Row Sill := ⟨3, fun x => [.int .i64 x.a, .int .i64 x.b, .int .i64 x.h], fun _ => rfl, fun _ => rfl⟩
def RP : Row Span := ⟨2, fun x => [.int .i64 x.lo, .int .i64 x.hi], fun _ => rfl, fun _ => rfl⟩
def RL : Row Look := ⟨3, fun x => [.int .i64 x.min, .int .i64 x.place, .bool x.wet], fun _ => rfl, fun _ => rfl⟩
end Go.Proofs.Wk

namespace Go.Gx
open Go Go.Fw
set_option linter.unusedVariables false
/-- short names -/
abbrev vk (sz : Nat) (L : VL) (xs : List Value) : Prop := VOK sz L.n L.cap xs L.sp L.q
abbrev sL (L : VL) : Value := slv L.q L.n L.cap
abbrev vL (E : TypeId) (L : VL) (xs : List Value) : VR := ⟨E, xs, L.sp, L.q⟩
/-! ### loops of known rounds; slices that stand still -/
section
variable {n : Nat} {ds : List Deferred} {e : EnvL} {H : World → Prop} {P : Program} {F : Fence} {Q : Exit → Act → World → Prop}
/-- so many rounds, and no more -/
def UL (c : Code) (F : Fence) (P : Program) (Q : Exit → Act → World → Prop) : Nat → Act → World → Prop
  | 0 => fun _ _ => False
  | k + 1 => c.wpIn F 0 P (thenQ (UL c F P Q k) Q)
theorem UL_loop {c : Code} : ∀ (k : Nat) (a : Act) (w : World), UL c F P Q k a w → (Code.loop c).wpIn F 0 P Q a w := by
  intro k a w h
  let I : Act → World → Prop := fun a w => ∃ j, UL c F P Q j a w
  have hex : ∀ a w, I a w → ∃ m, UL c F P Q m a w ∧ ∀ j, UL c F P Q j a w → m ≤ j := by
    rintro a w ⟨j, hj⟩
    induction j using Nat.strongRecOn with
    | _ j ih =>
      by_cases hl : ∃ i, i < j ∧ UL c F P Q i a w
      · obtain ⟨i, hi, hu⟩ := hl
        exact ih i hi hu
      · exact ⟨j, hj, fun i hu => Classical.byContradiction fun hc => hl ⟨i, by omega, hu⟩⟩
  let μ : Act → World → Nat := fun a w => @dite _ (I a w) (Classical.propDecidable _) (fun h => Classical.choose (hex a w h)) (fun _ => 0)
  refine wpIn_loop I μ ⟨k, h⟩ (fun a w hI => ?_)
  have hμ : μ a w = Classical.choose (hex a w hI) := by
    show (@dite _ (I a w) (Classical.propDecidable _) (fun h => Classical.choose (hex a w h)) (fun _ => 0)) = _
    rw [dif_pos hI]
  have hs := Classical.choose_spec (hex a w hI)
  rw [← hμ] at hs
  cases hm : μ a w with
  | zero => rw [hm] at hs; exact hs.1.elim
  | succ m =>
    rw [hm] at hs
    have h1 : c.wpIn F 0 P (thenQ (UL c F P Q m) Q) a w := hs.1
    rw [thenQ_eq] at h1
    refine Go.wpIn_mono h1 (fun ex a' w' hq => ?_)
    cases ex with
    | normal =>
      have hq' : UL c F P Q m a' w' := hq
      refine ⟨⟨m, hq'⟩, ?_⟩
      have hI' : I a' w' := ⟨m, hq'⟩
      have hμ' : μ a' w' = Classical.choose (hex a' w' hI') := by
        show (@dite _ (I a' w') (Classical.propDecidable _) (fun h => Classical.choose (hex a' w' h)) (fun _ => 0)) = _
        rw [dif_pos hI']
      have := (Classical.choose_spec (hex a' w' hI')).2 m hq'
      omega
    | _ => exact hq
theorem g_unr {c : Code} (k : Nat) (h : G n ds e H (UL c F P Q k)) : G n ds e H ((Code.loop c).wpIn F 0 P Q) := fun a w he hh => UL_loop k a w (h a w he hh)
theorem g_unrS {c : Code} {k : Nat} (h : G n ds e H (c.wpIn F 0 P (thenQ (UL c F P Q k) Q))) : G n ds e H (UL c F P Q (k + 1)) := h
end
section
variable {P : Program} {e : EnvL} {w : World} {dst : Option Nat} {ty : TypeId} {pos : String} {after : Array Edge} {g : Option (Nat × Bool)}
theorem v_ixS {t E : TypeId} {xo io : Operand} {b n cap sz o : Nat} {k : IntKind} {i : Int} (hu : (underlying t).run P w = .ok (.slice E) w) (hz : (sizeOf E).run P w = .ok sz w)
    (hx : ev e xo = some (slv (some (b, 0)) n cap)) (hi : ev e io = some (.int k i)) (j : Nat) (hij : i = (j : Int)) (hj : Nat.blt j n = true) (ho : 0 + j * sz = o) : Val P e w ⟨dst, .indexAddr t xo io, ty, pos, after, g⟩ (ptr b o) := by
  subst ho
  exact v_indexAddr (r := some (b, 0)) j hu hz hx hi hij (by simpa using hj) (by simp)
end
section ops
variable {n : Nat} {ds : List Deferred} {e : EnvL} {P : Program} {r : Option Nat} {Q : Exit → Act → World → Prop} {ops : Array Oper} {w0 : World} {M : List Nat} {S : List (Nat × Obj)} {vs : List VR} {ro : List Sg} {rest : List Oper}
/-- []T{..} that stands still -/
theorem g_litS {d : Nat} {t E : TypeId} {len sz : Nat} {parts : List (Nat × Operand)} {ps : List (Nat × Value)} {z : Value} {cells : List Value} {ty : TypeId} {pos : String} {after : Array Edge}
    (hu : ∀ w, (underlying t).run P w = .ok (.slice E) w) (hz : ∀ w, (sizeOf E).run P w = .ok sz w) (hzv : ∀ w, (zeroValue E).run P w = .ok z w) (hp : evp e parts = some ps) (hs : Nat.ble (len * sz) 16777216 = true)
    (hf : fillL sz (zsL z (len * sz)) ps = some cells) (hl0 : Nat.blt 0 (len * sz) = true) (hn : Nat.blt d n = true)
    (h : ∀ b, w0.heap.size ≤ b → G n ds ((d, slv (some (b, 0)) len len) :: e) (HV w0 M ((b, .cells cells.toArray E (0, 0)) :: S) vs ro) (wpListIn (fw r) 0 P ops Q rest)) :
    G n ds e (HV w0 M S vs ro) (wpListIn (fw r) 0 P ops Q (⟨some d, .buildSlice t len parts.toArray, ty, pos, after, none⟩ :: rest)) :=
  g_buildSlice hu hz hzv hp hs hf hl0 hn h
end ops
section skips
variable {n : Nat} {ds : List Deferred} {e : EnvL} {H : World → Prop} {P : Program} {r : Option Nat} {ops : Array Oper} {C : World → Prop} {X : Act → World → Prop}
theorem p_skipU_ {i d j t : Nat} {want : Bool} {p : Plan} {o : Oper} (ho : ops[i]? = some o) (hd : o.dst = some d) (hg : o.guard = some (j, want)) (hj : (ops[j]?).bind (·.dst) = some t) (ht : lk e t = some undef) (hn : Nat.blt d n = true)
    (h : G n ds ((d, undef) :: e) H (walk r P ops C X p)) : G n ds e H (walk r P ops C X (.hoist i p)) := fun a w he hh =>
  ⟨o, undef, ho, .inr ⟨by rw [wanted_undef' he hg hj ht], rfl⟩, by rw [hd]; exact h _ w (he.put hn undef) hh⟩
theorem p_skipUF_ {i d j t : Nat} {want : Bool} {p : Plan} {o : Oper} (ho : ops[i]? = some o) (hd : o.dst = some d) (hg : o.guard = some (j, want)) (hj : (ops[j]?).bind (·.dst) = some t) (ht : lk e t = some undef) (hn : Nat.blt d n = true)
    (h : G n ds ((d, undef) :: e) H (walk r P ops C X p)) : G n ds e H (walk r P ops C X (.free i p)) := fun a w he hh =>
  ⟨o, undef, ho, .inr ⟨by rw [wanted_undef' he hg hj ht], rfl⟩, by rw [hd]; exact h _ w (he.put hn undef) hh⟩
end skips
section share
variable {n : Nat} {ds : List Deferred} {e : EnvL} {H : World → Prop} {P : Program} {r : Option Nat} {ops : Array Oper} {C : World → Prop} {X : Act → World → Prop} {w0 : World} {M : List Nat} {S : List (Nat × Obj)} {vs : List VR} {ro : List Sg}
/-- what several orders come to is shown once -/
theorem p_share {p : Plan} (q : Plan) (T : (EnvL → List (Nat × Obj) → List VR → Prop) → Prop)
    (h2 : T fun e S vs => G n ds e (HV w0 M S vs ro) (walk r P ops C X q))
    (h1 : (T fun e S vs => G n ds e (HV w0 M S vs ro) (walk r P ops C X q)) → G n ds e (HV w0 M S vs ro) (walk r P ops C X p)) : G n ds e (HV w0 M S vs ro) (walk r P ops C X p) := h1 h2
theorem p_shr {q : Plan} {e' : EnvL} {S' : List (Nat × Obj)} {vs' : List VR} (h : G n ds e' (HV w0 M S' vs' ro) (walk r P ops C X q)) (he : Sub e e') (hw : ∀ w, HV w0 M S vs ro w → HV w0 M S' vs' ro w) : G n ds e (HV w0 M S vs ro) (walk r P ops C X q) :=
  g_sub he (h.pre hw)
end share
theorem dec_cases {p : Prop} {X : Prop} [Decidable p] (h1 : p → X) (h2 : ¬ p → X) : X := if h : p then h1 h else h2 h
section desks
variable {n : Nat} {ds : List Deferred} {e : EnvL} {P : Program} {r : Option Nat} {Q : Exit → Act → World → Prop} {ops : Array Oper} {w0 : World} {M : List Nat} {S : List (Nat × Obj)} {vs : List VR} {ro : List Sg} {rest : List Oper}
theorem HV.bseg {w : World} (h : HV w0 M S vs ro w) (i : Nat) {b : Nat} {cs : Array Value} {T : TypeId} {fr : Nat × Nat} (hi : S[i]? = some (b, .cells cs T fr)) : segOK w (b, 0, cs.toList) := .of_block (h.get i hi)
theorem bsep {w : World} {b o : Nat} {xs : List Value} (h : segOK w (b, o, xs)) : segOK w (b, o, xs) ∧ (xs ≠ [] → b ∉ keys [] []) := ⟨h, fun _ => by simp [keys, vbl]⟩
theorem HV.freshV {w w' : World} {L : List (Nat × Obj)} (h : HV w0 M S vs ro w) (hf : Fresh w w' L) : HV w0 M (L ++ S) vs ro w' := by
  have := HS.fresh h hf
  unfold HV
  rw [List.append_assoc]
  exact this
theorem g_callFV {ι : Type} {o : Oper} {d : Nat} {L : ι → List (Nat × Obj)} {ret : ι → Value} {f : FuncId} {x : Operand} {xs : List Operand} {ts : Array TypeId} {fst cap : Array Value} {us args : List Value}
    (ho : o.op = .call ⟨.value x, xs.toArray, ts⟩) (hd : o.dst = some d) (hg : o.guard = none) (hn : Nat.blt d n = true)
    (hx : ev e x = some (.func (.func f) fst cap)) (hxs : evs e xs = some us) (ha : fst.toList ++ us ++ cap.toList = args)
    (hf : ∀ args w, (callFunc f args).run P w = .ok (.enter f args) w)
    (hc : ∀ w, HV w0 M S vs ro w → Calls P f args.toArray w (fun en w' => ∃ i, en = .returned (ret i) ∧ Fresh w w' (L i)))
    (h : ∀ i, G n ds ((d, ret i) :: e) (HV w0 M (L i ++ S) vs ro) (wpListIn (fw r) 0 P ops Q rest)) : G n ds e (HV w0 M S vs ro) (wpListIn (fw r) 0 P ops Q (o :: rest)) :=
  g_call (H' := fun i w' => HV w0 M (L i ++ S) vs ro w') ho hd hg hn hx hxs ha hf (fun w hh => (hc w hh).mono (by rintro en w' ⟨i, rfl, hF⟩; exact ⟨i, rfl, hh.freshV hF⟩)) h
end desks
section
variable {P : Program} {e : EnvL} {w : World} {dst : Option Nat} {ty : TypeId} {pos : String} {after : Array Edge} {g : Option (Nat × Bool)}
theorem v_neqT {t u : TypeId} {x y : Operand} {k : IntKind} {m m' : Int} (h : ¬ (m = m')) (hx : ev e x = some (.int k m)) (hy : ev e y = some (.int k m')) : Val P e w ⟨dst, .binOp .neq t x y u, ty, pos, after, g⟩ (.bool true) := by
  have := v_neq (P := P) (w := w) (dst := dst) (ty := ty) (pos := pos) (after := after) (g := g) (t := t) (u := u) hx hy
  simpa [h] using this
theorem v_eqlF {t u : TypeId} {x y : Operand} {k : IntKind} {m m' : Int} (h : ¬ (m = m')) (hx : ev e x = some (.int k m)) (hy : ev e y = some (.int k m')) : Val P e w ⟨dst, .binOp .eql t x y u, ty, pos, after, g⟩ (.bool false) := by
  have := v_eql (P := P) (w := w) (dst := dst) (ty := ty) (pos := pos) (after := after) (g := g) (t := t) (u := u) hx hy
  simpa [h] using this
end
section tails
theorem enc_drop {α : Type} (R : Row α) : ∀ (m : Nat) (l : List α), R.enc (l.drop m) = (R.enc l).drop (m * R.sz)
  | 0, l => by simp
  | m + 1, [] => by simp [Row.enc]
  | m + 1, x :: l => by
    rw [List.drop_succ_cons, enc_drop R m l, Nat.succ_mul, Nat.add_comm, ← List.drop_drop]
    congr 1
    have h := R.len x
    show R.enc l = (R.cells x ++ R.enc l).drop R.sz
    rw [← h, List.drop_left]
/-- where the tail of a slice lies -/
def tailQ (q : Option (Nat × Nat)) (sz m cap : Nat) : Option (Nat × Nat) := q.map fun p => (p.1, if cap = m then p.2 else p.2 + m * sz)
variable {w0 w : World} {M : List Nat} {S : List (Nat × Obj)} {vs : List VR} {ro : List Sg}
theorem HV.tail {α : Type} (R : Row α) (h : HV w0 M S vs ro w) (i : Nat) {l : List α} {q : Option (Nat × Nat)} {m cap : Nat} (hi : ro[i]? = some (bk q, off q, R.enc l)) (hq : 0 < l.length → q ≠ none) (hc : l.length ≤ cap) (hm : m ≤ l.length) :
    HV w0 M S vs ((bk (tailQ q R.sz m cap), off (tailQ q R.sz m cap), R.enc (l.drop m)) :: ro) w := by
  have h0 : HS w0 M (S ++ vbl vs) ro w := h
  have hs := h0.roOK _ (List.mem_of_getElem? hi)
  have hp := h0.sep _ (List.mem_of_getElem? hi)
  have e : R.enc (l.drop m) ≠ [] → m < l.length := fun hne => by
    refine Classical.byContradiction fun hc => hne ?_
    rw [List.drop_eq_nil_of_le (by omega)]
    rfl
  have hne : R.enc (l.drop m) ≠ [] → R.enc l ≠ [] := fun h1 h2 => by
    rw [enc_drop, h2] at h1
    simp at h1
  have hb : bk (tailQ q R.sz m cap) = bk q := by cases q <;> rfl
  refine (⟨h0.os, h0.tape, h0.output, h0.size, h0.old, h0.ownOK, h0.new, h0.nodup, fun s hs' => ?_, fun s hs' hx => ?_⟩ : HS w0 M (S ++ vbl vs) _ w)
  · rcases List.mem_cons.1 hs' with rfl | hs'
    · by_cases hn : m < l.length
      · have hoff : off (tailQ q R.sz m cap) = off q + m * R.sz ∨ q = none := by
          cases q with
          | none => exact .inr rfl
          | some p => left; show (if cap = m then p.2 else p.2 + m * R.sz) = p.2 + m * R.sz; rw [if_neg (by omega)]
        have hsub : segOK w (bk q, off q + m * R.sz, R.enc (l.drop m)) := segOK.sub hs (m * R.sz) (fun j hj => by
          simp only [enc_drop] at hj ⊢
          rw [List.getElem_drop]
          simp only [List.length_drop] at hj
          rw [List.getElem?_eq_getElem (by omega)])
        rcases hoff with h1 | h1
        · rw [hb, h1]; exact hsub
        · exact absurd h1 (hq (by omega))
      · rw [List.drop_eq_nil_of_le (by omega)]
        exact segOK.nil
    · exact h0.roOK s hs'
  · rcases List.mem_cons.1 hs' with rfl | hs'
    · show bk (tailQ q R.sz m cap) ∉ _
      rw [hb]
      exact hp (hne hx)
    · exact h0.sep s hs' hx
theorem tail_hn {α : Type} {l : List α} {n m : Nat} (h : l.length = n) : (l.drop m).length = n - m := by simp [h]
theorem tail_hne {q : Option (Nat × Nat)} {n m sz cap : Nat} (h : 0 < n → q ≠ none) : 0 < n - m → tailQ q sz m cap ≠ none := fun h1 => by
  have := h (by omega)
  cases q with
  | none => exact absurd rfl this
  | some p => simp [tailQ]
theorem tail_hle {n m cap : Nat} (h : n ≤ cap) : n - m ≤ cap - m := by omega
theorem tail_in {α : Type} {l : List α} {n : Nat} {i : Int} (hn : l.length = n) (h : 0 ≤ i ∧ i ≤ (l.length : Int)) : i ≤ (n : Int) := by omega
theorem g_tail {α : Type} (R : Row α) {n : Nat} {ds : List Deferred} {e : EnvL} {X : Act → World → Prop} (i : Nat) {l : List α} {q : Option (Nat × Nat)} {j : Int} {nn cap : Nat} (hi : ro[i]? = some (bk q, off q, R.enc l)) (hn : l.length = nn) (hq : 0 < nn → q ≠ none) (hc : nn ≤ cap) (hj : 0 ≤ j ∧ j ≤ (l.length : Int))
    (h : G n ds e (HV w0 M S vs ((bk (tailQ q R.sz j.toNat cap), off (tailQ q R.sz j.toNat cap), R.enc (l.drop j.toNat)) :: ro)) X) : G n ds e (HV w0 M S vs ro) X := by
  subst hn
  exact h.pre fun w hh => HV.tail R hh i hi hq hc (by omega)
end tails
section
variable {P : Program} {e : EnvL} {w : World} {dst : Option Nat} {ty : TypeId} {pos : String} {after : Array Edge} {g : Option (Nat × Bool)}
/-- x[lo:] -/
theorem v_sliceFrom {t E : TypeId} {x lo : Operand} {q : Option (Nat × Nat)} {len cap sz : Nat} {k : IntKind} {i : Int} (hu : (underlying t).run P w = .ok (.slice E) w) (hz : (sizeOf E).run P w = .ok sz w)
    (hx : ev e x = some (slv q len cap)) (hlo : ev e lo = some (.int k i)) (h0 : 0 ≤ i) (h1 : i ≤ len) (hc : len ≤ cap) : Val P e w ⟨dst, .slice t x (some lo) none none, ty, pos, after, g⟩ (slv (tailQ q sz i.toNat cap) (len - i.toNat) (cap - i.toNat)) := fun n ds a he => by
  have key : (Instr.sliceBounds true len cap (some (.int k i)) none none).run P w = .ok (i.toNat, len, cap) w := by
    simp [Instr.sliceBounds, Instr.sliceBound, asIntOf, h0, h1]
  have hres : (Instr.slice t (slv q len cap) (some (.int k i)) none none).run P w = .ok (slv (tailQ q sz i.toNat cap) (len - i.toNat) (cap - i.toNat)) w := by
    simp only [Instr.slice, Sem.run_bind, hu, Result.andThen_ok, slv, key, hz, Sem.run_pure]
    congr 1
    cases q with
    | none => simp [tailQ]
    | some p =>
      by_cases h : cap = i.toNat
      · simp [tailQ, h]
      · simp [tailQ, h, addr_add]
  simp [execOp, he.eval hx, he.eval hlo, Instr.sliceAt, hu, hres]
end
end Go.Gx

namespace Go.Proofs
open Go Go.Fw Go.Pl
theorem take_foldl_max {l : List Int} {n : Int} {k : Nat} (h : k < l.length) : (l.take (k + 1)).foldl max n = max ((l.take k).foldl max n) (l.getD k 0) := by
  rw [List.take_succ_eq_append_getElem h, List.foldl_append]
  simp [List.getD_eq_getElem?_getD, h]
set_option maxRecDepth 100000 in
theorem c_in (x lo hi : Int) (w : World) : Ret Try.prog 90 [.int .i64 x, .int .i64 lo, .int .i64 hi] w (.bool (inr x lo hi)) := by
  refine g_enter (args := [.int .i64 x, .int .i64 lo, .int .i64 hi]) Try.func90 rfl Try.ntmps90 rfl (e := [(0, _), (1, _), (2, _)]) rfl (HS.start w [] [] (by simp)) ?_
  refine g_seq ?_
  refine g_region ?_
  refine g_val rfl rfl rfl (fun _ _ => v_assign rfl) ?_
  refine g_nil ?_
  refine g_n_then ?_
  refine g_seq ?_
  refine g_region ?_
  refine g_val rfl rfl rfl (fun _ _ => v_move rfl) ?_
  refine g_val rfl rfl rfl (fun _ _ => v_move rfl) ?_
  refine g_val rfl rfl rfl (fun _ _ => v_geq rfl rfl) ?_
  refine g_val rfl rfl rfl (fun _ _ => v_move rfl) ?_
  refine g_case 10 rfl (fun hg10_1 => ?_) (fun hg10_1 => ?_)
  · replace hg10_1 := of_decide_eq_true hg10_1
    refine g_valG rfl rfl rfl rfl rfl (fun _ _ => v_move rfl) ?_
    refine g_valG rfl rfl rfl rfl rfl (fun _ _ => v_move rfl) ?_
    refine g_valG rfl rfl rfl rfl rfl (fun _ _ => v_leq rfl rfl) ?_
    refine g_val rfl rfl rfl (fun _ _ => v_pickT rfl rfl) ?_
    refine g_val rfl rfl rfl (fun _ _ => v_assign rfl) ?_
    refine g_nil ?_
    refine g_n_then ?_
    refine g_ret ?_
    refine g_done rfl (fun w hh => (.tmp rfl .nil)) (fun w hh => ⟨?_, hh.toExt⟩)
    simp [retv, inr, *]
  · replace hg10_1 := of_decide_eq_false hg10_1
    refine g_skipG rfl rfl rfl rfl rfl rfl ?_
    refine g_skipG rfl rfl rfl rfl rfl rfl ?_
    refine g_skipG rfl rfl rfl rfl rfl rfl ?_
    refine g_val rfl rfl rfl (fun _ _ => v_pickF rfl rfl) ?_
    refine g_val rfl rfl rfl (fun _ _ => v_assign rfl) ?_
    refine g_nil ?_
    refine g_n_then ?_
    refine g_ret ?_
    refine g_done rfl (fun w hh => (.tmp rfl .nil)) (fun w hh => ⟨?_, hh.toExt⟩)
    simp [retv, inr, *]

set_option maxRecDepth 100000 in
theorem c_hgt (x : Int) (w : World) : Ret Try.prog 93 [.int .i64 x] w (.bool (hgt x)) := by
  refine g_enter (args := [.int .i64 x]) Try.func93 rfl Try.ntmps93 rfl (e := [(0, _)]) rfl (HS.start w [] [] (by simp)) ?_
  refine g_seq ?_
  refine g_region ?_
  refine g_val rfl rfl rfl (fun _ _ => v_assign rfl) ?_
  refine g_nil ?_
  refine g_n_then ?_
  refine g_seq ?_
  refine g_region ?_
  refine g_val rfl rfl rfl (fun _ _ => v_move rfl) ?_
  refine g_callv rfl rfl rfl rfl rfl rfl rfl (fun a w => Try.call90 a w) (fun w hh => c_in _ _ _ w) ?_
  refine g_val rfl rfl rfl (fun _ _ => v_assign rfl) ?_
  refine g_nil ?_
  refine g_n_then ?_
  refine g_ret ?_
  refine g_done rfl (fun w hh => (.tmp rfl .nil)) (fun w hh => ⟨?_, hh.toExt⟩)
  rfl

set_option maxRecDepth 100000 in
theorem c_highest (n : Int) (l : List Int) (r : Option (Nat × Nat)) (cap : Nat) (w : World) (hl : l.length ≤ 140737488355328) (hr : 0 < l.length → r ≠ none) (hs : segOK w (bk r, off r, ints l)) : Ret Try.prog 134 [.int .i64 n, slv r l.length cap] w (.int .i64 (l.foldl max n)) := by
  refine g_enter (args := [.int .i64 n, slv r l.length cap]) Try.func134 rfl Try.ntmps134 rfl (e := [(0, _), (1, _)]) rfl (HS.start w [] [(bk r, off r, ints l)] (by simpa using hs)) ?_
  refine g_seq ?_
  refine g_region ?_
  refine g_val rfl rfl rfl (fun _ _ => v_assign rfl) ?_
  refine g_nil ?_
  refine g_n_then ?_
  refine g_seq ?_
  refine g_seq ?_
  refine g_region ?_
  refine g_val rfl rfl rfl (fun _ _ => v_move rfl) ?_
  refine g_val rfl rfl rfl (fun w _ => v_lenS (Try.runUnderlying26 w) rfl) ?_
  refine g_val rfl rfl rfl (fun _ _ => v_move rfl) ?_
  refine g_nil ?_
  refine g_n_then ?_
  refine g_block ?_
  refine g_sub (e' := [(9, _), (0, _), (7, _), (8, _)]) ((.cons rfl (.cons rfl (.cons rfl (.cons rfl .nil))))) ?_
  refine g_loopM (ι := Nat) (fun k => [(9, .int .i64 (k : Nat)), (0, .int .i64 ((l.take k).foldl max n))]) (fun k => []) (fun k => k ≤ l.length) (fun k => l.length - k) 0 (Nat.zero_le _) ?_
  intro k hI0
  refine g_seq ?_
  refine g_region ?_
  refine g_val rfl rfl rfl (fun _ _ => v_lss rfl rfl) ?_
  refine g_nil ?_
  refine g_n_then ?_
  refine g_seq ?_
  refine g_cond rfl (fun hc10_1 => ?_) (fun hc10_1 => ?_)
  · replace hc10_1 := of_decide_eq_true hc10_1
    refine g_skip ?_
    refine g_n_then ?_
    refine g_seq ?_
    refine g_block ?_
    refine g_seq ?_
    refine g_region ?_
    refine g_val rfl rfl rfl (fun w _ => v_indexAddr1 k (Try.runUnderlying26 w) (Try.sizeOf3 w) rfl rfl rfl (by omega) (hr (by omega))) ?_
    refine g_val rfl rfl rfl (fun w hh => v_load (Try.isAgg3 w) rfl (hh.int (j := k) 0 rfl (by omega))) ?_
    refine g_val rfl rfl rfl (fun _ _ => v_assign rfl) ?_
    refine g_nil ?_
    refine g_n_then ?_
    refine g_region ?_
    refine g_val rfl rfl rfl (fun _ _ => v_move rfl) ?_
    refine g_val rfl rfl rfl (fun _ _ => v_move rfl) ?_
    refine g_val rfl rfl rfl (fun _ _ => v_max rfl rfl) ?_
    refine g_val rfl rfl rfl (fun _ _ => v_assign rfl) ?_
    refine g_nil ?_
    refine g_n_blk ?_
    refine g_n_then ?_
    refine g_region ?_
    refine g_val rfl rfl rfl (fun _ _ => v_add rfl rfl (wrap_i64 (by omega))) ?_
    refine g_val rfl rfl rfl (fun _ _ => v_move rfl) ?_
    refine g_nil ?_
    refine g_n_then ?_
    have e1 : (l.take (k + 1)).foldl max n = max ((l.take k).foldl max n) (l.getD k 0) := take_foldl_max (by omega)
    refine g_set 0 rfl (congrArg (Value.int .i64) e1.symm) ?_
    exact g_againM (i := k) (k + 1) [] ((.cons rfl (.cons rfl (.cons rfl (.cons rfl .nil))))) (by decide) rfl (by omega) (by omega)
  · replace hc10_1 := of_decide_eq_false hc10_1
    refine g_exit ?_
    refine g_x_then ?_
    refine g_x_then ?_
    refine g_x_blk ?_
    refine g_n_then ?_
    refine g_seq ?_
    refine g_region ?_
    refine g_val rfl rfl rfl (fun _ _ => v_move rfl) ?_
    refine g_val rfl rfl rfl (fun _ _ => v_assign rfl) ?_
    refine g_nil ?_
    refine g_n_then ?_
    refine g_ret ?_
    have ek : k = l.length := by omega
    subst ek
    refine g_done rfl (fun w hh => (.tmp rfl .nil)) (fun w hh => ⟨?_, hh.toExt⟩)
    simp [retv]

set_option maxRecDepth 100000 in
theorem c_IndexFunc_int (fv : FuncId) (fst cap : Array Value) (p : Int → Bool) (l : List Int) (r : Option (Nat × Nat)) (cp : Nat) (w : World) (hl : l.length ≤ 140737488355328) (hr : 0 < l.length → r ≠ none) (hs : segOK w (bk r, off r, ints l)) (hcall : ∀ a w, (callFunc fv a).run Try.prog w = .ok (.enter fv a) w) (hf : ∀ w', Ext [] w w' → ∀ j, j < l.length → Ret Try.prog fv (fst.toList ++ [.int .i64 (l.getD j 0)] ++ cap.toList) w' (.bool (p (l.getD j 0)))) : Ret Try.prog 143 [slv r l.length cp, .func (.func fv) fst cap] w (.int .i64 (idxf p l)) := by
  refine g_enter (args := [slv r l.length cp, .func (.func fv) fst cap]) Try.func143 rfl Try.ntmps143 rfl (e := [(0, _), (1, _)]) rfl (HS.start w [] [(bk r, off r, ints l)] (by simpa using hs)) ?_
  refine g_seq ?_
  refine g_region ?_
  refine g_val rfl rfl rfl (fun _ _ => v_assign rfl) ?_
  refine g_nil ?_
  refine g_n_then ?_
  refine g_seq ?_
  refine g_seq ?_
  refine g_region ?_
  refine g_val rfl rfl rfl (fun _ _ => v_move rfl) ?_
  refine g_val rfl rfl rfl (fun w _ => v_lenS (Try.runUnderlying26 w) rfl) ?_
  refine g_val rfl rfl rfl (fun _ _ => v_move rfl) ?_
  refine g_nil ?_
  refine g_n_then ?_
  refine g_block ?_
  refine g_sub (e' := [(8, _), (0, _), (1, _), (7, _)]) ((.cons rfl (.cons rfl (.cons rfl (.cons rfl .nil))))) ?_
  refine g_loopM (ι := Nat) (fun k => [(8, .int .i64 (k : Nat))]) (fun k => []) (fun k => k ≤ l.length ∧ ∀ j, j < k → p (l.getD j 0) = false) (fun k => l.length - k) 0 (⟨Nat.zero_le _, fun j hj => absurd hj (by omega)⟩) ?_
  intro k hI0
  refine g_seq ?_
  refine g_region ?_
  refine g_val rfl rfl rfl (fun _ _ => v_lss rfl rfl) ?_
  refine g_nil ?_
  refine g_n_then ?_
  refine g_seq ?_
  refine g_cond rfl (fun hc9_1 => ?_) (fun hc9_1 => ?_)
  · replace hc9_1 := of_decide_eq_true hc9_1
    refine g_skip ?_
    refine g_n_then ?_
    refine g_seq ?_
    refine g_block ?_
    refine g_seq ?_
    refine g_region ?_
    refine g_val rfl rfl rfl (fun _ _ => v_move rfl) ?_
    refine g_val rfl rfl rfl (fun _ _ => v_assign rfl) ?_
    refine g_nil ?_
    refine g_n_then ?_
    refine g_seq ?_
    refine g_region ?_
    refine g_val rfl rfl rfl (fun _ _ => v_move rfl) ?_
    refine g_val rfl rfl rfl (fun _ _ => v_move rfl) ?_
    refine g_val rfl rfl rfl (fun _ _ => v_move rfl) ?_
    refine g_val rfl rfl rfl (fun w _ => v_indexAddr1 k (Try.runUnderlying26 w) (Try.sizeOf3 w) rfl rfl rfl (by omega) (hr (by omega))) ?_
    refine g_val rfl rfl rfl (fun w hh => v_load (Try.isAgg3 w) rfl (hh.int (j := k) 0 rfl (by omega))) ?_
    refine g_callv rfl rfl rfl rfl rfl rfl rfl hcall (fun w hh => hf w hh.toExt _ (by omega)) ?_
    refine g_nil ?_
    refine g_n_then ?_
    refine g_cond rfl (fun hc16_2 => ?_) (fun hc16_2 => ?_)
    · have hc16_2 := hc16_2
      refine g_seq ?_
      refine g_region ?_
      refine g_val rfl rfl rfl (fun _ _ => v_move rfl) ?_
      refine g_val rfl rfl rfl (fun _ _ => v_assign rfl) ?_
      refine g_nil ?_
      refine g_n_then ?_
      refine g_ret ?_
      refine g_r_blk ?_
      refine g_r_then ?_
      refine g_r_then ?_
      refine g_r_blk ?_
      refine g_r_then ?_
      refine g_done rfl (fun w hh => (.tmp rfl .nil)) (fun w hh => ⟨?_, hh.toExt⟩)
      simp [retv, idxf_found (k := k) (by omega) hI0.2 (by assumption)]
    · have hc16_2 := hc16_2
      refine g_skip ?_
      refine g_n_blk ?_
      refine g_n_then ?_
      refine g_region ?_
      refine g_val rfl rfl rfl (fun _ _ => v_add rfl rfl (wrap_i64 (by omega))) ?_
      refine g_val rfl rfl rfl (fun _ _ => v_move rfl) ?_
      refine g_nil ?_
      refine g_n_then ?_
      exact g_againM (i := k) (k + 1) [] ((.cons rfl (.cons rfl (.cons rfl (.cons rfl .nil))))) (by decide) rfl (⟨by omega, fun j hj => by rcases Nat.lt_succ_iff_lt_or_eq.1 hj with h | h; exact hI0.2 j h; subst h; assumption⟩) (by omega)
  · replace hc9_1 := of_decide_eq_false hc9_1
    refine g_exit ?_
    refine g_x_then ?_
    refine g_x_then ?_
    refine g_x_blk ?_
    refine g_n_then ?_
    refine g_seq ?_
    refine g_region ?_
    refine g_val rfl rfl rfl (fun _ _ => v_assign rfl) ?_
    refine g_nil ?_
    refine g_n_then ?_
    refine g_ret ?_
    have ek : k = l.length := by omega
    subst ek
    refine g_done rfl (fun w hh => (.tmp rfl .nil)) (fun w hh => ⟨?_, hh.toExt⟩)
    simp [retv, idxf_none hI0.2]

set_option maxRecDepth 100000 in
theorem c_ContainsFunc_int (fv : FuncId) (fst cap : Array Value) (p : Int → Bool) (l : List Int) (r : Option (Nat × Nat)) (cp : Nat) (w : World) (hl : l.length ≤ 140737488355328) (hr : 0 < l.length → r ≠ none) (hs : segOK w (bk r, off r, ints l)) (hcall : ∀ a w, (callFunc fv a).run Try.prog w = .ok (.enter fv a) w) (hf : ∀ w', Ext [] w w' → ∀ j, j < l.length → Ret Try.prog fv (fst.toList ++ [.int .i64 (l.getD j 0)] ++ cap.toList) w' (.bool (p (l.getD j 0)))) : Ret Try.prog 78 [slv r l.length cp, .func (.func fv) fst cap] w (.bool (l.any p)) := by
  refine g_enter (args := [slv r l.length cp, .func (.func fv) fst cap]) Try.func78 rfl Try.ntmps78 rfl (e := [(0, _), (1, _)]) rfl (HS.start w [] [(bk r, off r, ints l)] (by simpa using hs)) ?_
  refine g_seq ?_
  refine g_region ?_
  refine g_val rfl rfl rfl (fun _ _ => v_assign rfl) ?_
  refine g_nil ?_
  refine g_n_then ?_
  refine g_seq ?_
  refine g_region ?_
  refine g_val rfl rfl rfl (fun _ _ => v_move rfl) ?_
  refine g_val rfl rfl rfl (fun _ _ => v_move rfl) ?_
  refine g_callv rfl rfl rfl rfl rfl rfl rfl (fun a w => Try.call143 a w) (fun w hh => c_IndexFunc_int fv fst cap p l r cp w hl hr (hh.seg 0 rfl) hcall (fun w2 hx j hj => hf w2 (hh.toExt.trans hx) j hj)) ?_
  refine g_val rfl rfl rfl (fun _ _ => v_geq rfl rfl) ?_
  refine g_val rfl rfl rfl (fun _ _ => v_assign rfl) ?_
  refine g_nil ?_
  refine g_n_then ?_
  refine g_ret ?_
  refine g_done rfl (fun w hh => (.tmp rfl .nil)) (fun w hh => ⟨?_, hh.toExt⟩)
  simp only [retv, idxf_nonneg]

set_option maxRecDepth 100000 in
theorem c_every1_int (fv : FuncId) (fst cap : Array Value) (p : Int → Bool) (x : Int) (bx : Nat) (w : World) (hs : segOK w (bx, 0, [.func (.func fv) fst cap])) (hcall : ∀ a w, (callFunc fv a).run Try.prog w = .ok (.enter fv a) w) (hf : ∀ w', Ext [] w w' → Ret Try.prog fv (fst.toList ++ [.int .i64 x] ++ cap.toList) w' (.bool (p x))) : Ret Try.prog 151 [.int .i64 x, ptr bx 0] w (.bool (!p x)) := by
  refine g_enter (args := [.int .i64 x, ptr bx 0]) Try.func151 rfl Try.ntmps151 rfl (e := [(0, _), (1, _)]) rfl (HS.start w [] [(bx, 0, [.func (.func fv) fst cap])] (by simpa using hs)) ?_
  refine g_seq ?_
  refine g_region ?_
  refine g_val rfl rfl rfl (fun _ _ => v_assign rfl) ?_
  refine g_nil ?_
  refine g_n_then ?_
  refine g_seq ?_
  refine g_region ?_
  refine g_val rfl rfl rfl (fun w hh => v_load (Try.isAgg129 w) rfl (hh.rcell 0 0 rfl rfl)) ?_
  refine g_val rfl rfl rfl (fun _ _ => v_move rfl) ?_
  refine g_callv rfl rfl rfl rfl rfl rfl rfl hcall (fun w hh => hf w hh.toExt) ?_
  refine g_val rfl rfl rfl (fun _ _ => v_not rfl) ?_
  refine g_val rfl rfl rfl (fun _ _ => v_assign rfl) ?_
  refine g_nil ?_
  refine g_n_then ?_
  refine g_ret ?_
  refine g_done rfl (fun w hh => (.tmp rfl .nil)) (fun w hh => ⟨?_, hh.toExt⟩)
  rfl

set_option maxRecDepth 100000 in
theorem c_every_int (fv : FuncId) (fst cap : Array Value) (p : Int → Bool) (l : List Int) (r : Option (Nat × Nat)) (cp : Nat) (w : World) (hl : l.length ≤ 140737488355328) (hr : 0 < l.length → r ≠ none) (hs : segOK w (bk r, off r, ints l)) (hcall : ∀ a w, (callFunc fv a).run Try.prog w = .ok (.enter fv a) w) (hf : ∀ w', Ext [] w w' → ∀ j, j < l.length → Ret Try.prog fv (fst.toList ++ [.int .i64 (l.getD j 0)] ++ cap.toList) w' (.bool (p (l.getD j 0)))) : Ret Try.prog 94 [slv r l.length cp, .func (.func fv) fst cap] w (.bool (l.all p)) := by
  refine g_enter (args := [slv r l.length cp, .func (.func fv) fst cap]) Try.func94 rfl Try.ntmps94 rfl (e := [(0, _), (1, _)]) rfl (HS.start w [] [(bk r, off r, ints l)] (by simpa using hs)) ?_
  refine g_seq ?_
  refine g_region ?_
  refine g_box rfl rfl (fun b1 hb1 => ?_)
  refine g_val rfl rfl rfl (fun _ _ => v_assign rfl) ?_
  refine g_nil ?_
  refine g_n_then ?_
  refine g_seq ?_
  refine g_region ?_
  refine g_val rfl rfl rfl (fun _ _ => v_move rfl) ?_
  refine g_val rfl rfl rfl (fun _ _ => v_makeFunc (u := #[]) (u' := #[_]) rfl rfl) ?_
  refine g_callv rfl rfl rfl rfl rfl rfl rfl (fun a w => Try.call78 a w) (fun w hh => c_ContainsFunc_int 151 #[] #[ptr b1 0] (fun x => !p x) l r cp w hl hr (hh.seg 0 rfl) (fun a w => Try.call151 a w) (fun w2 hx j hj => c_every1_int fv fst cap p _ _ w2 ((hh.ownSeg 0 rfl).ext hx (by simp)) hcall (fun w3 hx3 => hf w3 ((hh.toExt.trans hx).trans hx3) j hj))) ?_
  refine g_val rfl rfl rfl (fun _ _ => v_not rfl) ?_
  refine g_val rfl rfl rfl (fun _ _ => v_assign rfl) ?_
  refine g_nil ?_
  refine g_n_then ?_
  refine g_ret ?_
  refine g_done rfl (fun w hh => (.tmp rfl .nil)) (fun w hh => ⟨?_, hh.toExt⟩)
  simp only [retv, all_not_any]

set_option maxRecDepth 100000 in
theorem c_IndexFunc_Water (fv : FuncId) (fst cap : Array Value) (p : Water → Bool) (l : List Water) (r : Option (Nat × Nat)) (cp : Nat) (w : World) (hl : l.length ≤ 140737488355328) (hr : 0 < l.length → r ≠ none) (hs : segOK w (bk r, off r, flat encW l)) (hcall : ∀ a w, (callFunc fv a).run Try.prog w = .ok (.enter fv a) w) (hf : ∀ w', Ext [] w w' → ∀ j, j < l.length → Ret Try.prog fv (fst.toList ++ [.agg (encW (l.getD j default)).toArray] ++ cap.toList) w' (.bool (p (l.getD j default)))) : Ret Try.prog 155 [slv r l.length cp, .func (.func fv) fst cap] w (.int .i64 (idxf p l)) := by
  refine g_enter (args := [slv r l.length cp, .func (.func fv) fst cap]) Try.func155 rfl Try.ntmps155 rfl (e := [(0, _), (1, _)]) rfl (HS.start w [] [(bk r, off r, flat encW l)] (by simpa using hs)) ?_
  refine g_seq ?_
  refine g_region ?_
  refine g_val rfl rfl rfl (fun _ _ => v_assign rfl) ?_
  refine g_nil ?_
  refine g_n_then ?_
  refine g_seq ?_
  refine g_seq ?_
  refine g_region ?_
  refine g_val rfl rfl rfl (fun _ _ => v_move rfl) ?_
  refine g_val rfl rfl rfl (fun w _ => v_lenS (Try.runUnderlying23 w) rfl) ?_
  refine g_val rfl rfl rfl (fun _ _ => v_move rfl) ?_
  refine g_nil ?_
  refine g_n_then ?_
  refine g_block ?_
  refine g_sub (e' := [(8, _), (0, _), (1, _), (7, _)]) ((.cons rfl (.cons rfl (.cons rfl (.cons rfl .nil))))) ?_
  refine g_loopM (ι := Nat) (fun k => [(8, .int .i64 (k : Nat))]) (fun k => []) (fun k => k ≤ l.length ∧ ∀ j, j < k → p (l.getD j default) = false) (fun k => l.length - k) 0 (⟨Nat.zero_le _, fun j hj => absurd hj (by omega)⟩) ?_
  intro k hI0
  refine g_seq ?_
  refine g_region ?_
  refine g_val rfl rfl rfl (fun _ _ => v_lss rfl rfl) ?_
  refine g_nil ?_
  refine g_n_then ?_
  refine g_seq ?_
  refine g_cond rfl (fun hc9_1 => ?_) (fun hc9_1 => ?_)
  · replace hc9_1 := of_decide_eq_true hc9_1
    refine g_skip ?_
    refine g_n_then ?_
    refine g_seq ?_
    refine g_block ?_
    refine g_seq ?_
    refine g_region ?_
    refine g_val rfl rfl rfl (fun _ _ => v_move rfl) ?_
    refine g_val rfl rfl rfl (fun _ _ => v_assign rfl) ?_
    refine g_nil ?_
    refine g_n_then ?_
    refine g_seq ?_
    refine g_region ?_
    refine g_val rfl rfl rfl (fun _ _ => v_move rfl) ?_
    refine g_val rfl rfl rfl (fun _ _ => v_move rfl) ?_
    refine g_val rfl rfl rfl (fun _ _ => v_move rfl) ?_
    refine g_val rfl rfl rfl (fun w _ => v_indexAddr k (Try.runUnderlying23 w) (Try.sizeOf68 w) rfl rfl rfl (by omega) (hr (by omega))) ?_
    refine g_val rfl rfl rfl (fun w hh => v_loadAgg (vs := encW _) (Try.isAgg68 w) (Try.sizeOf68 w) rfl (hh.elem (j := k) encW_len 0 rfl (by omega))) ?_
    refine g_callv rfl rfl rfl rfl rfl rfl rfl hcall (fun w hh => hf w hh.toExt _ (by omega)) ?_
    refine g_nil ?_
    refine g_n_then ?_
    refine g_cond rfl (fun hc16_2 => ?_) (fun hc16_2 => ?_)
    · have hc16_2 := hc16_2
      refine g_seq ?_
      refine g_region ?_
      refine g_val rfl rfl rfl (fun _ _ => v_move rfl) ?_
      refine g_val rfl rfl rfl (fun _ _ => v_assign rfl) ?_
      refine g_nil ?_
      refine g_n_then ?_
      refine g_ret ?_
      refine g_r_blk ?_
      refine g_r_then ?_
      refine g_r_then ?_
      refine g_r_blk ?_
      refine g_r_then ?_
      refine g_done rfl (fun w hh => (.tmp rfl .nil)) (fun w hh => ⟨?_, hh.toExt⟩)
      simp [retv, idxf_found (k := k) (by omega) hI0.2 (by assumption)]
    · have hc16_2 := hc16_2
      refine g_skip ?_
      refine g_n_blk ?_
      refine g_n_then ?_
      refine g_region ?_
      refine g_val rfl rfl rfl (fun _ _ => v_add rfl rfl (wrap_i64 (by omega))) ?_
      refine g_val rfl rfl rfl (fun _ _ => v_move rfl) ?_
      refine g_nil ?_
      refine g_n_then ?_
      exact g_againM (i := k) (k + 1) [] ((.cons rfl (.cons rfl (.cons rfl (.cons rfl .nil))))) (by decide) rfl (⟨by omega, fun j hj => by rcases Nat.lt_succ_iff_lt_or_eq.1 hj with h | h; exact hI0.2 j h; subst h; assumption⟩) (by omega)
  · replace hc9_1 := of_decide_eq_false hc9_1
    refine g_exit ?_
    refine g_x_then ?_
    refine g_x_then ?_
    refine g_x_blk ?_
    refine g_n_then ?_
    refine g_seq ?_
    refine g_region ?_
    refine g_val rfl rfl rfl (fun _ _ => v_assign rfl) ?_
    refine g_nil ?_
    refine g_n_then ?_
    refine g_ret ?_
    have ek : k = l.length := by omega
    subst ek
    refine g_done rfl (fun w hh => (.tmp rfl .nil)) (fun w hh => ⟨?_, hh.toExt⟩)
    simp [retv, idxf_none hI0.2]

set_option maxRecDepth 100000 in
theorem c_ContainsFunc_Water (fv : FuncId) (fst cap : Array Value) (p : Water → Bool) (l : List Water) (r : Option (Nat × Nat)) (cp : Nat) (w : World) (hl : l.length ≤ 140737488355328) (hr : 0 < l.length → r ≠ none) (hs : segOK w (bk r, off r, flat encW l)) (hcall : ∀ a w, (callFunc fv a).run Try.prog w = .ok (.enter fv a) w) (hf : ∀ w', Ext [] w w' → ∀ j, j < l.length → Ret Try.prog fv (fst.toList ++ [.agg (encW (l.getD j default)).toArray] ++ cap.toList) w' (.bool (p (l.getD j default)))) : Ret Try.prog 149 [slv r l.length cp, .func (.func fv) fst cap] w (.bool (l.any p)) := by
  refine g_enter (args := [slv r l.length cp, .func (.func fv) fst cap]) Try.func149 rfl Try.ntmps149 rfl (e := [(0, _), (1, _)]) rfl (HS.start w [] [(bk r, off r, flat encW l)] (by simpa using hs)) ?_
  refine g_seq ?_
  refine g_region ?_
  refine g_val rfl rfl rfl (fun _ _ => v_assign rfl) ?_
  refine g_nil ?_
  refine g_n_then ?_
  refine g_seq ?_
  refine g_region ?_
  refine g_val rfl rfl rfl (fun _ _ => v_move rfl) ?_
  refine g_val rfl rfl rfl (fun _ _ => v_move rfl) ?_
  refine g_callv rfl rfl rfl rfl rfl rfl rfl (fun a w => Try.call155 a w) (fun w hh => c_IndexFunc_Water fv fst cap p l r cp w hl hr (hh.seg 0 rfl) hcall (fun w2 hx j hj => hf w2 (hh.toExt.trans hx) j hj)) ?_
  refine g_val rfl rfl rfl (fun _ _ => v_geq rfl rfl) ?_
  refine g_val rfl rfl rfl (fun _ _ => v_assign rfl) ?_
  refine g_nil ?_
  refine g_n_then ?_
  refine g_ret ?_
  refine g_done rfl (fun w hh => (.tmp rfl .nil)) (fun w hh => ⟨?_, hh.toExt⟩)
  simp only [retv, idxf_nonneg]

set_option maxRecDepth 100000 in
theorem c_every1_Water (fv : FuncId) (fst cap : Array Value) (p : Water → Bool) (x : Water) (bx : Nat) (w : World) (hs : segOK w (bx, 0, [.func (.func fv) fst cap])) (hcall : ∀ a w, (callFunc fv a).run Try.prog w = .ok (.enter fv a) w) (hf : ∀ w', Ext [] w w' → Ret Try.prog fv (fst.toList ++ [.agg (encW x).toArray] ++ cap.toList) w' (.bool (p x))) : Ret Try.prog 150 [.agg (encW x).toArray, ptr bx 0] w (.bool (!p x)) := by
  refine g_enter (args := [.agg (encW x).toArray, ptr bx 0]) Try.func150 rfl Try.ntmps150 rfl (e := [(0, _), (1, _)]) rfl (HS.start w [] [(bx, 0, [.func (.func fv) fst cap])] (by simpa using hs)) ?_
  refine g_seq ?_
  refine g_region ?_
  refine g_box rfl rfl (fun b1 hb1 => ?_)
  refine g_val rfl rfl rfl (fun _ _ => v_assign rfl) ?_
  refine g_nil ?_
  refine g_n_then ?_
  refine g_seq ?_
  refine g_region ?_
  refine g_val rfl rfl rfl (fun w hh => v_load (Try.isAgg145 w) rfl (hh.rcell 0 0 rfl rfl)) ?_
  refine g_val rfl rfl rfl (fun w hh => v_loadAgg (vs := [_, _]) (Try.isAgg68 w) (Try.sizeOf68 w) rfl (hh.cells 0 rfl rfl)) ?_
  refine g_callv rfl rfl rfl rfl rfl rfl rfl hcall (fun w hh => hf w hh.toExt) ?_
  refine g_val rfl rfl rfl (fun _ _ => v_not rfl) ?_
  refine g_val rfl rfl rfl (fun _ _ => v_assign rfl) ?_
  refine g_nil ?_
  refine g_n_then ?_
  refine g_ret ?_
  refine g_done rfl (fun w hh => (.tmp rfl .nil)) (fun w hh => ⟨?_, hh.toExt⟩)
  rfl

set_option maxRecDepth 100000 in
theorem c_every_Water (fv : FuncId) (fst cap : Array Value) (p : Water → Bool) (l : List Water) (r : Option (Nat × Nat)) (cp : Nat) (w : World) (hl : l.length ≤ 140737488355328) (hr : 0 < l.length → r ≠ none) (hs : segOK w (bk r, off r, flat encW l)) (hcall : ∀ a w, (callFunc fv a).run Try.prog w = .ok (.enter fv a) w) (hf : ∀ w', Ext [] w w' → ∀ j, j < l.length → Ret Try.prog fv (fst.toList ++ [.agg (encW (l.getD j default)).toArray] ++ cap.toList) w' (.bool (p (l.getD j default)))) : Ret Try.prog 91 [slv r l.length cp, .func (.func fv) fst cap] w (.bool (l.all p)) := by
  refine g_enter (args := [slv r l.length cp, .func (.func fv) fst cap]) Try.func91 rfl Try.ntmps91 rfl (e := [(0, _), (1, _)]) rfl (HS.start w [] [(bk r, off r, flat encW l)] (by simpa using hs)) ?_
  refine g_seq ?_
  refine g_region ?_
  refine g_box rfl rfl (fun b1 hb1 => ?_)
  refine g_val rfl rfl rfl (fun _ _ => v_assign rfl) ?_
  refine g_nil ?_
  refine g_n_then ?_
  refine g_seq ?_
  refine g_region ?_
  refine g_val rfl rfl rfl (fun _ _ => v_move rfl) ?_
  refine g_val rfl rfl rfl (fun _ _ => v_makeFunc (u := #[]) (u' := #[_]) rfl rfl) ?_
  refine g_callv rfl rfl rfl rfl rfl rfl rfl (fun a w => Try.call149 a w) (fun w hh => c_ContainsFunc_Water 150 #[] #[ptr b1 0] (fun x => !p x) l r cp w hl hr (hh.seg 0 rfl) (fun a w => Try.call150 a w) (fun w2 hx j hj => c_every1_Water fv fst cap p _ _ w2 ((hh.ownSeg 0 rfl).ext hx (by simp)) hcall (fun w3 hx3 => hf w3 ((hh.toExt.trans hx).trans hx3) j hj))) ?_
  refine g_val rfl rfl rfl (fun _ _ => v_not rfl) ?_
  refine g_val rfl rfl rfl (fun _ _ => v_assign rfl) ?_
  refine g_nil ?_
  refine g_n_then ?_
  refine g_ret ?_
  refine g_done rfl (fun w hh => (.tmp rfl .nil)) (fun w hh => ⟨?_, hh.toExt⟩)
  simp only [retv, all_not_any]

set_option maxRecDepth 100000 in
theorem c_IndexFunc_Sill (fv : FuncId) (fst cap : Array Value) (p : Sill → Bool) (l : List Sill) (r : Option (Nat × Nat)) (cp : Nat) (w : World) (hl : l.length ≤ 140737488355328) (hr : 0 < l.length → r ≠ none) (hs : segOK w (bk r, off r, flat encS l)) (hcall : ∀ a w, (callFunc fv a).run Try.prog w = .ok (.enter fv a) w) (hf : ∀ w', Ext [] w w' → ∀ j, j < l.length → Ret Try.prog fv (fst.toList ++ [.agg (encS (l.getD j default)).toArray] ++ cap.toList) w' (.bool (p (l.getD j default)))) : Ret Try.prog 165 [slv r l.length cp, .func (.func fv) fst cap] w (.int .i64 (idxf p l)) := by
  refine g_enter (args := [slv r l.length cp, .func (.func fv) fst cap]) Try.func165 rfl Try.ntmps165 rfl (e := [(0, _), (1, _)]) rfl (HS.start w [] [(bk r, off r, flat encS l)] (by simpa using hs)) ?_
  refine g_seq ?_
  refine g_region ?_
  refine g_val rfl rfl rfl (fun _ _ => v_assign rfl) ?_
  refine g_nil ?_
  refine g_n_then ?_
  refine g_seq ?_
  refine g_seq ?_
  refine g_region ?_
  refine g_val rfl rfl rfl (fun _ _ => v_move rfl) ?_
  refine g_val rfl rfl rfl (fun w _ => v_lenS (Try.runUnderlying27 w) rfl) ?_
  refine g_val rfl rfl rfl (fun _ _ => v_move rfl) ?_
  refine g_nil ?_
  refine g_n_then ?_
  refine g_block ?_
  refine g_sub (e' := [(8, _), (0, _), (1, _), (7, _)]) ((.cons rfl (.cons rfl (.cons rfl (.cons rfl .nil))))) ?_
  refine g_loopM (ι := Nat) (fun k => [(8, .int .i64 (k : Nat))]) (fun k => []) (fun k => k ≤ l.length ∧ ∀ j, j < k → p (l.getD j default) = false) (fun k => l.length - k) 0 (⟨Nat.zero_le _, fun j hj => absurd hj (by omega)⟩) ?_
  intro k hI0
  refine g_seq ?_
  refine g_region ?_
  refine g_val rfl rfl rfl (fun _ _ => v_lss rfl rfl) ?_
  refine g_nil ?_
  refine g_n_then ?_
  refine g_seq ?_
  refine g_cond rfl (fun hc9_1 => ?_) (fun hc9_1 => ?_)
  · replace hc9_1 := of_decide_eq_true hc9_1
    refine g_skip ?_
    refine g_n_then ?_
    refine g_seq ?_
    refine g_block ?_
    refine g_seq ?_
    refine g_region ?_
    refine g_val rfl rfl rfl (fun _ _ => v_move rfl) ?_
    refine g_val rfl rfl rfl (fun _ _ => v_assign rfl) ?_
    refine g_nil ?_
    refine g_n_then ?_
    refine g_seq ?_
    refine g_region ?_
    refine g_val rfl rfl rfl (fun _ _ => v_move rfl) ?_
    refine g_val rfl rfl rfl (fun _ _ => v_move rfl) ?_
    refine g_val rfl rfl rfl (fun _ _ => v_move rfl) ?_
    refine g_val rfl rfl rfl (fun w _ => v_indexAddr k (Try.runUnderlying27 w) (Try.sizeOf51 w) rfl rfl rfl (by omega) (hr (by omega))) ?_
    refine g_val rfl rfl rfl (fun w hh => v_loadAgg (vs := encS _) (Try.isAgg51 w) (Try.sizeOf51 w) rfl (hh.elem (j := k) encS_len 0 rfl (by omega))) ?_
    refine g_callv rfl rfl rfl rfl rfl rfl rfl hcall (fun w hh => hf w hh.toExt _ (by omega)) ?_
    refine g_nil ?_
    refine g_n_then ?_
    refine g_cond rfl (fun hc16_2 => ?_) (fun hc16_2 => ?_)
    · have hc16_2 := hc16_2
      refine g_seq ?_
      refine g_region ?_
      refine g_val rfl rfl rfl (fun _ _ => v_move rfl) ?_
      refine g_val rfl rfl rfl (fun _ _ => v_assign rfl) ?_
      refine g_nil ?_
      refine g_n_then ?_
      refine g_ret ?_
      refine g_r_blk ?_
      refine g_r_then ?_
      refine g_r_then ?_
      refine g_r_blk ?_
      refine g_r_then ?_
      refine g_done rfl (fun w hh => (.tmp rfl .nil)) (fun w hh => ⟨?_, hh.toExt⟩)
      simp [retv, idxf_found (k := k) (by omega) hI0.2 (by assumption)]
    · have hc16_2 := hc16_2
      refine g_skip ?_
      refine g_n_blk ?_
      refine g_n_then ?_
      refine g_region ?_
      refine g_val rfl rfl rfl (fun _ _ => v_add rfl rfl (wrap_i64 (by omega))) ?_
      refine g_val rfl rfl rfl (fun _ _ => v_move rfl) ?_
      refine g_nil ?_
      refine g_n_then ?_
      exact g_againM (i := k) (k + 1) [] ((.cons rfl (.cons rfl (.cons rfl (.cons rfl .nil))))) (by decide) rfl (⟨by omega, fun j hj => by rcases Nat.lt_succ_iff_lt_or_eq.1 hj with h | h; exact hI0.2 j h; subst h; assumption⟩) (by omega)
  · replace hc9_1 := of_decide_eq_false hc9_1
    refine g_exit ?_
    refine g_x_then ?_
    refine g_x_then ?_
    refine g_x_blk ?_
    refine g_n_then ?_
    refine g_seq ?_
    refine g_region ?_
    refine g_val rfl rfl rfl (fun _ _ => v_assign rfl) ?_
    refine g_nil ?_
    refine g_n_then ?_
    refine g_ret ?_
    have ek : k = l.length := by omega
    subst ek
    refine g_done rfl (fun w hh => (.tmp rfl .nil)) (fun w hh => ⟨?_, hh.toExt⟩)
    simp [retv, idxf_none hI0.2]

set_option maxRecDepth 100000 in
theorem c_ContainsFunc_Sill (fv : FuncId) (fst cap : Array Value) (p : Sill → Bool) (l : List Sill) (r : Option (Nat × Nat)) (cp : Nat) (w : World) (hl : l.length ≤ 140737488355328) (hr : 0 < l.length → r ≠ none) (hs : segOK w (bk r, off r, flat encS l)) (hcall : ∀ a w, (callFunc fv a).run Try.prog w = .ok (.enter fv a) w) (hf : ∀ w', Ext [] w w' → ∀ j, j < l.length → Ret Try.prog fv (fst.toList ++ [.agg (encS (l.getD j default)).toArray] ++ cap.toList) w' (.bool (p (l.getD j default)))) : Ret Try.prog 152 [slv r l.length cp, .func (.func fv) fst cap] w (.bool (l.any p)) := by
  refine g_enter (args := [slv r l.length cp, .func (.func fv) fst cap]) Try.func152 rfl Try.ntmps152 rfl (e := [(0, _), (1, _)]) rfl (HS.start w [] [(bk r, off r, flat encS l)] (by simpa using hs)) ?_
  refine g_seq ?_
  refine g_region ?_
  refine g_val rfl rfl rfl (fun _ _ => v_assign rfl) ?_
  refine g_nil ?_
  refine g_n_then ?_
  refine g_seq ?_
  refine g_region ?_
  refine g_val rfl rfl rfl (fun _ _ => v_move rfl) ?_
  refine g_val rfl rfl rfl (fun _ _ => v_move rfl) ?_
  refine g_callv rfl rfl rfl rfl rfl rfl rfl (fun a w => Try.call165 a w) (fun w hh => c_IndexFunc_Sill fv fst cap p l r cp w hl hr (hh.seg 0 rfl) hcall (fun w2 hx j hj => hf w2 (hh.toExt.trans hx) j hj)) ?_
  refine g_val rfl rfl rfl (fun _ _ => v_geq rfl rfl) ?_
  refine g_val rfl rfl rfl (fun _ _ => v_assign rfl) ?_
  refine g_nil ?_
  refine g_n_then ?_
  refine g_ret ?_
  refine g_done rfl (fun w hh => (.tmp rfl .nil)) (fun w hh => ⟨?_, hh.toExt⟩)
  simp only [retv, idxf_nonneg]

set_option maxRecDepth 100000 in
theorem c_every1_Sill (fv : FuncId) (fst cap : Array Value) (p : Sill → Bool) (x : Sill) (bx : Nat) (w : World) (hs : segOK w (bx, 0, [.func (.func fv) fst cap])) (hcall : ∀ a w, (callFunc fv a).run Try.prog w = .ok (.enter fv a) w) (hf : ∀ w', Ext [] w w' → Ret Try.prog fv (fst.toList ++ [.agg (encS x).toArray] ++ cap.toList) w' (.bool (p x))) : Ret Try.prog 153 [.agg (encS x).toArray, ptr bx 0] w (.bool (!p x)) := by
  refine g_enter (args := [.agg (encS x).toArray, ptr bx 0]) Try.func153 rfl Try.ntmps153 rfl (e := [(0, _), (1, _)]) rfl (HS.start w [] [(bx, 0, [.func (.func fv) fst cap])] (by simpa using hs)) ?_
  refine g_seq ?_
  refine g_region ?_
  refine g_box rfl rfl (fun b1 hb1 => ?_)
  refine g_val rfl rfl rfl (fun _ _ => v_assign rfl) ?_
  refine g_nil ?_
  refine g_n_then ?_
  refine g_seq ?_
  refine g_region ?_
  refine g_val rfl rfl rfl (fun w hh => v_load (Try.isAgg147 w) rfl (hh.rcell 0 0 rfl rfl)) ?_
  refine g_val rfl rfl rfl (fun w hh => v_loadAgg (vs := [_, _, _]) (Try.isAgg51 w) (Try.sizeOf51 w) rfl (hh.cells 0 rfl rfl)) ?_
  refine g_callv rfl rfl rfl rfl rfl rfl rfl hcall (fun w hh => hf w hh.toExt) ?_
  refine g_val rfl rfl rfl (fun _ _ => v_not rfl) ?_
  refine g_val rfl rfl rfl (fun _ _ => v_assign rfl) ?_
  refine g_nil ?_
  refine g_n_then ?_
  refine g_ret ?_
  refine g_done rfl (fun w hh => (.tmp rfl .nil)) (fun w hh => ⟨?_, hh.toExt⟩)
  rfl

set_option maxRecDepth 100000 in
theorem c_every_Sill (fv : FuncId) (fst cap : Array Value) (p : Sill → Bool) (l : List Sill) (r : Option (Nat × Nat)) (cp : Nat) (w : World) (hl : l.length ≤ 140737488355328) (hr : 0 < l.length → r ≠ none) (hs : segOK w (bk r, off r, flat encS l)) (hcall : ∀ a w, (callFunc fv a).run Try.prog w = .ok (.enter fv a) w) (hf : ∀ w', Ext [] w w' → ∀ j, j < l.length → Ret Try.prog fv (fst.toList ++ [.agg (encS (l.getD j default)).toArray] ++ cap.toList) w' (.bool (p (l.getD j default)))) : Ret Try.prog 95 [slv r l.length cp, .func (.func fv) fst cap] w (.bool (l.all p)) := by
  refine g_enter (args := [slv r l.length cp, .func (.func fv) fst cap]) Try.func95 rfl Try.ntmps95 rfl (e := [(0, _), (1, _)]) rfl (HS.start w [] [(bk r, off r, flat encS l)] (by simpa using hs)) ?_
  refine g_seq ?_
  refine g_region ?_
  refine g_box rfl rfl (fun b1 hb1 => ?_)
  refine g_val rfl rfl rfl (fun _ _ => v_assign rfl) ?_
  refine g_nil ?_
  refine g_n_then ?_
  refine g_seq ?_
  refine g_region ?_
  refine g_val rfl rfl rfl (fun _ _ => v_move rfl) ?_
  refine g_val rfl rfl rfl (fun _ _ => v_makeFunc (u := #[]) (u' := #[_]) rfl rfl) ?_
  refine g_callv rfl rfl rfl rfl rfl rfl rfl (fun a w => Try.call152 a w) (fun w hh => c_ContainsFunc_Sill 153 #[] #[ptr b1 0] (fun x => !p x) l r cp w hl hr (hh.seg 0 rfl) (fun a w => Try.call153 a w) (fun w2 hx j hj => c_every1_Sill fv fst cap p _ _ w2 ((hh.ownSeg 0 rfl).ext hx (by simp)) hcall (fun w3 hx3 => hf w3 ((hh.toExt.trans hx).trans hx3) j hj))) ?_
  refine g_val rfl rfl rfl (fun _ _ => v_not rfl) ?_
  refine g_val rfl rfl rfl (fun _ _ => v_assign rfl) ?_
  refine g_nil ?_
  refine g_n_then ?_
  refine g_ret ?_
  refine g_done rfl (fun w hh => (.tmp rfl .nil)) (fun w hh => ⟨?_, hh.toExt⟩)
  simp only [retv, all_not_any]

set_option maxRecDepth 100000 in
theorem c_IndexFunc_Span (fv : FuncId) (fst cap : Array Value) (p : Span → Bool) (l : List Span) (r : Option (Nat × Nat)) (cp : Nat) (w : World) (hl : l.length ≤ 140737488355328) (hr : 0 < l.length → r ≠ none) (hs : segOK w (bk r, off r, flat encP l)) (hcall : ∀ a w, (callFunc fv a).run Try.prog w = .ok (.enter fv a) w) (hf : ∀ w', Ext [] w w' → ∀ j, j < l.length → Ret Try.prog fv (fst.toList ++ [.agg (encP (l.getD j default)).toArray] ++ cap.toList) w' (.bool (p (l.getD j default)))) : Ret Try.prog 115 [slv r l.length cp, .func (.func fv) fst cap] w (.int .i64 (idxf p l)) := by
  refine g_enter (args := [slv r l.length cp, .func (.func fv) fst cap]) Try.func115 rfl Try.ntmps115 rfl (e := [(0, _), (1, _)]) rfl (HS.start w [] [(bk r, off r, flat encP l)] (by simpa using hs)) ?_
  refine g_seq ?_
  refine g_region ?_
  refine g_val rfl rfl rfl (fun _ _ => v_assign rfl) ?_
  refine g_nil ?_
  refine g_n_then ?_
  refine g_seq ?_
  refine g_seq ?_
  refine g_region ?_
  refine g_val rfl rfl rfl (fun _ _ => v_move rfl) ?_
  refine g_val rfl rfl rfl (fun w _ => v_lenS (Try.runUnderlying77 w) rfl) ?_
  refine g_val rfl rfl rfl (fun _ _ => v_move rfl) ?_
  refine g_nil ?_
  refine g_n_then ?_
  refine g_block ?_
  refine g_sub (e' := [(8, _), (0, _), (1, _), (7, _)]) ((.cons rfl (.cons rfl (.cons rfl (.cons rfl .nil))))) ?_
  refine g_loopM (ι := Nat) (fun k => [(8, .int .i64 (k : Nat))]) (fun k => []) (fun k => k ≤ l.length ∧ ∀ j, j < k → p (l.getD j default) = false) (fun k => l.length - k) 0 (⟨Nat.zero_le _, fun j hj => absurd hj (by omega)⟩) ?_
  intro k hI0
  refine g_seq ?_
  refine g_region ?_
  refine g_val rfl rfl rfl (fun _ _ => v_lss rfl rfl) ?_
  refine g_nil ?_
  refine g_n_then ?_
  refine g_seq ?_
  refine g_cond rfl (fun hc9_1 => ?_) (fun hc9_1 => ?_)
  · replace hc9_1 := of_decide_eq_true hc9_1
    refine g_skip ?_
    refine g_n_then ?_
    refine g_seq ?_
    refine g_block ?_
    refine g_seq ?_
    refine g_region ?_
    refine g_val rfl rfl rfl (fun _ _ => v_move rfl) ?_
    refine g_val rfl rfl rfl (fun _ _ => v_assign rfl) ?_
    refine g_nil ?_
    refine g_n_then ?_
    refine g_seq ?_
    refine g_region ?_
    refine g_val rfl rfl rfl (fun _ _ => v_move rfl) ?_
    refine g_val rfl rfl rfl (fun _ _ => v_move rfl) ?_
    refine g_val rfl rfl rfl (fun _ _ => v_move rfl) ?_
    refine g_val rfl rfl rfl (fun w _ => v_indexAddr k (Try.runUnderlying77 w) (Try.sizeOf25 w) rfl rfl rfl (by omega) (hr (by omega))) ?_
    refine g_val rfl rfl rfl (fun w hh => v_loadAgg (vs := encP _) (Try.isAgg25 w) (Try.sizeOf25 w) rfl (hh.elem (j := k) encP_len 0 rfl (by omega))) ?_
    refine g_callv rfl rfl rfl rfl rfl rfl rfl hcall (fun w hh => hf w hh.toExt _ (by omega)) ?_
    refine g_nil ?_
    refine g_n_then ?_
    refine g_cond rfl (fun hc16_2 => ?_) (fun hc16_2 => ?_)
    · have hc16_2 := hc16_2
      refine g_seq ?_
      refine g_region ?_
      refine g_val rfl rfl rfl (fun _ _ => v_move rfl) ?_
      refine g_val rfl rfl rfl (fun _ _ => v_assign rfl) ?_
      refine g_nil ?_
      refine g_n_then ?_
      refine g_ret ?_
      refine g_r_blk ?_
      refine g_r_then ?_
      refine g_r_then ?_
      refine g_r_blk ?_
      refine g_r_then ?_
      refine g_done rfl (fun w hh => (.tmp rfl .nil)) (fun w hh => ⟨?_, hh.toExt⟩)
      simp [retv, idxf_found (k := k) (by omega) hI0.2 (by assumption)]
    · have hc16_2 := hc16_2
      refine g_skip ?_
      refine g_n_blk ?_
      refine g_n_then ?_
      refine g_region ?_
      refine g_val rfl rfl rfl (fun _ _ => v_add rfl rfl (wrap_i64 (by omega))) ?_
      refine g_val rfl rfl rfl (fun _ _ => v_move rfl) ?_
      refine g_nil ?_
      refine g_n_then ?_
      exact g_againM (i := k) (k + 1) [] ((.cons rfl (.cons rfl (.cons rfl (.cons rfl .nil))))) (by decide) rfl (⟨by omega, fun j hj => by rcases Nat.lt_succ_iff_lt_or_eq.1 hj with h | h; exact hI0.2 j h; subst h; assumption⟩) (by omega)
  · replace hc9_1 := of_decide_eq_false hc9_1
    refine g_exit ?_
    refine g_x_then ?_
    refine g_x_then ?_
    refine g_x_blk ?_
    refine g_n_then ?_
    refine g_seq ?_
    refine g_region ?_
    refine g_val rfl rfl rfl (fun _ _ => v_assign rfl) ?_
    refine g_nil ?_
    refine g_n_then ?_
    refine g_ret ?_
    have ek : k = l.length := by omega
    subst ek
    refine g_done rfl (fun w hh => (.tmp rfl .nil)) (fun w hh => ⟨?_, hh.toExt⟩)
    simp [retv, idxf_none hI0.2]

end Go.Proofs

namespace Go.Proofs
open Go Go.Fw Go.Pl
set_option maxRecDepth 100000 in
theorem c_place (p : Int) (L : LS) (w : World) (hL : L.OK w) : Ret Try.prog 89 [L.val, .int .i64 p] w (.bool (isPlace L.S p)) := by
  have hlt := hL.tl
  have hlf := hL.fl
  have hls := hL.sl
  refine g_enter (args := [L.val, .int .i64 p]) Try.func89 rfl Try.ntmps89 rfl (e := [(0, _), (1, _)]) rfl (HS.start w [] L.segs hL.segs) ?_
  refine g_seq ?_
  refine g_region ?_
  refine g_box rfl rfl (fun b1 hb1 => ?_)
  refine g_val rfl rfl rfl (fun _ _ => v_assign rfl) ?_
  refine g_nil ?_
  refine g_n_then ?_
  refine g_seq ?_
  refine g_region ?_
  refine g_val rfl rfl rfl (fun _ _ => v_move rfl) ?_
  refine g_val rfl rfl rfl (fun w _ => v_fieldAddr 3 (Try.runUnderlying29 w) rfl (Try.sizeOf26 w) rfl) ?_
  refine g_val rfl rfl rfl (fun w hh => v_load (Try.isAgg26 w) rfl (hh.cell 0 rfl rfl)) ?_
  refine g_val rfl rfl rfl (fun w _ => v_lenS (Try.runUnderlying26 w) rfl) ?_
  refine g_val rfl rfl rfl (fun _ _ => v_sub rfl rfl (wrap_i64 (by omega))) ?_
  refine g_callv rfl rfl rfl rfl rfl rfl rfl (fun a w => Try.call90 a w) (fun w hh => c_in _ _ _ w) ?_
  refine g_val rfl rfl rfl (fun _ _ => v_assign rfl) ?_
  refine g_nil ?_
  refine g_n_then ?_
  refine g_ret ?_
  refine g_done rfl (fun w hh => (.tmp rfl .nil)) (fun w hh => ⟨?_, hh.toExt⟩)
  rfl

set_option maxRecDepth 100000 in
theorem c_ordered (L : LS) (w : World) (hL : L.OK w) (h2 : 2 ≤ L.S.table.length) : Ret Try.prog 97 [L.val] w (.bool (ordered L.S)) := by
  have hlt := hL.tl
  have hlf := hL.fl
  have hls := hL.sl
  have htc := hL.tc
  refine g_enter (args := [L.val]) Try.func97 rfl Try.ntmps97 rfl (e := [(0, _)]) rfl (HS.start w [] L.segs hL.segs) ?_
  refine g_seq ?_
  refine g_region ?_
  refine g_box rfl rfl (fun b1 hb1 => ?_)
  refine g_val rfl rfl rfl (fun _ _ => v_assign rfl) ?_
  refine g_nil ?_
  refine g_n_then ?_
  refine g_seq ?_
  refine g_seq ?_
  refine g_region ?_
  refine g_val rfl rfl rfl (fun w _ => v_fieldAddr 0 (Try.runUnderlying29 w) rfl (Try.sizeOf23 w) rfl) ?_
  refine g_val rfl rfl rfl (fun w hh => v_load (Try.isAgg23 w) rfl (hh.cell 0 rfl rfl)) ?_
  refine g_val rfl rfl rfl (fun w _ => v_slice (l := 1) (h := L.S.table.length) (Try.runUnderlying23 w) (Try.sizeOf68 w) rfl ⟨_, _, rfl, rfl⟩ rfl (by omega) hL.tc (by omega)) ?_
  refine g_val rfl rfl rfl (fun w _ => v_lenS (Try.runUnderlying23 w) rfl) ?_
  refine g_val rfl rfl rfl (fun _ _ => v_move rfl) ?_
  refine g_nil ?_
  refine g_n_then ?_
  refine g_block ?_
  refine g_sub (e' := [(8, _), (1, _), (7, _)]) ((.cons rfl (.cons rfl (.cons rfl .nil)))) ?_
  refine g_loopM (ι := Nat) (fun k => [(8, .int .i64 (k : Nat))]) (fun k => []) (fun k => k ≤ L.S.table.length - 1 ∧ ∀ i, i < k → (L.S.table.getD i default).min < (L.S.table.getD (i + 1) default).min) (fun k => L.S.table.length - 1 - k) 0 (⟨Nat.zero_le _, fun i hi => absurd hi (by omega)⟩) ?_
  intro k hI0
  refine g_seq ?_
  refine g_region ?_
  refine g_val rfl rfl rfl (fun _ _ => v_lss rfl rfl) ?_
  refine g_nil ?_
  refine g_n_then ?_
  refine g_seq ?_
  refine g_cond rfl (fun hc9_1 => ?_) (fun hc9_1 => ?_)
  · replace hc9_1 := of_decide_eq_true hc9_1
    refine g_skip ?_
    refine g_n_then ?_
    refine g_seq ?_
    refine g_block ?_
    refine g_seq ?_
    refine g_region ?_
    refine g_val rfl rfl rfl (fun _ _ => v_move rfl) ?_
    refine g_val rfl rfl rfl (fun _ _ => v_assign rfl) ?_
    refine g_nil ?_
    refine g_n_then ?_
    refine g_seq ?_
    refine g_draw none (.free 0 (.hoist 1 (.free 2 (.hoist 3 (.free 4 (.hoist 5 (.free 6 (.hoist 7 (.free 8 (.free 9 (.hoist 10 (.free 11 (.hoist 12 (.free 13 .done)))))))))))))) _ rfl (by decide +kernel) (fun w k hh => hh.draw k) (fun w hh => hh) ?_
    refine p_free rfl rfl rfl rfl (fun w _ => v_fieldAddr 0 (Try.runUnderlying29 w) rfl (Try.sizeOf23 w) rfl) ?_
    refine p_hoist rfl rfl rfl rfl (fun w hh => v_load (Try.isAgg23 w) rfl (hh.cell 0 rfl rfl)) ?_
    refine p_free rfl rfl rfl rfl (fun _ _ => v_move rfl) ?_
    refine p_hoist rfl rfl rfl rfl (fun w _ => v_indexAddr k (Try.runUnderlying23 w) (Try.sizeOf68 w) rfl rfl rfl (by omega) (hL.t0 (by omega))) ?_
    refine p_free rfl rfl rfl rfl (fun w _ => v_fieldAddr 0 (Try.runUnderlying68 w) rfl (Try.sizeOf3 w) rfl) ?_
    refine p_hoist rfl rfl rfl rfl (fun w hh => v_load (Try.isAgg3 w) rfl (hh.fld (j := k) encW_len 0 0 rfl (by omega) rfl rfl)) ?_
    refine p_free rfl rfl rfl rfl (fun w _ => v_fieldAddr 0 (Try.runUnderlying29 w) rfl (Try.sizeOf23 w) rfl) ?_
    refine p_hoist rfl rfl rfl rfl (fun w hh => v_load (Try.isAgg23 w) rfl (hh.cell 0 rfl rfl)) ?_
    refine p_free rfl rfl rfl rfl (fun _ _ => v_move rfl) ?_
    refine p_free rfl rfl rfl rfl (fun _ _ => v_add rfl rfl (wrap_i64 (by omega))) ?_
    refine p_hoist rfl rfl rfl rfl (fun w _ => v_indexAddr (k + 1) (Try.runUnderlying23 w) (Try.sizeOf68 w) rfl rfl rfl (by omega) (hL.t0 (by omega))) ?_
    refine p_free rfl rfl rfl rfl (fun w _ => v_fieldAddr 0 (Try.runUnderlying68 w) rfl (Try.sizeOf3 w) rfl) ?_
    refine p_hoist rfl rfl rfl rfl (fun w hh => v_load (Try.isAgg3 w) rfl (hh.fld (j := (k + 1)) encW_len 0 0 rfl (by omega) rfl rfl)) ?_
    refine p_free rfl rfl rfl rfl (fun _ _ => v_geq rfl rfl) ?_
    refine p_done ?_
    refine g_n_then ?_
    refine g_cond rfl (fun hc24_2 => ?_) (fun hc24_2 => ?_)
    · replace hc24_2 := of_decide_eq_true hc24_2
      refine g_seq ?_
      refine g_region ?_
      refine g_val rfl rfl rfl (fun _ _ => v_assign rfl) ?_
      refine g_nil ?_
      refine g_n_then ?_
      refine g_ret ?_
      refine g_r_blk ?_
      refine g_r_then ?_
      refine g_r_then ?_
      refine g_r_blk ?_
      refine g_r_then ?_
      refine g_done rfl (fun w hh => (.tmp rfl .nil)) (fun w hh => ⟨?_, hh.toExt⟩)
      simp only [retv, ordered_false (s := L.S) (k := k) (by omega) (by omega)]
    · replace hc24_2 := of_decide_eq_false hc24_2
      refine g_skip ?_
      refine g_n_blk ?_
      refine g_n_then ?_
      refine g_region ?_
      refine g_val rfl rfl rfl (fun _ _ => v_add rfl rfl (wrap_i64 (by omega))) ?_
      refine g_val rfl rfl rfl (fun _ _ => v_move rfl) ?_
      refine g_nil ?_
      refine g_n_then ?_
      exact g_againM (i := k) (k + 1) [0] ((.cons rfl (.cons rfl (.cons rfl .nil)))) (by decide) rfl (⟨by omega, fun i hi => by rcases Nat.lt_succ_iff_lt_or_eq.1 hi with h | h; exact hI0.2 i h; subst h; omega⟩) (by omega)
  · replace hc9_1 := of_decide_eq_false hc9_1
    refine g_exit ?_
    refine g_x_then ?_
    refine g_x_then ?_
    refine g_x_blk ?_
    refine g_n_then ?_
    refine g_seq ?_
    refine g_region ?_
    refine g_val rfl rfl rfl (fun w _ => v_fieldAddr 1 (Try.runUnderlying29 w) rfl (Try.sizeOf25 w) rfl) ?_
    refine g_val rfl rfl rfl (fun w _ => v_fieldAddr 0 (Try.runUnderlying25 w) rfl (Try.sizeOf3 w) rfl) ?_
    refine g_val rfl rfl rfl (fun w hh => v_load (Try.isAgg3 w) rfl (hh.cell 0 rfl rfl)) ?_
    refine g_val rfl rfl rfl (fun w _ => v_fieldAddr 1 (Try.runUnderlying29 w) rfl (Try.sizeOf25 w) rfl) ?_
    refine g_val rfl rfl rfl (fun w _ => v_fieldAddr 1 (Try.runUnderlying25 w) rfl (Try.sizeOf3 w) rfl) ?_
    refine g_val rfl rfl rfl (fun w hh => v_load (Try.isAgg3 w) rfl (hh.cell 0 rfl rfl)) ?_
    refine g_val rfl rfl rfl (fun _ _ => v_leq rfl rfl) ?_
    refine g_val rfl rfl rfl (fun _ _ => v_assign rfl) ?_
    refine g_nil ?_
    refine g_n_then ?_
    refine g_ret ?_
    have ek : k = L.S.table.length - 1 := by omega
    subst ek
    refine g_done rfl (fun w hh => (.tmp rfl .nil)) (fun w hh => ⟨?_, hh.toExt⟩)
    simp only [retv, ordered_true hI0.2]

set_option maxRecDepth 100000 in
theorem c_Check2 (x : Water) (w : World) : Ret Try.prog 92 [.agg (encW x).toArray] w (.bool (bigW x)) := by
  refine g_enter (args := [.agg (encW x).toArray]) Try.func92 rfl Try.ntmps92 rfl (e := [(0, _)]) rfl (HS.start w [] [] (by simp)) ?_
  refine g_seq ?_
  refine g_region ?_
  refine g_box rfl rfl (fun b1 hb1 => ?_)
  refine g_val rfl rfl rfl (fun _ _ => v_assign rfl) ?_
  refine g_nil ?_
  refine g_n_then ?_
  refine g_seq ?_
  refine g_region ?_
  refine g_val rfl rfl rfl (fun w _ => v_fieldAddr 0 (Try.runUnderlying68 w) rfl (Try.sizeOf3 w) rfl) ?_
  refine g_val rfl rfl rfl (fun w hh => v_load (Try.isAgg3 w) rfl (hh.cell 0 rfl rfl)) ?_
  refine g_callv rfl rfl rfl rfl rfl rfl rfl (fun a w => Try.call90 a w) (fun w hh => c_in _ _ _ w) ?_
  refine g_val rfl rfl rfl (fun _ _ => v_move rfl) ?_
  refine g_case 6 rfl (fun hg6_1 => ?_) (fun hg6_1 => ?_)
  · have hg6_1 := hg6_1
    refine g_valG rfl rfl rfl rfl rfl (fun w _ => v_fieldAddr 1 (Try.runUnderlying68 w) rfl (Try.sizeOf3 w) rfl) ?_
    refine g_valG rfl rfl rfl rfl rfl (fun w hh => v_load (Try.isAgg3 w) rfl (hh.cell 0 rfl rfl)) ?_
    refine g_callvG rfl rfl rfl rfl rfl rfl rfl rfl rfl (fun a w => Try.call93 a w) (fun w hh => c_hgt _ w) ?_
    refine g_val rfl rfl rfl (fun _ _ => v_pickT rfl rfl) ?_
    refine g_val rfl rfl rfl (fun _ _ => v_assign rfl) ?_
    refine g_nil ?_
    refine g_n_then ?_
    refine g_ret ?_
    refine g_done rfl (fun w hh => (.tmp rfl .nil)) (fun w hh => ⟨?_, hh.toExt⟩)
    simp [retv, bigW, hgt, *]
  · have hg6_1 := hg6_1
    refine g_skipG rfl rfl rfl rfl rfl rfl ?_
    refine g_skipG rfl rfl rfl rfl rfl rfl ?_
    refine g_skipG rfl rfl rfl rfl rfl rfl ?_
    refine g_val rfl rfl rfl (fun _ _ => v_pickF rfl rfl) ?_
    refine g_val rfl rfl rfl (fun _ _ => v_assign rfl) ?_
    refine g_nil ?_
    refine g_n_then ?_
    refine g_ret ?_
    refine g_done rfl (fun w hh => (.tmp rfl .nil)) (fun w hh => ⟨?_, hh.toExt⟩)
    simp [retv, bigW, hgt, *]

set_option maxRecDepth 100000 in
theorem c_Check3 (x : Sill) (w : World) : Ret Try.prog 96 [.agg (encS x).toArray] w (.bool (hgt x.h)) := by
  refine g_enter (args := [.agg (encS x).toArray]) Try.func96 rfl Try.ntmps96 rfl (e := [(0, _)]) rfl (HS.start w [] [] (by simp)) ?_
  refine g_seq ?_
  refine g_region ?_
  refine g_box rfl rfl (fun b1 hb1 => ?_)
  refine g_val rfl rfl rfl (fun _ _ => v_assign rfl) ?_
  refine g_nil ?_
  refine g_n_then ?_
  refine g_seq ?_
  refine g_region ?_
  refine g_val rfl rfl rfl (fun w _ => v_fieldAddr 2 (Try.runUnderlying51 w) rfl (Try.sizeOf3 w) rfl) ?_
  refine g_val rfl rfl rfl (fun w hh => v_load (Try.isAgg3 w) rfl (hh.cell 0 rfl rfl)) ?_
  refine g_callv rfl rfl rfl rfl rfl rfl rfl (fun a w => Try.call93 a w) (fun w hh => c_hgt _ w) ?_
  refine g_val rfl rfl rfl (fun _ _ => v_assign rfl) ?_
  refine g_nil ?_
  refine g_n_then ?_
  refine g_ret ?_
  refine g_done rfl (fun w hh => (.tmp rfl .nil)) (fun w hh => ⟨?_, hh.toExt⟩)
  rfl

set_option maxRecDepth 100000 in
theorem c_Check5 (x : Sill) (w : World) : Ret Try.prog 99 [.agg (encS x).toArray] w (.bool (!decide (x.a = x.b))) := by
  refine g_enter (args := [.agg (encS x).toArray]) Try.func99 rfl Try.ntmps99 rfl (e := [(0, _)]) rfl (HS.start w [] [] (by simp)) ?_
  refine g_seq ?_
  refine g_region ?_
  refine g_box rfl rfl (fun b1 hb1 => ?_)
  refine g_val rfl rfl rfl (fun _ _ => v_assign rfl) ?_
  refine g_nil ?_
  refine g_n_then ?_
  refine g_seq ?_
  refine g_region ?_
  refine g_val rfl rfl rfl (fun w _ => v_fieldAddr 0 (Try.runUnderlying51 w) rfl (Try.sizeOf3 w) rfl) ?_
  refine g_val rfl rfl rfl (fun w hh => v_load (Try.isAgg3 w) rfl (hh.cell 0 rfl rfl)) ?_
  refine g_val rfl rfl rfl (fun w _ => v_fieldAddr 1 (Try.runUnderlying51 w) rfl (Try.sizeOf3 w) rfl) ?_
  refine g_val rfl rfl rfl (fun w hh => v_load (Try.isAgg3 w) rfl (hh.cell 0 rfl rfl)) ?_
  refine g_val rfl rfl rfl (fun _ _ => v_neq rfl rfl) ?_
  refine g_val rfl rfl rfl (fun _ _ => v_assign rfl) ?_
  refine g_nil ?_
  refine g_n_then ?_
  refine g_ret ?_
  refine g_done rfl (fun w hh => (.tmp rfl .nil)) (fun w hh => ⟨?_, hh.toExt⟩)
  rfl

set_option maxRecDepth 100000 in
theorem c_Check1 (p : Int) (bx : Nat) (L : LS) (w : World) (hL : L.OK w) (hb : segOK w (bx, 0, L.cells)) : Ret Try.prog 88 [.int .i64 p, ptr bx 0] w (.bool (isEnd L.S p)) := by
  have hlt := hL.tl
  have hlf := hL.fl
  have hls := hL.sl
  refine g_enter (args := [.int .i64 p, ptr bx 0]) Try.func88 rfl Try.ntmps88 rfl (e := [(0, _), (1, _)]) rfl (HS.start w [] ((bx, 0, L.cells) :: L.segs) (segsC hb hL.segs)) ?_
  refine g_seq ?_
  refine g_region ?_
  refine g_val rfl rfl rfl (fun _ _ => v_assign rfl) ?_
  refine g_nil ?_
  refine g_n_then ?_
  refine g_seq ?_
  refine g_region ?_
  refine g_val rfl rfl rfl (fun _ _ => v_move rfl) ?_
  refine g_val rfl rfl rfl (fun _ _ => v_eql rfl rfl) ?_
  refine g_val rfl rfl rfl (fun _ _ => v_move rfl) ?_
  refine g_case 6 rfl (fun hg6_1 => ?_) (fun hg6_1 => ?_)
  · replace hg6_1 := of_decide_eq_true hg6_1
    refine g_skipG rfl rfl rfl rfl rfl rfl ?_
    refine g_skipG rfl rfl rfl rfl rfl rfl ?_
    refine g_skipG rfl rfl rfl rfl rfl rfl ?_
    refine g_val rfl rfl rfl (fun _ _ => v_pickT rfl rfl) ?_
    refine g_val rfl rfl rfl (fun _ _ => v_assign rfl) ?_
    refine g_nil ?_
    refine g_n_then ?_
    refine g_ret ?_
    refine g_done rfl (fun w hh => (.tmp rfl .nil)) (fun w hh => ⟨?_, hh.toExt⟩)
    simp [retv, isEnd, *]
  · replace hg6_1 := of_decide_eq_false hg6_1
    refine g_valG rfl rfl rfl rfl rfl (fun w hh => v_loadAgg (vs := [_, _, _, _, _]) (Try.isAgg29 w) (Try.sizeOf29 w) rfl (hh.rcells 0 0 rfl rfl)) ?_
    refine g_valG rfl rfl rfl rfl rfl (fun _ _ => v_move rfl) ?_
    refine g_callvG rfl rfl rfl rfl rfl rfl rfl rfl rfl (fun a w => Try.call89 a w) (fun w hh => c_place _ L w (hL.ext hh.toExt)) ?_
    refine g_val rfl rfl rfl (fun _ _ => v_pickF rfl rfl) ?_
    refine g_val rfl rfl rfl (fun _ _ => v_assign rfl) ?_
    refine g_nil ?_
    refine g_n_then ?_
    refine g_ret ?_
    refine g_done rfl (fun w hh => (.tmp rfl .nil)) (fun w hh => ⟨?_, hh.toExt⟩)
    simp [retv, isEnd, *]

set_option maxRecDepth 100000 in
theorem c_Check4 (x : Sill) (bx bo : Nat) (L : LS) (w : World) (hL : L.OK w) (hb : segOK w (bx, 0, L.cells)) (hc : segOK w (bo, 0, [.func (.func 88) #[] #[ptr bx 0]])) : Ret Try.prog 98 [.agg (encS x).toArray, ptr bo 0] w (.bool (isEnd L.S x.a && isEnd L.S x.b)) := by
  have hlt := hL.tl
  have hlf := hL.fl
  have hls := hL.sl
  refine g_enter (args := [.agg (encS x).toArray, ptr bo 0]) Try.func98 rfl Try.ntmps98 rfl (e := [(0, _), (1, _)]) rfl (HS.start w [] ((bo, 0, [.func (.func 88) #[] #[ptr bx 0]]) :: (bx, 0, L.cells) :: L.segs) (segsC hc (segsC hb hL.segs))) ?_
  refine g_seq ?_
  refine g_region ?_
  refine g_box rfl rfl (fun b1 hb1 => ?_)
  refine g_val rfl rfl rfl (fun _ _ => v_assign rfl) ?_
  refine g_nil ?_
  refine g_n_then ?_
  refine g_seq ?_
  refine g_region ?_
  refine g_val rfl rfl rfl (fun w hh => v_load (Try.isAgg129 w) rfl (hh.rcell 0 0 rfl rfl)) ?_
  refine g_val rfl rfl rfl (fun w _ => v_fieldAddr 0 (Try.runUnderlying51 w) rfl (Try.sizeOf3 w) rfl) ?_
  refine g_val rfl rfl rfl (fun w hh => v_load (Try.isAgg3 w) rfl (hh.cell 0 rfl rfl)) ?_
  refine g_callv rfl rfl rfl rfl rfl rfl rfl (fun a w => Try.call88 a w) (fun w hh => c_Check1 _ bx L w (hL.ext hh.toExt) (hh.seg 1 rfl)) ?_
  refine g_val rfl rfl rfl (fun _ _ => v_move rfl) ?_
  refine g_case 8 rfl (fun hg8_1 => ?_) (fun hg8_1 => ?_)
  · have hg8_1 := hg8_1
    refine g_valG rfl rfl rfl rfl rfl (fun w hh => v_load (Try.isAgg129 w) rfl (hh.rcell 0 0 rfl rfl)) ?_
    refine g_valG rfl rfl rfl rfl rfl (fun w _ => v_fieldAddr 1 (Try.runUnderlying51 w) rfl (Try.sizeOf3 w) rfl) ?_
    refine g_valG rfl rfl rfl rfl rfl (fun w hh => v_load (Try.isAgg3 w) rfl (hh.cell 0 rfl rfl)) ?_
    refine g_callvG rfl rfl rfl rfl rfl rfl rfl rfl rfl (fun a w => Try.call88 a w) (fun w hh => c_Check1 _ bx L w (hL.ext hh.toExt) (hh.seg 1 rfl)) ?_
    refine g_val rfl rfl rfl (fun _ _ => v_pickT rfl rfl) ?_
    refine g_val rfl rfl rfl (fun _ _ => v_assign rfl) ?_
    refine g_nil ?_
    refine g_n_then ?_
    refine g_ret ?_
    refine g_done rfl (fun w hh => (.tmp rfl .nil)) (fun w hh => ⟨?_, hh.toExt⟩)
    simp [retv, *]
  · have hg8_1 := hg8_1
    refine g_skipG rfl rfl rfl rfl rfl rfl ?_
    refine g_skipG rfl rfl rfl rfl rfl rfl ?_
    refine g_skipG rfl rfl rfl rfl rfl rfl ?_
    refine g_skipG rfl rfl rfl rfl rfl rfl ?_
    refine g_val rfl rfl rfl (fun _ _ => v_pickF rfl rfl) ?_
    refine g_val rfl rfl rfl (fun _ _ => v_assign rfl) ?_
    refine g_nil ?_
    refine g_n_then ?_
    refine g_ret ?_
    refine g_done rfl (fun w hh => (.tmp rfl .nil)) (fun w hh => ⟨?_, hh.toExt⟩)
    simp [retv, *]

set_option maxRecDepth 100000 in
theorem c_Check (L : LS) (w : World) (hL : L.OK w) : Ret Try.prog 24 [L.val] w (.int .i64 (check L.S)) := by
  have hlt := hL.tl
  have hlf := hL.fl
  have hls := hL.sl
  refine g_enter (args := [L.val]) Try.func24 rfl Try.ntmps24 rfl (e := [(0, _)]) rfl (HS.start w [] L.segs hL.segs) ?_
  refine g_seq ?_
  refine g_region ?_
  refine g_box rfl rfl (fun b1 hb1 => ?_)
  refine g_val rfl rfl rfl (fun _ _ => v_assign rfl) ?_
  refine g_nil ?_
  refine g_n_then ?_
  refine g_seq ?_
  refine g_region ?_
  refine g_val rfl rfl rfl (fun _ _ => v_makeFunc (u := #[]) (u' := #[_]) rfl rfl) ?_
  refine g_alloc (fun w => Try.zeroValue129 w) rfl (fun b2 hb2 => ?_)
  refine g_store1 (own' := (_ :: _)) 0 (fun w => Try.sizeOf129 w) rfl rfl rfl rfl rfl ?_
  refine g_nil ?_
  refine g_n_then ?_
  refine g_seq ?_
  refine g_block ?_
  refine g_seq ?_
  refine g_region ?_
  refine g_val rfl rfl rfl (fun w _ => v_fieldAddr 0 (Try.runUnderlying29 w) rfl (Try.sizeOf23 w) rfl) ?_
  refine g_val rfl rfl rfl (fun w hh => v_load (Try.isAgg23 w) rfl (hh.cell 1 rfl rfl)) ?_
  refine g_val rfl rfl rfl (fun w _ => v_lenS (Try.runUnderlying23 w) rfl) ?_
  refine g_callv rfl rfl rfl rfl rfl rfl rfl (fun a w => Try.call90 a w) (fun w hh => c_in _ _ _ w) ?_
  refine g_val rfl rfl rfl (fun _ _ => v_not rfl) ?_
  refine g_val rfl rfl rfl (fun _ _ => v_move rfl) ?_
  refine g_case 11 rfl (fun h11 => ?_) (fun h11 => ?_)
  · refine g_skipG rfl rfl rfl rfl rfl rfl ?_
    refine g_skipG rfl rfl rfl rfl rfl rfl ?_
    refine g_skipG rfl rfl rfl rfl rfl rfl ?_
    refine g_skipG rfl rfl rfl rfl rfl rfl ?_
    refine g_skipG rfl rfl rfl rfl rfl rfl ?_
    refine g_val rfl rfl rfl (fun _ _ => v_pickT rfl rfl) ?_
    refine g_val rfl rfl rfl (fun _ _ => v_move rfl) ?_
    refine g_skipG rfl rfl rfl rfl rfl rfl ?_
    refine g_skipG rfl rfl rfl rfl rfl rfl ?_
    refine g_skipG rfl rfl rfl rfl rfl rfl ?_
    refine g_skipG rfl rfl rfl rfl rfl rfl ?_
    refine g_val rfl rfl rfl (fun _ _ => v_pickT rfl rfl) ?_
    refine g_val rfl rfl rfl (fun _ _ => v_assign rfl) ?_
    refine g_nil ?_
    refine g_n_then ?_
    refine g_condT rfl rfl ?_
    refine g_seq ?_
    refine g_region ?_
    refine g_val rfl rfl rfl (fun _ _ => v_assign rfl) ?_
    refine g_nil ?_
    refine g_n_then ?_
    refine g_ret ?_
    refine g_r_blk ?_
    refine g_r_then ?_
    refine g_done rfl (fun w hh => (.tmp rfl .nil)) (fun w hh => ⟨?_, hh.toExt⟩)
    simp [retv, check, *]
  · have h2 : 2 ≤ L.S.table.length := by have h := h11; simp [inr] at h; omega
    refine g_valG rfl rfl rfl rfl rfl (fun w _ => v_fieldAddr 3 (Try.runUnderlying29 w) rfl (Try.sizeOf26 w) rfl) ?_
    refine g_valG rfl rfl rfl rfl rfl (fun w hh => v_load (Try.isAgg26 w) rfl (hh.cell 1 rfl rfl)) ?_
    refine g_valG rfl rfl rfl rfl rfl (fun w _ => v_lenS (Try.runUnderlying26 w) rfl) ?_
    refine g_callvG rfl rfl rfl rfl rfl rfl rfl rfl rfl (fun a w => Try.call90 a w) (fun w hh => c_in _ _ _ w) ?_
    refine g_valG rfl rfl rfl rfl rfl (fun _ _ => v_not rfl) ?_
    refine g_val rfl rfl rfl (fun _ _ => v_pickF rfl rfl) ?_
    refine g_val rfl rfl rfl (fun _ _ => v_move rfl) ?_
    refine g_case 18 rfl (fun hg18_2 => ?_) (fun hg18_2 => ?_)
    · replace hg18_2 := of_not_true hg18_2
      refine g_skipG rfl rfl rfl rfl rfl rfl ?_
      refine g_skipG rfl rfl rfl rfl rfl rfl ?_
      refine g_skipG rfl rfl rfl rfl rfl rfl ?_
      refine g_skipG rfl rfl rfl rfl rfl rfl ?_
      refine g_val rfl rfl rfl (fun _ _ => v_pickT rfl rfl) ?_
      refine g_val rfl rfl rfl (fun _ _ => v_assign rfl) ?_
      refine g_nil ?_
      refine g_n_then ?_
      refine g_condT rfl rfl ?_
      refine g_seq ?_
      refine g_region ?_
      refine g_val rfl rfl rfl (fun _ _ => v_assign rfl) ?_
      refine g_nil ?_
      refine g_n_then ?_
      refine g_ret ?_
      refine g_r_blk ?_
      refine g_r_then ?_
      refine g_done rfl (fun w hh => (.tmp rfl .nil)) (fun w hh => ⟨?_, hh.toExt⟩)
      simp [retv, check, *]
    · replace hg18_2 := of_not_false hg18_2
      refine g_valG rfl rfl rfl rfl rfl (fun w _ => v_fieldAddr 4 (Try.runUnderlying29 w) rfl (Try.sizeOf27 w) rfl) ?_
      refine g_valG rfl rfl rfl rfl rfl (fun w hh => v_load (Try.isAgg27 w) rfl (hh.cell 1 rfl rfl)) ?_
      refine g_valG rfl rfl rfl rfl rfl (fun w _ => v_lenS (Try.runUnderlying27 w) rfl) ?_
      refine g_valG rfl rfl rfl rfl rfl (fun _ _ => v_gtr rfl rfl) ?_
      refine g_val rfl rfl rfl (fun _ _ => v_pickF rfl rfl) ?_
      refine g_val rfl rfl rfl (fun _ _ => v_assign rfl) ?_
      refine g_nil ?_
      refine g_n_then ?_
      refine g_cond rfl (fun hc5_3 => ?_) (fun hc5_3 => ?_)
      · replace hc5_3 := of_decide_eq_true hc5_3
        refine g_seq ?_
        refine g_region ?_
        refine g_val rfl rfl rfl (fun _ _ => v_assign rfl) ?_
        refine g_nil ?_
        refine g_n_then ?_
        refine g_ret ?_
        refine g_r_blk ?_
        refine g_r_then ?_
        refine g_done rfl (fun w hh => (.tmp rfl .nil)) (fun w hh => ⟨?_, hh.toExt⟩)
        simp [retv, check, *]
      · replace hc5_3 := of_decide_eq_false hc5_3
        refine g_seq ?_
        refine g_region ?_
        refine g_val rfl rfl rfl (fun w _ => v_fieldAddr 0 (Try.runUnderlying29 w) rfl (Try.sizeOf23 w) rfl) ?_
        refine g_val rfl rfl rfl (fun w hh => v_load (Try.isAgg23 w) rfl (hh.cell 1 rfl rfl)) ?_
        refine g_callv rfl rfl rfl rfl rfl rfl rfl (fun a w => Try.call91 a w) (fun w hh => c_every_Water 92 #[] #[] (bigW) L.S.table L.rt L.ct w (by omega) hL.t0 (hh.seg 0 rfl) (fun a w => Try.call92 a w) (fun w2 hx j hj => c_Check2 _ w2)) ?_
        refine g_val rfl rfl rfl (fun _ _ => v_not rfl) ?_
        refine g_val rfl rfl rfl (fun _ _ => v_assign rfl) ?_
        refine g_nil ?_
        refine g_n_then ?_
        refine g_cond rfl (fun hc24_4 => ?_) (fun hc24_4 => ?_)
        · replace hc24_4 := of_not_true hc24_4
          refine g_seq ?_
          refine g_region ?_
          refine g_val rfl rfl rfl (fun _ _ => v_assign rfl) ?_
          refine g_nil ?_
          refine g_n_then ?_
          refine g_ret ?_
          refine g_r_blk ?_
          refine g_r_then ?_
          refine g_done rfl (fun w hh => (.tmp rfl .nil)) (fun w hh => ⟨?_, hh.toExt⟩)
          simp [retv, check, *]
        · replace hc24_4 := of_not_false hc24_4
          refine g_seq ?_
          refine g_region ?_
          refine g_val rfl rfl rfl (fun w _ => v_fieldAddr 1 (Try.runUnderlying29 w) rfl (Try.sizeOf25 w) rfl) ?_
          refine g_val rfl rfl rfl (fun w _ => v_fieldAddr 0 (Try.runUnderlying25 w) rfl (Try.sizeOf3 w) rfl) ?_
          refine g_val rfl rfl rfl (fun w hh => v_load (Try.isAgg3 w) rfl (hh.cell 1 rfl rfl)) ?_
          refine g_callv rfl rfl rfl rfl rfl rfl rfl (fun a w => Try.call90 a w) (fun w hh => c_in _ _ _ w) ?_
          refine g_val rfl rfl rfl (fun _ _ => v_not rfl) ?_
          refine g_val rfl rfl rfl (fun _ _ => v_move rfl) ?_
          refine g_case 35 rfl (fun hg35_5 => ?_) (fun hg35_5 => ?_)
          · replace hg35_5 := of_not_true hg35_5
            refine g_skipG rfl rfl rfl rfl rfl rfl ?_
            refine g_skipG rfl rfl rfl rfl rfl rfl ?_
            refine g_skipG rfl rfl rfl rfl rfl rfl ?_
            refine g_skipG rfl rfl rfl rfl rfl rfl ?_
            refine g_skipG rfl rfl rfl rfl rfl rfl ?_
            refine g_val rfl rfl rfl (fun _ _ => v_pickT rfl rfl) ?_
            refine g_val rfl rfl rfl (fun _ _ => v_move rfl) ?_
            refine g_skipG rfl rfl rfl rfl rfl rfl ?_
            refine g_skipG rfl rfl rfl rfl rfl rfl ?_
            refine g_skipG rfl rfl rfl rfl rfl rfl ?_
            refine g_skipG rfl rfl rfl rfl rfl rfl ?_
            refine g_val rfl rfl rfl (fun _ _ => v_pickT rfl rfl) ?_
            refine g_val rfl rfl rfl (fun _ _ => v_assign rfl) ?_
            refine g_nil ?_
            refine g_n_then ?_
            refine g_condT rfl rfl ?_
            refine g_seq ?_
            refine g_region ?_
            refine g_val rfl rfl rfl (fun _ _ => v_assign rfl) ?_
            refine g_nil ?_
            refine g_n_then ?_
            refine g_ret ?_
            refine g_r_blk ?_
            refine g_r_then ?_
            refine g_done rfl (fun w hh => (.tmp rfl .nil)) (fun w hh => ⟨?_, hh.toExt⟩)
            simp [retv, check, *]
          · replace hg35_5 := of_not_false hg35_5
            refine g_valG rfl rfl rfl rfl rfl (fun w _ => v_fieldAddr 1 (Try.runUnderlying29 w) rfl (Try.sizeOf25 w) rfl) ?_
            refine g_valG rfl rfl rfl rfl rfl (fun w _ => v_fieldAddr 1 (Try.runUnderlying25 w) rfl (Try.sizeOf3 w) rfl) ?_
            refine g_valG rfl rfl rfl rfl rfl (fun w hh => v_load (Try.isAgg3 w) rfl (hh.cell 1 rfl rfl)) ?_
            refine g_callvG rfl rfl rfl rfl rfl rfl rfl rfl rfl (fun a w => Try.call90 a w) (fun w hh => c_in _ _ _ w) ?_
            refine g_valG rfl rfl rfl rfl rfl (fun _ _ => v_not rfl) ?_
            refine g_val rfl rfl rfl (fun _ _ => v_pickF rfl rfl) ?_
            refine g_val rfl rfl rfl (fun _ _ => v_move rfl) ?_
            refine g_case 42 rfl (fun hg42_6 => ?_) (fun hg42_6 => ?_)
            · replace hg42_6 := of_not_true hg42_6
              refine g_skipG rfl rfl rfl rfl rfl rfl ?_
              refine g_skipG rfl rfl rfl rfl rfl rfl ?_
              refine g_skipG rfl rfl rfl rfl rfl rfl ?_
              refine g_skipG rfl rfl rfl rfl rfl rfl ?_
              refine g_val rfl rfl rfl (fun _ _ => v_pickT rfl rfl) ?_
              refine g_val rfl rfl rfl (fun _ _ => v_assign rfl) ?_
              refine g_nil ?_
              refine g_n_then ?_
              refine g_condT rfl rfl ?_
              refine g_seq ?_
              refine g_region ?_
              refine g_val rfl rfl rfl (fun _ _ => v_assign rfl) ?_
              refine g_nil ?_
              refine g_n_then ?_
              refine g_ret ?_
              refine g_r_blk ?_
              refine g_r_then ?_
              refine g_done rfl (fun w hh => (.tmp rfl .nil)) (fun w hh => ⟨?_, hh.toExt⟩)
              simp [retv, check, *]
            · replace hg42_6 := of_not_false hg42_6
              refine g_valG rfl rfl rfl rfl rfl (fun w _ => v_fieldAddr 3 (Try.runUnderlying29 w) rfl (Try.sizeOf26 w) rfl) ?_
              refine g_valG rfl rfl rfl rfl rfl (fun w hh => v_load (Try.isAgg26 w) rfl (hh.cell 1 rfl rfl)) ?_
              refine g_callvG rfl rfl rfl rfl rfl rfl rfl rfl rfl (fun a w => Try.call94 a w) (fun w hh => c_every_int 93 #[] #[] (hgt) L.S.floors L.rf L.cf w (by omega) hL.f0 (hh.seg 1 rfl) (fun a w => Try.call93 a w) (fun w2 hx j hj => c_hgt _ w2)) ?_
              refine g_valG rfl rfl rfl rfl rfl (fun _ _ => v_not rfl) ?_
              refine g_val rfl rfl rfl (fun _ _ => v_pickF rfl rfl) ?_
              refine g_val rfl rfl rfl (fun _ _ => v_assign rfl) ?_
              refine g_nil ?_
              refine g_n_then ?_
              refine g_cond rfl (fun hc29_7 => ?_) (fun hc29_7 => ?_)
              · replace hc29_7 := of_not_true hc29_7
                refine g_seq ?_
                refine g_region ?_
                refine g_val rfl rfl rfl (fun _ _ => v_assign rfl) ?_
                refine g_nil ?_
                refine g_n_then ?_
                refine g_ret ?_
                refine g_r_blk ?_
                refine g_r_then ?_
                refine g_done rfl (fun w hh => (.tmp rfl .nil)) (fun w hh => ⟨?_, hh.toExt⟩)
                simp [retv, check, *]
              · replace hc29_7 := of_not_false hc29_7
                refine g_seq ?_
                refine g_region ?_
                refine g_val rfl rfl rfl (fun w _ => v_fieldAddr 4 (Try.runUnderlying29 w) rfl (Try.sizeOf27 w) rfl) ?_
                refine g_val rfl rfl rfl (fun w hh => v_load (Try.isAgg27 w) rfl (hh.cell 1 rfl rfl)) ?_
                refine g_callv rfl rfl rfl rfl rfl rfl rfl (fun a w => Try.call95 a w) (fun w hh => c_every_Sill 96 #[] #[] (fun x => hgt x.h) L.S.sills L.rs L.cs w (by omega) hL.s0 (hh.seg 2 rfl) (fun a w => Try.call96 a w) (fun w2 hx j hj => c_Check3 _ w2)) ?_
                refine g_val rfl rfl rfl (fun _ _ => v_not rfl) ?_
                refine g_val rfl rfl rfl (fun _ _ => v_assign rfl) ?_
                refine g_nil ?_
                refine g_n_then ?_
                refine g_cond rfl (fun hc48_8 => ?_) (fun hc48_8 => ?_)
                · replace hc48_8 := of_not_true hc48_8
                  refine g_seq ?_
                  refine g_region ?_
                  refine g_val rfl rfl rfl (fun _ _ => v_assign rfl) ?_
                  refine g_nil ?_
                  refine g_n_then ?_
                  refine g_ret ?_
                  refine g_r_blk ?_
                  refine g_r_then ?_
                  refine g_done rfl (fun w hh => (.tmp rfl .nil)) (fun w hh => ⟨?_, hh.toExt⟩)
                  simp [retv, check, *]
                · replace hc48_8 := of_not_false hc48_8
                  refine g_seq ?_
                  refine g_region ?_
                  refine g_val rfl rfl rfl (fun w hh => v_loadAgg (vs := [_, _, _, _, _]) (Try.isAgg29 w) (Try.sizeOf29 w) rfl (hh.cells 1 rfl rfl)) ?_
                  refine g_callv rfl rfl rfl rfl rfl rfl rfl (fun a w => Try.call97 a w) (fun w hh => c_ordered L w (hL.ext hh.toExt) (by omega)) ?_
                  refine g_val rfl rfl rfl (fun _ _ => v_not rfl) ?_
                  refine g_val rfl rfl rfl (fun _ _ => v_assign rfl) ?_
                  refine g_nil ?_
                  refine g_n_then ?_
                  refine g_cond rfl (fun hc53_9 => ?_) (fun hc53_9 => ?_)
                  · replace hc53_9 := of_not_true hc53_9
                    refine g_seq ?_
                    refine g_region ?_
                    refine g_val rfl rfl rfl (fun _ _ => v_assign rfl) ?_
                    refine g_nil ?_
                    refine g_n_then ?_
                    refine g_ret ?_
                    refine g_r_blk ?_
                    refine g_r_then ?_
                    refine g_done rfl (fun w hh => (.tmp rfl .nil)) (fun w hh => ⟨?_, hh.toExt⟩)
                    simp [retv, check, *]
                  · replace hc53_9 := of_not_false hc53_9
                    refine g_seq ?_
                    refine g_region ?_
                    refine g_val rfl rfl rfl (fun w _ => v_fieldAddr 4 (Try.runUnderlying29 w) rfl (Try.sizeOf27 w) rfl) ?_
                    refine g_val rfl rfl rfl (fun w hh => v_load (Try.isAgg27 w) rfl (hh.cell 1 rfl rfl)) ?_
                    refine g_val rfl rfl rfl (fun _ _ => v_makeFunc (u := #[]) (u' := #[_]) rfl rfl) ?_
                    refine g_callv rfl rfl rfl rfl rfl rfl rfl (fun a w => Try.call95 a w) (fun w hh => c_every_Sill 98 #[] #[ptr b2 0] (fun x => isEnd L.S x.a && isEnd L.S x.b) L.S.sills L.rs L.cs w (by omega) hL.s0 (hh.seg 2 rfl) (fun a w => Try.call98 a w) (fun w2 hx j hj => c_Check4 _ b1 b2 L w2 ((hL.ext hh.toExt).ext hx) ((hh.ownSeg 1 rfl).ext hx (by simp)) ((hh.ownSeg 0 rfl).ext hx (by simp)))) ?_
                    refine g_val rfl rfl rfl (fun _ _ => v_not rfl) ?_
                    refine g_val rfl rfl rfl (fun _ _ => v_assign rfl) ?_
                    refine g_nil ?_
                    refine g_n_then ?_
                    refine g_cond rfl (fun hc57_10 => ?_) (fun hc57_10 => ?_)
                    · replace hc57_10 := of_not_true hc57_10
                      refine g_seq ?_
                      refine g_region ?_
                      refine g_val rfl rfl rfl (fun _ _ => v_assign rfl) ?_
                      refine g_nil ?_
                      refine g_n_then ?_
                      refine g_ret ?_
                      refine g_r_blk ?_
                      refine g_r_then ?_
                      refine g_done rfl (fun w hh => (.tmp rfl .nil)) (fun w hh => ⟨?_, hh.toExt⟩)
                      simp [retv, check, *]
                    · replace hc57_10 := of_not_false hc57_10
                      refine g_seq ?_
                      refine g_region ?_
                      refine g_val rfl rfl rfl (fun w _ => v_fieldAddr 4 (Try.runUnderlying29 w) rfl (Try.sizeOf27 w) rfl) ?_
                      refine g_val rfl rfl rfl (fun w hh => v_load (Try.isAgg27 w) rfl (hh.cell 1 rfl rfl)) ?_
                      refine g_callv rfl rfl rfl rfl rfl rfl rfl (fun a w => Try.call95 a w) (fun w hh => c_every_Sill 99 #[] #[] (fun x => !decide (x.a = x.b)) L.S.sills L.rs L.cs w (by omega) hL.s0 (hh.seg 2 rfl) (fun a w => Try.call99 a w) (fun w2 hx j hj => c_Check5 _ w2)) ?_
                      refine g_val rfl rfl rfl (fun _ _ => v_not rfl) ?_
                      refine g_val rfl rfl rfl (fun _ _ => v_assign rfl) ?_
                      refine g_nil ?_
                      refine g_n_then ?_
                      refine g_cond rfl (fun hc63_11 => ?_) (fun hc63_11 => ?_)
                      · replace hc63_11 := of_not_true hc63_11
                        refine g_seq ?_
                        refine g_region ?_
                        refine g_val rfl rfl rfl (fun _ _ => v_assign rfl) ?_
                        refine g_nil ?_
                        refine g_n_then ?_
                        refine g_ret ?_
                        refine g_r_blk ?_
                        refine g_r_then ?_
                        refine g_done rfl (fun w hh => (.tmp rfl .nil)) (fun w hh => ⟨?_, hh.toExt⟩)
                        simp [retv, check, *]
                      · replace hc63_11 := of_not_false hc63_11
                        refine g_skip ?_
                        refine g_n_blk ?_
                        refine g_n_then ?_
                        refine g_seq ?_
                        refine g_region ?_
                        refine g_val rfl rfl rfl (fun _ _ => v_assign rfl) ?_
                        refine g_nil ?_
                        refine g_n_then ?_
                        refine g_ret ?_
                        refine g_done rfl (fun w hh => (.tmp rfl .nil)) (fun w hh => ⟨?_, hh.toExt⟩)
                        simp [retv, check, *]

end Go.Proofs

namespace Go.Proofs
open Go Go.Fw Go.Pl
set_option maxRecDepth 100000 in
theorem c_from (bd : Nat) (p : Int) (w : World) : Calls Try.prog 160 #[ptr bd 0, .int .i64 p] w (fun en w' => ∃ b2 b3 : Nat, en = .returned (.func (.func 166) #[] #[ptr b2 0, ptr b3 0]) ∧ Fresh w w' [(b3, .cells #[.int .i64 p] 3 (0, 0)), (b2, .cells #[ptr bd 0] 139 (0, 0))]) := by
  refine g_enter (args := [ptr bd 0, .int .i64 p]) Try.func160 rfl Try.ntmps160 rfl (e := [(0, _), (1, _)]) rfl (HS.start w [] [] segsN) ?_
  refine g_seq ?_
  refine g_region ?_
  refine g_box rfl rfl (fun b1 hb1 => ?_)
  refine g_box rfl rfl (fun b2 hb2 => ?_)
  refine g_val rfl rfl rfl (fun _ _ => v_assign rfl) ?_
  refine g_nil ?_
  refine g_n_then ?_
  refine g_seq ?_
  refine g_region ?_
  refine g_val rfl rfl rfl (fun _ _ => v_makeFunc (u := #[]) (u' := #[_, _]) rfl rfl) ?_
  refine g_val rfl rfl rfl (fun _ _ => v_assign rfl) ?_
  refine g_nil ?_
  refine g_n_then ?_
  refine g_ret ?_
  refine g_done rfl (fun w hh => (.tmp rfl .nil)) (fun w hh => ⟨_, _, rfl, hh.toFresh⟩)

set_option maxRecDepth 100000 in
theorem c_from1 {γ : Type} (w0 : World) (M : List Nat) (ro : List Sg) (Y : γ → List (Nat × Obj)) (St : Nat → γ → Prop) (l bd b2 b3 : Nat) (p : Int) (L : LS) (hL : L.OK w0) (i0 : Nat) (hro : ro[i0]? = some (bk L.rs, off L.rs, flat encS L.S.sills))
    (hab : ∀ j, j < L.S.sills.length → (L.S.sills.getD j default).a ≠ (L.S.sills.getD j default).b)
    (hdesk : ∀ g X w, St 0 g → HS w0 M (Y g ++ X) ro w → w.cell? ⟨bd, 4, none⟩ = some (slv L.rs L.S.sills.length L.cs))
    (hskip : ∀ j g, j < L.S.sills.length → St j g → (L.S.sills.getD j default).a ≠ p → (L.S.sills.getD j default).b ≠ p → St (j + 1) g)
    (hyA : ∀ j g X w, j < L.S.sills.length → St j g → (L.S.sills.getD j default).a = p → HS w0 M (Y g ++ X) ro w → YieldOK Try.prog l [.int .i64 (j : Nat), .int .i64 (L.S.sills.getD j default).b] w (fun en w' => en = .returned (.bool true) ∧ ∃ g', St (j + 1) g' ∧ HS w0 M (Y g' ++ X) ro w'))
    (hyB : ∀ j g X w, j < L.S.sills.length → St j g → (L.S.sills.getD j default).b = p → HS w0 M (Y g ++ X) ro w → YieldOK Try.prog l [.int .i64 (j : Nat), .int .i64 (L.S.sills.getD j default).a] w (fun en w' => en = .returned (.bool true) ∧ ∃ g', St (j + 1) g' ∧ HS w0 M (Y g' ++ X) ro w'))
    (g0 : γ) (h0 : St 0 g0) (w : World) (X0 : List (Nat × Obj)) (hh : HS w0 M ((b3, .cells #[.int .i64 p] 3 (0, 0)) :: (b2, .cells #[ptr bd 0] 139 (0, 0)) :: (Y g0 ++ X0)) ro w) : Calls Try.prog 166 #[.func (.yield l) #[] #[], ptr b2 0, ptr b3 0] w (fun en w' => ∃ v, en = .returned v ∧ ∃ g, St L.S.sills.length g ∧ HS w0 M ((b3, .cells #[.int .i64 p] 3 (0, 0)) :: (b2, .cells #[ptr bd 0] 139 (0, 0)) :: (Y g ++ X0)) ro w') := by
  have hlt := hL.tl
  have hlf := hL.fl
  have hls := hL.sl
  refine g_enter (args := [.func (.yield l) #[] #[], ptr b2 0, ptr b3 0]) Try.func166 rfl Try.ntmps166 rfl (e := [(0, _), (1, _), (2, _)]) rfl (hh) ?_
  refine g_seq ?_
  refine g_region ?_
  refine g_val rfl rfl rfl (fun w hh => v_load (Try.isAgg139 w) rfl (hh.cell 1 rfl rfl)) ?_
  refine g_val rfl rfl rfl (fun _ _ => v_nilCheck rfl) ?_
  refine g_val rfl rfl rfl (fun w _ => v_fieldAddr 0 (Try.runUnderlying157 w) rfl (Try.sizeOf29 w) rfl) ?_
  refine g_val rfl rfl rfl (fun w _ => v_fieldAddr 4 (Try.runUnderlying29 w) rfl (Try.sizeOf27 w) rfl) ?_
  -- the desk's sills
  refine g_val rfl rfl rfl (fun w hh => v_load (Try.isAgg27 w) rfl (hdesk g0 X0 w h0 (hh.dropN 2 rfl))) ?_
  refine g_val rfl rfl rfl (fun w _ => v_lenS (Try.runUnderlying27 w) rfl) ?_
  refine g_val rfl rfl rfl (fun _ _ => v_move rfl) ?_
  refine g_nil ?_
  refine g_n_then ?_
  refine g_block ?_
  refine g_sub (e' := [(12, _), (0, _), (2, _), (10, _), (11, _)]) ((.cons rfl (.cons rfl (.cons rfl (.cons rfl (.cons rfl .nil)))))) ?_
  refine g_loopM (ι := Nat × γ) (fun (k, g) => [(12, .int .i64 (k : Nat))]) (fun (k, g) => ((b3, .cells #[.int .i64 p] 3 (0, 0)) :: (b2, .cells #[ptr bd 0] 139 (0, 0)) :: Y g)) (fun (k, g) => k ≤ L.S.sills.length ∧ St k g) (fun (k, g) => L.S.sills.length - k) (0, g0) (⟨Nat.zero_le _, h0⟩) ?_
  intro ⟨k, g⟩ hI0
  simp only at hI0
  refine g_seq ?_
  refine g_region ?_
  refine g_val rfl rfl rfl (fun _ _ => v_lss rfl rfl) ?_
  refine g_nil ?_
  refine g_n_then ?_
  refine g_seq ?_
  refine g_cond rfl (fun hc13_1 => ?_) (fun hc13_1 => ?_)
  · replace hc13_1 := of_decide_eq_true hc13_1
    refine g_skip ?_
    refine g_n_then ?_
    refine g_seq ?_
    refine g_block ?_
    refine g_seq ?_
    refine g_region ?_
    refine g_val rfl rfl rfl (fun _ _ => v_move rfl) ?_
    refine g_val rfl rfl rfl (fun w _ => v_indexAddr k (Try.runUnderlying27 w) (Try.sizeOf51 w) rfl rfl rfl (by omega) (hL.s0 (by omega))) ?_
    refine g_val rfl rfl rfl (fun w hh => v_loadAgg (vs := encS _) (Try.isAgg51 w) (Try.sizeOf51 w) rfl (hh.elem encS_len i0 hro (by omega))) ?_
    refine g_alloc (fun w => Try.zeroValue51 w) rfl (fun b1 hb1 => ?_)
    refine g_val rfl rfl rfl (fun _ _ => v_assign rfl) ?_
    refine g_storeAgg (vs := #[_, _, _]) (own' := (_ :: _)) 0 (fun w => Try.sizeOf51 w) rfl rfl rfl rfl rfl rfl ?_
    refine g_nil ?_
    refine g_n_then ?_
    refine g_seq ?_
    refine g_region ?_
    refine g_val rfl rfl rfl (fun w _ => v_fieldAddr 0 (Try.runUnderlying51 w) rfl (Try.sizeOf3 w) rfl) ?_
    refine g_val rfl rfl rfl (fun w hh => v_load (Try.isAgg3 w) rfl (hh.cell 0 rfl rfl)) ?_
    refine g_val rfl rfl rfl (fun w hh => v_load (Try.isAgg3 w) rfl (hh.cell 1 rfl rfl)) ?_
    refine g_val rfl rfl rfl (fun _ _ => v_eql rfl rfl) ?_
    refine g_val rfl rfl rfl (fun _ _ => v_move rfl) ?_
    refine g_case 21 rfl (fun hA => ?_) (fun hA => ?_)
    · refine g_valG rfl rfl rfl rfl rfl (fun _ _ => v_move rfl) ?_
      refine g_valG rfl rfl rfl rfl rfl (fun _ _ => v_move rfl) ?_
      refine g_valG rfl rfl rfl rfl rfl (fun w _ => v_fieldAddr 1 (Try.runUnderlying51 w) rfl (Try.sizeOf3 w) rfl) ?_
      refine g_valG rfl rfl rfl rfl rfl (fun w hh => v_load (Try.isAgg3 w) rfl (hh.cell 0 rfl rfl)) ?_
      refine g_yieldG (ι := γ) (ret := fun _ => .bool true) (H' := fun g' w' => St (k + 1) g' ∧ HS w0 M ((b1, .cells #[.int .i64 (L.S.sills.getD k default).a, .int .i64 (L.S.sills.getD k default).b, .int .i64 (L.S.sills.getD k default).h] 51 (0, 0)) :: (b3, .cells #[.int .i64 p] 3 (0, 0)) :: (b2, .cells #[ptr bd 0] 139 (0, 0)) :: (Y g' ++ X0)) ro w') rfl rfl (fun a he => by rw [wanted_some he rfl rfl rfl]; rfl) rfl rfl rfl (fun w hh => ?_) ?_
      · have hh1 := hh.swap (A := [_, _, _]) (B := Y g) (C := X0)
        refine (hyA k g _ w (by omega) hI0.2 (of_decide_eq_true hA) hh1).mono ?_
        rintro en w' ⟨rfl, g', hs', hh'⟩
        exact ⟨g', rfl, hs', hh'.swap (A := Y g') (B := [_, _, _]) (C := X0)⟩
      intro g2
      refine g_pure (fun w hh => hh.1) (fun hsg2 => ?_)
      refine G.pre ?_ (fun w hh => hh.2)
      refine g_valG rfl rfl rfl rfl rfl (fun _ _ => v_not rfl) ?_
      refine g_val rfl rfl rfl (fun _ _ => v_pickT rfl rfl) ?_
      refine g_val rfl rfl rfl (fun _ _ => v_move rfl) ?_
      refine g_valG rfl rfl rfl rfl rfl (fun w _ => v_fieldAddr 1 (Try.runUnderlying51 w) rfl (Try.sizeOf3 w) rfl) ?_
      refine g_valG rfl rfl rfl rfl rfl (fun w hh => v_load (Try.isAgg3 w) rfl (hh.cell 0 rfl rfl)) ?_
      refine g_valG rfl rfl rfl rfl rfl (fun w hh => v_load (Try.isAgg3 w) rfl (hh.cell 1 rfl rfl)) ?_
      refine g_valG rfl rfl rfl rfl rfl (fun _ _ => v_eql rfl rfl) ?_
      refine g_valG rfl rfl rfl rfl rfl (fun _ _ => v_move rfl) ?_
      refine g_set 34 (u := .bool false) rfl (congrArg Value.bool (decide_eq_false (fun hb => hab k (by omega) ((of_decide_eq_true hA).trans hb.symm)))) ?_
      refine g_skipG rfl rfl rfl rfl rfl rfl ?_
      refine g_skipG rfl rfl rfl rfl rfl rfl ?_
      refine g_skipG rfl rfl rfl rfl rfl rfl ?_
      refine g_skipG rfl rfl rfl rfl rfl rfl ?_
      refine g_skipG rfl rfl rfl rfl rfl rfl ?_
      refine g_skipG rfl rfl rfl rfl rfl rfl ?_
      refine g_valG rfl rfl rfl rfl rfl (fun _ _ => v_pickF rfl rfl) ?_
      refine g_val rfl rfl rfl (fun _ _ => v_pickF rfl rfl) ?_
      refine g_nil ?_
      refine g_n_then ?_
      refine g_condF rfl rfl ?_
      refine g_skip ?_
      refine g_n_blk ?_
      refine g_n_then ?_
      refine g_region ?_
      refine g_val rfl rfl rfl (fun _ _ => v_add rfl rfl (wrap_i64 (by omega))) ?_
      refine g_val rfl rfl rfl (fun _ _ => v_move rfl) ?_
      refine g_nil ?_
      refine g_n_then ?_
      exact g_againD (i := ⟨k, g⟩) (k + 1, g2) 1 ((.cons rfl (.cons rfl (.cons rfl (.cons rfl (.cons rfl .nil)))))) rfl (⟨by omega, hsg2⟩) (by simp only; omega)
    · refine g_skipG rfl rfl rfl rfl rfl rfl ?_
      refine g_skipG rfl rfl rfl rfl rfl rfl ?_
      refine g_skipG rfl rfl rfl rfl rfl rfl ?_
      refine g_skipG rfl rfl rfl rfl rfl rfl ?_
      refine g_skipG rfl rfl rfl rfl rfl rfl ?_
      refine g_skipG rfl rfl rfl rfl rfl rfl ?_
      refine g_val rfl rfl rfl (fun _ _ => v_pickF rfl rfl) ?_
      refine g_val rfl rfl rfl (fun _ _ => v_move rfl) ?_
      refine g_valG rfl rfl rfl rfl rfl (fun w _ => v_fieldAddr 1 (Try.runUnderlying51 w) rfl (Try.sizeOf3 w) rfl) ?_
      refine g_valG rfl rfl rfl rfl rfl (fun w hh => v_load (Try.isAgg3 w) rfl (hh.cell 0 rfl rfl)) ?_
      refine g_valG rfl rfl rfl rfl rfl (fun w hh => v_load (Try.isAgg3 w) rfl (hh.cell 1 rfl rfl)) ?_
      refine g_valG rfl rfl rfl rfl rfl (fun _ _ => v_eql rfl rfl) ?_
      refine g_valG rfl rfl rfl rfl rfl (fun _ _ => v_move rfl) ?_
      refine g_case 34 rfl (fun hB => ?_) (fun hB => ?_)
      · refine g_valG rfl rfl rfl rfl rfl (fun _ _ => v_move rfl) ?_
        refine g_valG rfl rfl rfl rfl rfl (fun _ _ => v_move rfl) ?_
        refine g_valG rfl rfl rfl rfl rfl (fun w _ => v_fieldAddr 0 (Try.runUnderlying51 w) rfl (Try.sizeOf3 w) rfl) ?_
        refine g_valG rfl rfl rfl rfl rfl (fun w hh => v_load (Try.isAgg3 w) rfl (hh.cell 0 rfl rfl)) ?_
        refine g_yieldG (ι := γ) (ret := fun _ => .bool true) (H' := fun g' w' => St (k + 1) g' ∧ HS w0 M ((b1, .cells #[.int .i64 (L.S.sills.getD k default).a, .int .i64 (L.S.sills.getD k default).b, .int .i64 (L.S.sills.getD k default).h] 51 (0, 0)) :: (b3, .cells #[.int .i64 p] 3 (0, 0)) :: (b2, .cells #[ptr bd 0] 139 (0, 0)) :: (Y g' ++ X0)) ro w') rfl rfl (fun a he => by rw [wanted_some he rfl rfl rfl]; rfl) rfl rfl rfl (fun w hh => ?_) ?_
        · have hh1 := hh.swap (A := [_, _, _]) (B := Y g) (C := X0)
          refine (hyB k g _ w (by omega) hI0.2 (of_decide_eq_true hB) hh1).mono ?_
          rintro en w' ⟨rfl, g', hs', hh'⟩
          exact ⟨g', rfl, hs', hh'.swap (A := Y g') (B := [_, _, _]) (C := X0)⟩
        intro g3
        refine g_pure (fun w hh => hh.1) (fun hsg3 => ?_)
        refine G.pre ?_ (fun w hh => hh.2)
        refine g_valG rfl rfl rfl rfl rfl (fun _ _ => v_not rfl) ?_
        refine g_valG rfl rfl rfl rfl rfl (fun _ _ => v_pickT rfl rfl) ?_
        refine g_val rfl rfl rfl (fun _ _ => v_pickF rfl rfl) ?_
        refine g_nil ?_
        refine g_n_then ?_
        refine g_condF rfl rfl ?_
        refine g_skip ?_
        refine g_n_blk ?_
        refine g_n_then ?_
        refine g_region ?_
        refine g_val rfl rfl rfl (fun _ _ => v_add rfl rfl (wrap_i64 (by omega))) ?_
        refine g_val rfl rfl rfl (fun _ _ => v_move rfl) ?_
        refine g_nil ?_
        refine g_n_then ?_
        exact g_againD (i := ⟨k, g⟩) (k + 1, g3) 1 ((.cons rfl (.cons rfl (.cons rfl (.cons rfl (.cons rfl .nil)))))) rfl (⟨by omega, hsg3⟩) (by simp only; omega)
      · refine g_skipG rfl rfl rfl rfl rfl rfl ?_
        refine g_skipG rfl rfl rfl rfl rfl rfl ?_
        refine g_skipG rfl rfl rfl rfl rfl rfl ?_
        refine g_skipG rfl rfl rfl rfl rfl rfl ?_
        refine g_skipG rfl rfl rfl rfl rfl rfl ?_
        refine g_skipG rfl rfl rfl rfl rfl rfl ?_
        refine g_valG rfl rfl rfl rfl rfl (fun _ _ => v_pickF rfl rfl) ?_
        refine g_val rfl rfl rfl (fun _ _ => v_pickF rfl rfl) ?_
        refine g_nil ?_
        refine g_n_then ?_
        refine g_condF rfl rfl ?_
        refine g_skip ?_
        refine g_n_blk ?_
        refine g_n_then ?_
        refine g_region ?_
        refine g_val rfl rfl rfl (fun _ _ => v_add rfl rfl (wrap_i64 (by omega))) ?_
        refine g_val rfl rfl rfl (fun _ _ => v_move rfl) ?_
        refine g_nil ?_
        refine g_n_then ?_
        exact g_againD (i := ⟨k, g⟩) (k + 1, g) 1 ((.cons rfl (.cons rfl (.cons rfl (.cons rfl (.cons rfl .nil)))))) rfl (⟨by omega, hskip k g (by omega) hI0.2 (of_decide_eq_false hA) (of_decide_eq_false hB)⟩) (by simp only; omega)
  · replace hc13_1 := of_decide_eq_false hc13_1
    refine g_exit ?_
    refine g_x_then ?_
    refine g_x_then ?_
    refine g_x_blk ?_
    have ek : k = L.S.sills.length := by omega
    subst ek
    refine g_doneN rfl (fun w hh => .nil) (fun w hh => ⟨_, rfl, g, hI0.2, hh⟩)

end Go.Proofs

-- plain: gates
namespace Go.Pl
theorem take_foldl {α β : Type} {d : α} {f : β → α → β} {l : List α} {n : β} {k : Nat} (h : k < l.length) : (l.take (k + 1)).foldl f n = f ((l.take k).foldl f n) (l.getD k d) := by
  rw [List.take_succ_eq_append_getElem h, List.foldl_append]
  simp [List.getD_eq_getElem?_getD, h]
def lowAt (s : Sands) (at_ h : Int) (g : List Int) (q : Int) : List Int :=
  if q = -1 then g else g.set q.toNat (min (g.getD q.toNat 0) (([h, s.floors.getD q.toNat 0] : List Int).foldl max at_))
def lowStep (s : Sands) (p at_ : Int) (g : List Int) (x : Sill) : List Int :=
  if x.a = p then lowAt s at_ x.h g x.b else if x.b = p then lowAt s at_ x.h g x.a else g
def lowN (s : Sands) (p at_ : Int) (g : List Int) (k : Nat) : List Int := (s.sills.take k).foldl (lowStep s p at_) g
def lowerF (s : Sands) (p at_ : Int) (g : List Int) : List Int := s.sills.foldl (lowStep s p at_) g
theorem lowN_zero {s : Sands} {p at_ : Int} {g : List Int} : lowN s p at_ g 0 = g := rfl
theorem lowN_succ {s : Sands} {p at_ : Int} {g : List Int} {k : Nat} (h : k < s.sills.length) : lowN s p at_ g (k + 1) = lowStep s p at_ (lowN s p at_ g k) (s.sills.getD k default) := take_foldl h
theorem lowN_all {s : Sands} {p at_ : Int} {g : List Int} : lowN s p at_ g s.sills.length = lowerF s p at_ g := by simp [lowN, lowerF]
theorem lowAt_length {s : Sands} {at_ h : Int} {g : List Int} {q : Int} : (lowAt s at_ h g q).length = g.length := by unfold lowAt; split <;> simp
theorem lowStep_length {s : Sands} {p at_ : Int} {g : List Int} {x : Sill} : (lowStep s p at_ g x).length = g.length := by
  unfold lowStep; split
  · exact lowAt_length
  · split
    · exact lowAt_length
    · rfl
theorem lowN_length {s : Sands} {p at_ : Int} {g : List Int} : ∀ {k : Nat}, (lowN s p at_ g k).length = g.length := by
  intro k
  unfold lowN
  generalize s.sills.take k = l
  induction l generalizing g with
  | nil => rfl
  | cons x l ih => simp only [List.foldl_cons]; rw [ih, lowStep_length]
/-- sands that pass -/
structure Good (s : Sands) : Prop where
  tl : 2 ≤ s.table.length ∧ s.table.length ≤ 12
  fl : 1 ≤ s.floors.length ∧ s.floors.length ≤ 8
  sl : s.sills.length ≤ 16
  tab : ∀ j, j < s.table.length → (0 ≤ (s.table.getD j default).min ∧ (s.table.getD j default).min ≤ 1440) ∧ 0 ≤ (s.table.getD j default).h ∧ (s.table.getD j default).h ≤ 999
  lo : -50 ≤ s.wind.lo ∧ s.wind.lo ≤ 50
  hi : -50 ≤ s.wind.hi ∧ s.wind.hi ≤ 50
  flo : ∀ j, j < s.floors.length → 0 ≤ s.floors.getD j 0 ∧ s.floors.getD j 0 ≤ 999
  sh : ∀ j, j < s.sills.length → 0 ≤ (s.sills.getD j default).h ∧ (s.sills.getD j default).h ≤ 999
  inc : ∀ i, i < s.table.length - 1 → (s.table.getD i default).min < (s.table.getD (i + 1) default).min
  wind : s.wind.lo ≤ s.wind.hi
  sa : ∀ j, j < s.sills.length → -1 ≤ (s.sills.getD j default).a ∧ (s.sills.getD j default).a < s.floors.length
  sb : ∀ j, j < s.sills.length → -1 ≤ (s.sills.getD j default).b ∧ (s.sills.getD j default).b < s.floors.length
  ne : ∀ j, j < s.sills.length → (s.sills.getD j default).a ≠ (s.sills.getD j default).b
theorem all_getD {α : Type} {p : α → Bool} {l : List α} {d : α} (h : l.all p = true) {j : Nat} (hj : j < l.length) : p (l.getD j d) = true := by
  rw [List.all_eq_true] at h
  have := h l[j] (List.getElem_mem hj)
  simpa [List.getD_eq_getElem?_getD, hj] using this
theorem all_of_getD {α : Type} {p : α → Bool} {l : List α} {d : α} (h : ∀ j, j < l.length → p (l.getD j d) = true) : l.all p = true := by
  rw [List.all_eq_true]
  intro x hx
  obtain ⟨j, hj, rfl⟩ := List.mem_iff_getElem.1 hx
  simpa [List.getD_eq_getElem?_getD, hj] using h j hj
theorem inr_iff {x lo hi : Int} : inr x lo hi = true ↔ lo ≤ x ∧ x ≤ hi := by simp [inr]
theorem hgt_iff {x : Int} : hgt x = true ↔ 0 ≤ x ∧ x ≤ 999 := by simp [hgt, inr]
theorem isEnd_iff {s : Sands} {p : Int} : isEnd s p = true ↔ (p = -1 ∨ 0 ≤ p ∧ p < s.floors.length) := by
  simp [isEnd, isPlace, inr]; omega
theorem good_of_check {s : Sands} (h : check s = 0) : Good s := by
  unfold check at h
  repeat' (split at h; (exact absurd h (by decide)))
  rename_i h1 h2 h3 h4 h5 h6 h7
  simp only [Bool.or_eq_true, not_or, Bool.not_eq_true', Bool.not_eq_false', Bool.not_eq_true, Bool.not_eq_false, decide_eq_true_eq, decide_eq_false_iff_not] at h1 h2 h3 h4 h5 h6 h7
  obtain ⟨⟨h1a, h1b⟩, h1c⟩ := h1
  obtain ⟨⟨h3a, h3b⟩, h3c⟩ := h3
  rw [inr_iff] at h1a h1b h3a h3b
  have ho : (∀ i, i < s.table.length - 1 → (s.table.getD i default).min < (s.table.getD (i + 1) default).min) ∧ s.wind.lo ≤ s.wind.hi := by
    simp only [ordered, Bool.and_eq_true, List.all_eq_true, List.mem_range, decide_eq_true_eq] at h5
    exact h5
  have e6 := fun j (hj : j < s.sills.length) => all_getD (d := default) h6 hj
  simp only [Bool.and_eq_true, isEnd_iff] at e6
  refine ⟨by omega, by omega, by omega, fun j hj => ?_, h3a, h3b, fun j hj => ?_, fun j hj => ?_, ho.1, ho.2, fun j hj => ?_, fun j hj => ?_, fun j hj => ?_⟩
  · have := all_getD (d := default) h2 hj
    simp only [bigW, Bool.and_eq_true, inr_iff] at this
    exact this
  · have := all_getD (d := (0 : Int)) h3c hj
    rwa [hgt_iff] at this
  · have := all_getD (d := default) h4 hj
    rwa [hgt_iff] at this
  · have := (e6 j hj).1; omega
  · have := (e6 j hj).2; omega
  · have := all_getD (d := default) h7 hj
    simpa using this
end Go.Pl

namespace Go.Proofs
open Go Go.Fw Go.Pl
def deskCells (L : LS) (g : List Int) : Array Value := (L.cells ++ ints g).toArray
def deskObj (L : LS) (g : List Int) : Obj := .cells (deskCells L g) 157 (0, 0)
theorem ints_length {l : List Int} : (ints l).length = l.length := by simp [ints]
theorem desk_gate {L : LS} {g : List Int} {j : Nat} (h : j < g.length) : (deskCells L g).toList[5 + j]? = some (.int .i64 (g.getD j 0)) := by
  have : L.cells.length = 5 := rfl
  simp only [deskCells]
  rw [List.getElem?_append_right (by omega), this, Nat.add_sub_cancel_left]
  exact ints_get h
theorem desk_set {L : LS} {g : List Int} {j : Nat} {v : Int} : (deskCells L g).setIfInBounds (5 + j) (.int .i64 v) = deskCells L (g.set j v) := by
  have h5 : L.cells.length = 5 := rfl
  simp only [deskCells]
  apply Array.toList_inj.1
  simp only [Array.toList_setIfInBounds, List.set_append, h5]
  rw [if_neg (by omega), Nat.add_sub_cancel_left]
  simp [ints, List.map_set]
theorem desk_size {L : LS} {g : List Int} : (deskCells L g).size = 5 + g.length := by
  simp [deskCells, ints, LS.cells]; omega
end Go.Proofs
namespace Go.Proofs
open Go Go.Fw Go.Pl
theorem desk_cell {L : LS} {g : List Int} {j : Nat} {v : Value} (h : L.cells[j]? = some v) : (deskCells L g).toList[j]? = some v := by
  simp only [deskCells]
  rw [List.getElem?_append_left (List.getElem?_eq_some_iff.1 h).1]
  exact h
end Go.Proofs

-- plain: the gates, as least fixed point
namespace Go.Pl
def roundN (s : Sands) (g : List Int) (k : Nat) : List Int := (List.range k).foldl (fun g p => lowerF s (p : Nat) (g.getD p 0) g) (lowerF s (-1) 0 g)
def roundF (s : Sands) (g : List Int) : List Int := roundN s g s.floors.length
def fixF (s : Sands) : Nat → List Int → List Int
  | 0, g => g
  | k + 1, g => if roundF s g = g then g else fixF s k (roundF s g)
def initG (k : Nat) : List Int := (List.range 8).map (fun j => if j < k then 1000 else 0)
def gatesOf (s : Sands) : List Int := fixF s 8001 (initG 8)
theorem initG_length {k : Nat} : (initG k).length = 8 := by simp [initG]
theorem initG_set {k : Nat} (h : k < 8) : (initG k).set k 1000 = initG (k + 1) := by
  have : ∀ k, k < 8 → (initG k).set k 1000 = initG (k + 1) := by decide
  exact this k h
theorem lowerF_length {s : Sands} {p at_ : Int} {g : List Int} : (lowerF s p at_ g).length = g.length := by rw [← lowN_all, lowN_length]
theorem roundN_length {s : Sands} {g : List Int} {k : Nat} : (roundN s g k).length = g.length := by
  unfold roundN
  induction k with
  | zero => simp [lowerF_length]
  | succ k ih => rw [List.range_succ, List.foldl_append]; simp only [List.foldl_cons, List.foldl_nil]; rw [lowerF_length, ih]
theorem roundN_succ {s : Sands} {g : List Int} {k : Nat} : roundN s g (k + 1) = lowerF s (k : Nat) ((roundN s g k).getD k 0) (roundN s g k) := by
  unfold roundN
  rw [List.range_succ, List.foldl_append]
  rfl
/-- numbers from 0 to 1000 -/
structure OKg (g : List Int) : Prop where
  len : g.length = 8
  lo : ∀ j, 0 ≤ g.getD j 0
  hi : ∀ j, g.getD j 0 ≤ 1000
structure Le (a b : List Int) : Prop where
  len : a.length = b.length
  le : ∀ j, a.getD j 0 ≤ b.getD j 0
theorem Le.refl (a : List Int) : Le a a := ⟨rfl, fun _ => Int.le_refl _⟩
theorem Le.trans {a b c : List Int} (h : Le a b) (k : Le b c) : Le a c := ⟨h.len.trans k.len, fun j => Int.le_trans (h.le j) (k.le j)⟩
theorem ext_getD {a b : List Int} (hl : a.length = b.length) (h : ∀ j, a.getD j 0 = b.getD j 0) : a = b := by
  apply List.ext_getElem hl
  intro j h1 h2
  have := h j
  simpa [List.getD_eq_getElem?_getD, h1, h2] using this
theorem Le.antisymm {a b : List Int} (h : Le a b) (k : Le b a) : a = b := ext_getD h.len (fun j => Int.le_antisymm (h.le j) (k.le j))
theorem getD_set {g : List Int} {q : Nat} {v : Int} {j : Nat} : (g.set q v).getD j 0 = if q = j ∧ j < g.length then v else g.getD j 0 := by
  simp only [List.getD_eq_getElem?_getD, List.getElem?_set]
  by_cases h : q = j
  · subst h
    by_cases h2 : q < g.length
    · simp [h2]
    · simp [h2]
  · simp [h]
theorem foldmax2 {a b c : Int} : ([b, c] : List Int).foldl max a = max (max a b) c := rfl
theorem lowAt_le {s : Sands} {at_ h : Int} {g : List Int} {q : Int} : Le (lowAt s at_ h g q) g := by
  refine ⟨lowAt_length, fun j => ?_⟩
  unfold lowAt
  split
  · exact Int.le_refl _
  · rw [getD_set]
    split
    · rename_i hq
      rw [hq.1]; exact Int.min_le_left _ _
    · exact Int.le_refl _
theorem lowAt_ok {s : Sands} {at_ h : Int} {g : List Int} {q : Int} (hg : OKg g) (ha : 0 ≤ at_) : OKg (lowAt s at_ h g q) := by
  refine ⟨by rw [lowAt_length, hg.len], fun j => ?_, fun j => Int.le_trans (lowAt_le.le j) (hg.hi j)⟩
  unfold lowAt
  split
  · exact hg.lo j
  · rw [getD_set, foldmax2]
    split
    · have := hg.lo q.toNat
      omega
    · exact hg.lo j
theorem lowStep_le {s : Sands} {p at_ : Int} {g : List Int} {x : Sill} : Le (lowStep s p at_ g x) g := by
  unfold lowStep; split
  · exact lowAt_le
  · split
    · exact lowAt_le
    · exact Le.refl _
theorem lowStep_ok {s : Sands} {p at_ : Int} {g : List Int} {x : Sill} (hg : OKg g) (ha : 0 ≤ at_) : OKg (lowStep s p at_ g x) := by
  unfold lowStep; split
  · exact lowAt_ok hg ha
  · split
    · exact lowAt_ok hg ha
    · exact hg
theorem foldl_le {α : Type} {f : List Int → α → List Int} {I : List Int → Prop} (h1 : ∀ g x, I g → I (f g x)) (h2 : ∀ g x, I g → Le (f g x) g) : ∀ (l : List α) (g : List Int), I g → I (l.foldl f g) ∧ Le (l.foldl f g) g
  | [], g, h => ⟨h, Le.refl _⟩
  | x :: l, g, h => by
    have := foldl_le h1 h2 l (f g x) (h1 g x h)
    exact ⟨this.1, this.2.trans (h2 g x h)⟩
theorem foldl_fix {α : Type} {f : List Int → α → List Int} {I : List Int → Prop} (h1 : ∀ g x, I g → I (f g x)) (h2 : ∀ g x, I g → Le (f g x) g) : ∀ (l : List α) (g : List Int), I g → l.foldl f g = g → ∀ x ∈ l, f g x = g
  | [], g, _, _, x, hx => by cases hx
  | y :: l, g, h, he, x, hx => by
    simp only [List.foldl_cons] at he
    have h3 := (foldl_le h1 h2 l (f g y) (h1 g y h)).2
    rw [he] at h3
    have h4 : f g y = g := (h2 g y h).antisymm h3
    rcases List.mem_cons.1 hx with rfl | hx
    · exact h4
    · rw [h4] at he
      exact foldl_fix h1 h2 l g h he x hx
theorem lowerF_ok {s : Sands} {p at_ : Int} {g : List Int} (hg : OKg g) (ha : 0 ≤ at_) : OKg (lowerF s p at_ g) ∧ Le (lowerF s p at_ g) g :=
  foldl_le (I := OKg) (fun _ _ h => lowStep_ok h ha) (fun _ _ _ => lowStep_le) _ _ hg
theorem roundN_ok {s : Sands} {g : List Int} {k : Nat} (hg : OKg g) : OKg (roundN s g k) ∧ Le (roundN s g k) g := by
  have h1 := lowerF_ok (s := s) (p := -1) hg (Int.le_refl 0)
  have h2 := foldl_le (I := OKg) (f := fun g (p : Nat) => lowerF s (p : Nat) (g.getD p 0) g) (fun g x h => (lowerF_ok h (h.lo x)).1) (fun g x h => (lowerF_ok h (h.lo x)).2) (List.range k) _ h1.1
  exact ⟨h2.1, h2.2.trans h1.2⟩
def mu (g : List Int) : Nat := (g.map Int.toNat).sum
theorem mu_lt : ∀ {a b : List Int}, a.length = b.length → (∀ j, a.getD j 0 ≤ b.getD j 0) → (∀ j, 0 ≤ a.getD j 0) → mu a ≤ mu b ∧ (a ≠ b → mu a < mu b)
  | [], [], _, _, _ => ⟨Nat.le_refl _, fun h => absurd rfl h⟩
  | [], _ :: _, h, _, _ => by simp at h
  | _ :: _, [], h, _, _ => by simp at h
  | x :: a, y :: b, hl, h, h0 => by
    have ih := mu_lt (a := a) (b := b) (by simpa using hl) (fun j => by simpa using h (j + 1)) (fun j => by simpa using h0 (j + 1))
    have hx : x ≤ y := by simpa using h 0
    have h0x : 0 ≤ x := by simpa using h0 0
    simp only [mu, List.map_cons, List.sum_cons] at *
    refine ⟨by omega, fun hne => ?_⟩
    by_cases hxy : x = y
    · have : a ≠ b := fun he => hne (by rw [hxy, he])
      have := ih.2 this
      omega
    · omega
theorem mu_le_max {g : List Int} (hg : OKg g) : mu g ≤ 8000 := by
  have : ∀ (l : List Int), (∀ x ∈ l, x ≤ 1000) → mu l ≤ 1000 * l.length := by
    intro l
    induction l with
    | nil => simp [mu]
    | cons x l ih =>
      intro h
      have h1 := ih (fun y hy => h y (List.mem_cons_of_mem _ hy))
      have h2 := h x List.mem_cons_self
      simp only [mu, List.map_cons, List.sum_cons, List.length_cons] at *
      omega
  have h := this g (fun x hx => by
    obtain ⟨j, hj, rfl⟩ := List.mem_iff_getElem.1 hx
    have := hg.hi j
    simpa [List.getD_eq_getElem?_getD, hj] using this)
  rw [hg.len] at h
  omega
theorem mu_round {s : Sands} {g : List Int} (hg : OKg g) (hne : roundF s g ≠ g) : mu (roundF s g) < mu g := by
  have h := roundN_ok (s := s) (k := s.floors.length) hg
  exact (mu_lt h.2.len h.2.le h.1.lo).2 hne
theorem fixF_fuel {s : Sands} : ∀ (k k' : Nat) (g : List Int), OKg g → mu g < k → mu g < k' → fixF s k g = fixF s k' g
  | 0, _, _, _, h, _ => absurd h (by omega)
  | _, 0, _, _, _, h => absurd h (by omega)
  | k + 1, k' + 1, g, hg, h1, h2 => by
    unfold fixF
    split
    · rfl
    · rename_i hne
      have := mu_round hg hne
      exact fixF_fuel k k' _ (roundN_ok hg).1 (by omega) (by omega)
theorem fixF_step {s : Sands} {g : List Int} (hg : OKg g) (hne : roundF s g ≠ g) : fixF s 8001 (roundF s g) = fixF s 8001 g := by
  have h1 := mu_round hg hne
  have h2 := mu_le_max hg
  conv => rhs; unfold fixF
  rw [if_neg hne]
  exact fixF_fuel 8001 8000 _ (roundN_ok hg).1 (by omega) (by omega)
theorem fixF_stop {s : Sands} {g : List Int} (he : roundF s g = g) : fixF s 8001 g = g := by
  unfold fixF
  rw [if_pos he]
theorem initG_ok : OKg (initG 8) := by
  refine ⟨initG_length, fun j => ?_, fun j => ?_⟩
  · by_cases h : j < 8
    · have : ∀ j, j < 8 → 0 ≤ (initG 8).getD j 0 := by decide
      exact this j h
    · simp [initG, List.getD_eq_getElem?_getD, show 8 ≤ j by omega]
  · by_cases h : j < 8
    · have : ∀ j, j < 8 → (initG 8).getD j 0 ≤ 1000 := by decide
      exact this j h
    · simp [initG, List.getD_eq_getElem?_getD, show 8 ≤ j by omega]
theorem fixF_ok {s : Sands} : ∀ (k : Nat) (g : List Int), OKg g → OKg (fixF s k g)
  | 0, _, h => h
  | k + 1, g, h => by
    unfold fixF
    split
    · exact h
    · exact fixF_ok k _ (roundN_ok h).1
theorem gates_ok {s : Sands} : OKg (gatesOf s) := fixF_ok _ _ initG_ok
theorem gates_length {s : Sands} : (gatesOf s).length = 8 := gates_ok.len
theorem fixF_fixed {s : Sands} : ∀ (k : Nat) (g : List Int), OKg g → mu g < k → roundF s (fixF s k g) = fixF s k g
  | 0, _, _, h => absurd h (by omega)
  | k + 1, g, hg, h => by
    unfold fixF
    split
    · assumption
    · rename_i hne
      have := mu_round hg hne
      exact fixF_fixed k _ (roundN_ok hg).1 (by omega)
theorem gates_fixed {s : Sands} : roundF s (gatesOf s) = gatesOf s := fixF_fixed 8001 _ initG_ok (by have := mu_le_max initG_ok; omega)
end Go.Pl

-- plain: heights, levels, states
namespace Go.Pl
def firstM (s : Sands) : Int := (s.table.getD 0 default).min
def lastM (s : Sands) : Int := (s.table.getD (s.table.length - 1) default).min
def dayF (s : Sands) (m : Int) : Bool := inr m (firstM s) (lastM s)
def slope (a b : Water) (m : Int) : Int :=
  a.h + (if (b.h - a.h) * (m - a.min) < 0 then (b.h - a.h) * (m - a.min) - (b.min - a.min - 1) else (b.h - a.h) * (m - a.min)).tdiv (b.min - a.min)
def heightAt (s : Sands) (m : Int) (j : Nat) : Int :=
  if (s.table.getD j default).min = m then (s.table.getD j default).h else slope (s.table.getD (j - 1) default) (s.table.getD j default) m
def heightF (s : Sands) (m : Int) : Int := heightAt s m (idxf (fun x => decide (m ≤ x.min)) s.table).toNat
def levelF (s : Sands) (m : Int) : Span := ⟨heightF s m + s.wind.lo, heightF s m + s.wind.hi⟩
def stateG (s : Sands) (gate m : Int) : Int := if gate = 1000 ∨ (levelF s m).hi ≤ gate then 0 else if gate < (levelF s m).lo then 2 else 1
def stateF (s : Sands) (m p : Int) : Int := stateG s ((gatesOf s).getD p.toNat 0) m
def HeightR (s : Sands) (m : Int) : Int × Int := if check s ≠ 0 then (0, check s) else if dayF s m = false then (0, 3) else (heightF s m, 0)
def LevelR (s : Sands) (m : Int) : Span × Int := if check s ≠ 0 then (⟨0, 0⟩, check s) else if dayF s m = false then (⟨0, 0⟩, 3) else (levelF s m, 0)
def gatedE (s : Sands) (p : Int) : Int := if check s ≠ 0 then check s else if isPlace s p = false then 1 else if (gatesOf s).getD p.toNat 0 = 1000 then 6 else 0
def GateR (s : Sands) (p : Int) : Int × Int := if gatedE s p ≠ 0 then (0, gatedE s p) else ((gatesOf s).getD p.toNat 0, 0)
def AtR (s : Sands) (m p : Int) : Int × Int := if check s ≠ 0 then (0, check s) else if dayF s m = false then (0, 3) else if isPlace s p = false then (0, 1) else (stateF s m p, 0)
def AllR (s : Sands) (m : Int) : List Int × Int := if check s ≠ 0 then ([], check s) else if dayF s m = false then ([], 3) else ((List.range s.floors.length).map (fun p => stateF s m (p : Nat)), 0)

theorem isPlace_iff {s : Sands} {p : Int} : isPlace s p = true ↔ 0 ≤ p ∧ p < s.floors.length := by
  simp [isPlace, inr]; omega
theorem min_mono {s : Sands} (hG : Good s) : ∀ {i j : Nat}, i < j → j < s.table.length → (s.table.getD i default).min < (s.table.getD j default).min := by
  intro i j hij hj
  induction j with
  | zero => omega
  | succ j ih =>
    have h1 := hG.inc j (by omega)
    rcases Nat.lt_succ_iff_lt_or_eq.1 hij with h | h
    · have := ih h (by omega); omega
    · subst h; exact h1
theorem day_idx {s : Sands} {m : Int} (hG : Good s) (hd : dayF s m = true) : ∃ j : Nat, idxf (fun x => decide (m ≤ x.min)) s.table = (j : Int) ∧ j < s.table.length ∧ m ≤ (s.table.getD j default).min ∧ (∀ i, i < j → (s.table.getD i default).min < m) ∧ (j = 0 → (s.table.getD j default).min = m) := by
  simp only [dayF, inr_iff] at hd
  have h2 := hG.tl
  cases hf : s.table.findIdx? (fun x => decide (m ≤ x.min)) with
  | none =>
    rw [List.findIdx?_eq_none_iff] at hf
    have hl : s.table.length - 1 < s.table.length := by omega
    have h3 := hf s.table[s.table.length - 1] (List.getElem_mem hl)
    have h4 : lastM s = s.table[s.table.length - 1].min := by simp [lastM, List.getD_eq_getElem?_getD, hl]
    simp at h3
    omega
  | some j =>
    rw [List.findIdx?_eq_some_iff_getElem] at hf
    obtain ⟨hj, hp, hmin⟩ := hf
    have e1 : s.table.getD j default = s.table[j] := by simp [List.getD_eq_getElem?_getD, hj]
    have hp' : m ≤ (s.table.getD j default).min := by rw [e1]; simpa using hp
    have hmin' : ∀ i, i < j → (s.table.getD i default).min < m := fun i hi => by
      have h5 := hmin i hi
      have hi2 : i < s.table.length := by omega
      have e2 : s.table.getD i default = s.table[i] := by simp [List.getD_eq_getElem?_getD, hi2]
      rw [e2]
      simpa using h5
    refine ⟨j, idxf_found (d := default) hj (fun i hi => ?_) ?_, hj, hp', hmin', fun h0 => ?_⟩
    · have := hmin' i hi; simp only [decide_eq_false_iff_not]; omega
    · simpa using hp'
    · rw [h0] at hp' ⊢
      have : firstM s = (s.table.getD 0 default).min := rfl
      omega
theorem mul_bd {x y a b : Int} (h1 : -a ≤ x ∧ x ≤ a) (h2 : 0 ≤ y ∧ y ≤ b) (ha : 0 ≤ a) : -(a * b) ≤ x * y ∧ x * y ≤ a * b := by
  have h3 : x * y ≤ a * y := Int.mul_le_mul_of_nonneg_right h1.2 h2.1
  have h4 : a * y ≤ a * b := Int.mul_le_mul_of_nonneg_left h2.2 ha
  have h5 : -a * y ≤ x * y := Int.mul_le_mul_of_nonneg_right h1.1 h2.1
  have h6 : -a * y = -(a * y) := Int.neg_mul a y
  omega
theorem tdiv_bd {x d n : Int} (h : -n ≤ x ∧ x ≤ n) : -n ≤ x.tdiv d ∧ x.tdiv d ≤ n := by
  have h1 : (x.tdiv d).natAbs ≤ x.natAbs := by rw [Int.natAbs_tdiv]; exact Nat.div_le_self _ _
  omega
/-- all that the height's arithmetic stays within -/
theorem slope_bd {s : Sands} {m : Int} (hG : Good s) {j : Nat} (hj : j < s.table.length) (hm : m ≤ (s.table.getD j default).min) (hl : ∀ i, i < j → (s.table.getD i default).min < m) (hj0 : j ≠ 0) :
    -1438560 ≤ ((s.table.getD j default).h - (s.table.getD (j - 1) default).h) * (m - (s.table.getD (j - 1) default).min) ∧ ((s.table.getD j default).h - (s.table.getD (j - 1) default).h) * (m - (s.table.getD (j - 1) default).min) ≤ 1438560 := by
  have h1 := hG.tab j hj
  have h2 := hG.tab (j - 1) (by omega)
  have h3 := hl (j - 1) (by omega)
  have := mul_bd (x := (s.table.getD j default).h - (s.table.getD (j - 1) default).h) (y := m - (s.table.getD (j - 1) default).min) (a := 999) (b := 1440) (by omega) (by omega) (by omega)
  omega
theorem height_bd {s : Sands} {m : Int} (hG : Good s) (hd : dayF s m = true) : -1500000 ≤ heightF s m ∧ heightF s m ≤ 1500000 := by
  obtain ⟨j, ej, hj, hm, hl, hj0⟩ := day_idx hG hd
  have h1 := hG.tab j hj
  have h2 := hG.tab (j - 1) (by omega)
  simp only [heightF, ej, heightAt, Int.toNat_natCast]
  split
  · omega
  · rename_i hne
    have hb := slope_bd hG hj hm hl (fun h => hne (hj0 h))
    unfold slope
    generalize ((s.table.getD j default).h - (s.table.getD (j - 1) default).h) * (m - (s.table.getD (j - 1) default).min) = q at *
    have h3 := tdiv_bd (x := if q < 0 then q - ((s.table.getD j default).min - (s.table.getD (j - 1) default).min - 1) else q) (d := (s.table.getD j default).min - (s.table.getD (j - 1) default).min) (n := 1440001) (by split <;> omega)
    omega
end Go.Pl

namespace Go.Proofs
open Go Go.Fw Go.Pl
theorem desk_lt {L : LS} {g : List Int} {j : Nat} (h : j < g.length) : Nat.blt (5 + j) (deskCells L g).size = true := by
  rw [desk_size]; simp; omega
theorem desk_gates {L : LS} {g : List Int} : ((deskCells L g).toList.drop 5).take (ints g).length = ints g := by
  simp only [deskCells, LS.cells, List.cons_append, List.nil_append, List.drop_succ_cons, List.drop_zero, List.take_length]
theorem ints_size {l : List Int} : (ints l).toArray.size = l.length := by simp [ints]
theorem sz_ints {g : List Int} {n : Nat} {P : Program} {t : TypeId} {w : World} (h : g.length = n) (hz : (sizeOf t).run P w = .ok n w) : (sizeOf t).run P w = .ok (ints g).length w := by rw [ints_length, h]; exact hz
theorem sz_intsA {g : List Int} {n : Nat} {P : Program} {t : TypeId} {w : World} (h : g.length = n) (hz : (sizeOf t).run P w = .ok n w) : (sizeOf t).run P w = .ok (ints g).toArray.size w := by rw [ints_size, h]; exact hz
theorem ones_ints {l : List Int} : ones (ints l) = true := by
  induction l with
  | nil => rfl
  | cons x l ih => simp only [ints, List.map_cons, ones]; exact ih
theorem neP {x : Int} (h : x ≠ 0) : (!decide (x = 0)) = true := by simp [h]
theorem eqP {x : Int} (h : x ≠ 0) : decide (x = 0) = false := by simp [h]
end Go.Proofs
namespace Go.Fw
theorem HS.sepAt {w0 w : Go.World} {M : List Nat} {own : List (Nat × Go.Obj)} {ro : List Sg} (h : HS w0 M own ro w) (i : Nat) {b : Nat} {o : Go.Obj} (hi : own[i]? = some (b, o)) {s : Sg} (hs : s ∈ ro) (hn : s.2.2 ≠ []) : s.1 ≠ b :=
  fun he => h.sep s hs hn (he ▸ List.mem_map.2 ⟨_, List.mem_of_getElem? hi, rfl⟩)
theorem Fresh.of {w0 w : Go.World} {own L : List (Nat × Go.Obj)} {ro : List Sg} (h : HS w0 [] own ro w) (idx : List Nat) (hn : idx.Nodup) (hi : idx.map (fun i => own[i]?) = L.map some) : Fresh w0 w L := (h.pick idx hn hi).toFresh
end Go.Fw
namespace Go.Proofs
open Go Go.Fw Go.Pl
theorem ints_all {g : List Int} : ((ints g).toArray.toList.drop 0).take (ints g).length = ints g := by
  simp only [List.drop_zero, List.take_length]
end Go.Proofs
namespace Go.Fw
theorem HS.rgate {w0 w : Go.World} {M : List Nat} {own : List (Nat × Go.Obj)} {ro : List Sg} (h : HS w0 M own ro w) (i : Nat) {b j : Nat} {L : Go.Proofs.LS} {g : List Int} (hi : ro[i]? = some (b, 0, L.cells ++ ints g)) (hj : j < g.length) : w.cell? ⟨b, 5 + j, none⟩ = some (.int .i64 (g.getD j 0)) := by
  have h5 : L.cells.length = 5 := rfl
  have := h.rcell i (5 + j) hi (v := .int .i64 (g.getD j 0)) (by rw [List.getElem?_append_right (by omega), h5, Nat.add_sub_cancel_left]; exact ints_get hj)
  rwa [Nat.zero_add] at this
end Go.Fw

namespace Go.Proofs
open Go Go.Fw Go.Pl
set_option maxRecDepth 100000 in
theorem c_lower (L : LS) (bd : Nat) (g0 : List Int) (p at_ : Int) (w : World) (hL : L.OK w) (hG : Good L.S) (hg : g0.length = 8) (hb : w.heap[bd]? = some (deskObj L g0)) (hsep : ∀ s, s ∈ L.segs → s.2.2 ≠ [] → s.1 ≠ bd) : Calls Try.prog 154 #[ptr bd 0, .int .i64 p, .int .i64 at_] w (fun en w' => ∃ v, en = .returned v ∧ Ext [bd] w w' ∧ w'.heap[bd]? = some (deskObj L (lowerF L.S p at_ g0))) := by
  have hlt := hL.tl
  have hlf := hL.fl
  have hls := hL.sl
  have hfl8 := hG.fl
  refine g_enterM (args := [ptr bd 0, .int .i64 p, .int .i64 at_]) Try.func154 rfl Try.ntmps154 rfl (e := [(0, _), (1, _), (2, _)]) rfl (HS.start1 w bd (deskObj L g0) L.segs hb (fun s hs => ⟨hL.segs s hs, hsep s hs⟩)) ?_
  refine g_seq ?_
  refine g_region ?_
  refine g_box rfl rfl (fun b1 hb1 => ?_)
  refine g_box rfl rfl (fun b2 hb2 => ?_)
  refine g_nil ?_
  refine g_n_then ?_
  refine g_seq ?_
  refine g_region ?_
  refine g_val rfl rfl rfl (fun w hh => v_load (Try.isAgg139 w) rfl (hh.cell 1 rfl rfl)) ?_
  refine g_val rfl rfl rfl (fun _ _ => v_move rfl) ?_
  refine g_callF (ι := Nat × Nat) (L := fun i => [(i.2, .cells #[.int .i64 p] 3 (0, 0)), (i.1, .cells #[ptr bd 0] 139 (0, 0))]) (ret := fun i => .func (.func 166) #[] #[ptr i.1 0, ptr i.2 0]) rfl rfl rfl rfl rfl rfl rfl (fun a w => Try.call160 a w) (fun w hh => (c_from _ _ w).mono (by rintro en w' ⟨f2, f3, rfl, hF⟩; exact ⟨(f2, f3), rfl, hF⟩)) ?_
  rintro ⟨f2, f3⟩
  refine g_nil ?_
  refine g_n_then ?_
  refine g_block ?_
  refine g_sub (e' := [(3, _), (5, _), (10, _)]) (.cons rfl (.cons rfl (.cons rfl .nil))) ?_
  refine g_rangeFunc2 (ι := List Int) (own' := fun g => [(f3, .cells #[.int .i64 p] 3 (0, 0)), (f2, .cells #[ptr bd 0] 139 (0, 0)), (b2, .cells #[.int .i64 at_] 3 (0, 0)), (b1, .cells #[ptr bd 0] 139 (0, 0)), (bd, deskObj L g)]) (p := fun g => g = lowerF L.S p at_ g0) rfl (fun a w => Try.call166 a w) rfl (fun D l rec hD hround w1 hh1 => ?_) (fun g D hp hD => ?_)
  · have hh2 := hh1.swap (A := [_, _]) (B := [_, _]) (C := [_, _, _])
    have hy : ∀ (k : Nat) (q : Int) (g : List Int) (X : List (Nat × Obj)) (w2 : World), k < L.S.sills.length → g.length = 8 → -1 ≤ q → q < L.S.floors.length → HS w [bd] ([(l, rec .ready), (D, .deferred (some [])), (b2, .cells #[.int .i64 at_] 3 (0, 0)), (b1, .cells #[ptr bd 0] 139 (0, 0)), (bd, deskObj L g)] ++ X) L.segs w2 → YieldOK Try.prog l [.int .i64 (k : Nat), .int .i64 q] w2 (fun en w' => en = .returned (.bool true) ∧ ∃ g', g' = lowAt L.S at_ (L.S.sills.getD k default).h g q ∧ HS w [bd] ([(l, rec .ready), (D, .deferred (some [])), (b2, .cells #[.int .i64 at_] 3 (0, 0)), (b1, .cells #[ptr bd 0] 139 (0, 0)), (bd, deskObj L g')] ++ X) L.segs w') := by
      intro k q g X w2 hk hg8 hq0 hq1 hh3
      refine hround (e1 := [(7, .int .i64 q), (6, .int .i64 (k : Nat)), (12, .int .i64 q), (11, .int .i64 (k : Nat)), (3, ptr b1 0), (5, ptr b2 0), (10, .func (.func 166) #[] #[ptr f2 0, ptr f3 0])]) 0 hh3 rfl rfl rfl rfl (fun X1 hX => ?_) ?_
      · refine g_seq ?_
        refine g_region ?_
        refine g_val rfl rfl rfl (fun _ _ => v_assign rfl) ?_
        refine g_nil ?_
        refine g_n_then ?_
        refine g_region ?_
        refine g_val rfl rfl rfl (fun _ _ => v_assign rfl) ?_
        refine g_nil ?_
        exact hX
      · refine g_block ?_
        refine g_seq ?_
        refine g_region ?_
        refine g_val rfl rfl rfl (fun _ _ => v_move rfl) ?_
        refine g_val rfl rfl rfl (fun _ _ => v_neq rfl rfl) ?_
        refine g_nil ?_
        refine g_n_then ?_
        refine g_cond rfl (fun hc14_1 => ?_) (fun hc14_1 => ?_)
        · replace hc14_1 := of_ndec_true hc14_1
          refine g_draw (some 32) (.hoist 0 (.free 1 (.hoist 2 (.free 3 (.free 4 (.free 5 (.hoist 6 (.hoist 7 (.hoist 8 (.hoist 9 (.free 10 (.free 11 (.free 12 (.hoist 13 (.free 14 (.hoist 15 (.free 16 (.hoist 17 (.hoist 18 (.free 19 (.free 20 (.free 21 (.hoist 22 (.free 23 (.hoist 24 (.hoist 25 (.free 29 (.free 30 (.one 26 (.one 27 (.free 28 (.hoist 31 (.last 32 .done))))))))))))))))))))))))))))))))) _ rfl (by decide +kernel) (fun w k hh => hh.draw k) (fun w hh => hh) ?_
          refine p_hoist rfl rfl rfl rfl (fun w hh => v_load (Try.isAgg139 w) rfl (hh.cell 3 rfl rfl)) ?_
          refine p_free rfl rfl rfl rfl (fun _ _ => v_move rfl) ?_
          refine p_hoist rfl rfl rfl rfl (fun w hh => v_load (Try.isAgg139 w) rfl (hh.cell 3 rfl rfl)) ?_
          refine p_free rfl rfl rfl rfl (fun _ _ => v_move rfl) ?_
          refine p_free rfl rfl rfl rfl (fun _ _ => v_nilCheck rfl) ?_
          refine p_free rfl rfl rfl rfl (fun w _ => v_fieldAddr 5 (Try.runUnderlying157 w) rfl (Try.sizeOf155 w) rfl) ?_
          refine p_hoist rfl rfl rfl rfl (fun w _ => v_arrI1 (Try.runUnderlying155 w) (Try.sizeOf3 w) rfl rfl (by omega) (by omega)) ?_
          refine p_hoist rfl rfl rfl rfl (fun w hh => v_load (Try.isAgg3 w) rfl (hh.cell 4 rfl (desk_gate (by omega)))) ?_
          refine p_hoist rfl rfl rfl rfl (fun w hh => v_load (Try.isAgg3 w) rfl (hh.cell 2 rfl rfl)) ?_
          refine p_hoist rfl rfl rfl rfl (fun w hh => v_load (Try.isAgg139 w) rfl (hh.cell 3 rfl rfl)) ?_
          refine p_free rfl rfl rfl rfl (fun _ _ => v_nilCheck rfl) ?_
          refine p_free rfl rfl rfl rfl (fun w _ => v_fieldAddr 0 (Try.runUnderlying157 w) rfl (Try.sizeOf29 w) rfl) ?_
          refine p_free rfl rfl rfl rfl (fun w _ => v_fieldAddr 4 (Try.runUnderlying29 w) rfl (Try.sizeOf27 w) rfl) ?_
          refine p_hoist rfl rfl rfl rfl (fun w hh => v_load (Try.isAgg27 w) rfl (hh.cell 4 rfl (desk_cell rfl))) ?_
          refine p_free rfl rfl rfl rfl (fun _ _ => v_move rfl) ?_
          refine p_hoist rfl rfl rfl rfl (fun w _ => v_indexAddr k (Try.runUnderlying27 w) (Try.sizeOf51 w) rfl rfl rfl (by omega) (hL.s0 (by omega))) ?_
          refine p_free rfl rfl rfl rfl (fun w _ => v_fieldAddr 2 (Try.runUnderlying51 w) rfl (Try.sizeOf3 w) rfl) ?_
          refine p_hoist rfl rfl rfl rfl (fun w hh => v_load (Try.isAgg3 w) rfl (hh.fld (j := k) encS_len 2 2 rfl (by omega) rfl rfl)) ?_
          refine p_hoist rfl rfl rfl rfl (fun w hh => v_load (Try.isAgg139 w) rfl (hh.cell 3 rfl rfl)) ?_
          refine p_free rfl rfl rfl rfl (fun _ _ => v_nilCheck rfl) ?_
          refine p_free rfl rfl rfl rfl (fun w _ => v_fieldAddr 0 (Try.runUnderlying157 w) rfl (Try.sizeOf29 w) rfl) ?_
          refine p_free rfl rfl rfl rfl (fun w _ => v_fieldAddr 3 (Try.runUnderlying29 w) rfl (Try.sizeOf26 w) rfl) ?_
          refine p_hoist rfl rfl rfl rfl (fun w hh => v_load (Try.isAgg26 w) rfl (hh.cell 4 rfl (desk_cell rfl))) ?_
          refine p_free rfl rfl rfl rfl (fun _ _ => v_move rfl) ?_
          refine p_hoist rfl rfl rfl rfl (fun w _ => v_idxI1 (Try.runUnderlying26 w) (Try.sizeOf3 w) rfl rfl (by omega) (by omega) (hL.f0 (by omega))) ?_
          refine p_hoist rfl rfl rfl rfl (fun w hh => v_load (Try.isAgg3 w) rfl (hh.int 1 rfl (by omega))) ?_
          refine p_free rfl rfl rfl rfl (fun _ _ => v_nilCheck rfl) ?_
          refine p_free rfl rfl rfl rfl (fun w _ => v_fieldAddr 5 (Try.runUnderlying157 w) rfl (Try.sizeOf155 w) rfl) ?_
          refine p_one rfl ?_
          refine g_buildSlice (vs := [(0, _), (1, _)]) (cells := [_, _]) (fun w => Try.runUnderlying26 w) (fun w => Try.sizeOf3 w) (fun w => Try.zeroValue3 w) rfl rfl rfl rfl rfl (fun b3 hb3 => ?_)
          refine p_next (fun w hh => hh.dropN 1 rfl) ?_
          refine p_one rfl ?_
          refine g_callv rfl rfl rfl rfl rfl rfl rfl (fun a w => Try.call134 a w) (fun w hh => c_highest _ [_, _] (some (_, 0)) 2 w (by simp) (by simp) (hh.ownSeg 0 rfl)) ?_
          refine p_next (fun w hh => hh.dropN 1 rfl) ?_
          refine p_free rfl rfl rfl rfl (fun _ _ => v_min rfl rfl) ?_
          refine p_hoist rfl rfl rfl rfl (fun w _ => v_arrI1 (Try.runUnderlying155 w) (Try.sizeOf3 w) rfl rfl (by omega) (by omega)) ?_
          refine p_last rfl ?_
          refine g_storeAt (own' := (_ :: _ :: _ :: _ :: _ :: _ :: _)) 5 (fun w => Try.sizeOf3 w) rfl rfl rfl rfl (desk_lt (by omega)) desk_set rfl ?_
          refine p_nextL ?_
          refine p_done ?_
          refine g_n_blk ?_
          refine g_roundQ (i := 0) (k := 1) rfl rfl rfl (fun w2 h2 => ⟨rfl, _, ?_, h2⟩)
          simp [lowAt, *]
        · replace hc14_1 := of_ndec_false hc14_1
          refine g_skip ?_
          refine g_n_blk ?_
          refine g_roundQ (i := 0) (k := 0) rfl rfl rfl (fun w2 h2 => ⟨rfl, _, ?_, h2⟩)
          simp [lowAt, *]
    refine (c_from1 w [bd] L.segs (fun g => [(l, rec .ready), (D, .deferred (some [])), (b2, .cells #[.int .i64 at_] 3 (0, 0)), (b1, .cells #[ptr bd 0] 139 (0, 0)), (bd, deskObj L g)]) (fun k g => g = lowN L.S p at_ g0 k) l bd f2 f3 p L hL 2 rfl hG.ne ?_ ?_ ?_ ?_ g0 rfl w1 [] hh2).mono ?_
    · intro g X w2 hg2 hh3
      exact hh3.cell 4 rfl (desk_cell rfl)
    · rintro j g hj rfl ha hb2
      show _ = lowN _ _ _ _ (j + 1)
      rw [lowN_succ hj, lowStep, if_neg ha, if_neg hb2]
    · rintro j g X w2 hj rfl ha hh3
      refine (hy j _ _ X w2 hj (by rw [lowN_length]; exact hg) (hG.sb j hj).1 (hG.sb j hj).2 hh3).mono ?_
      rintro en w' ⟨rfl, g', rfl, h'⟩
      exact ⟨rfl, _, by rw [lowN_succ hj, lowStep, if_pos ha], h'⟩
    · rintro j g X w2 hj rfl hb2 hh3
      have ha := fun h => hG.ne j hj (Eq.trans h hb2.symm)
      refine (hy j _ _ X w2 hj (by rw [lowN_length]; exact hg) (hG.sa j hj).1 (hG.sa j hj).2 hh3).mono ?_
      rintro en w' ⟨rfl, g', rfl, h'⟩
      exact ⟨rfl, _, by rw [lowN_succ hj, lowStep, if_neg ha, if_pos hb2], h'⟩
    · rintro en w' ⟨v, rfl, g, rfl, h'⟩
      exact ⟨v, rfl, _, lowN_all, h'.swap (A := [_, _]) (B := [_, _]) (C := [_, _, _])⟩
  · subst hp
    refine g_n_blk ?_
    refine g_doneMN (Ds := [D]) rfl .nil (fun w hh => ?_)
    exact ⟨_, rfl, hh.toExt, hh.get 4 rfl⟩

end Go.Proofs

namespace Go.Proofs
open Go Go.Fw Go.Pl
set_option maxRecDepth 100000 in
theorem eqg155 : Try.prog.eqGuardType Try.prog.depth 155 = false := by decide +kernel
set_option maxRecDepth 100000 in
theorem c_opened (L : LS) (w : World) (hL : L.OK w) (hG : Good L.S) (hc : check L.S = 0) : Calls Try.prog 102 #[L.val] w (fun en w' => ∃ bd : Nat, en = .returned (.tuple #[ptr bd 0, .int .i64 0]) ∧ Fresh w w' [(bd, deskObj L (gatesOf L.S))]) := by
  have hlt := hL.tl
  have hlf := hL.fl
  have hls := hL.sl
  have hfl8 := hG.fl
  refine g_enter (args := [L.val]) Try.func102 rfl Try.ntmps102 rfl (e := [(0, _)]) rfl (HS.start w [] L.segs hL.segs) ?_
  refine g_seq ?_
  refine g_region ?_
  refine g_box rfl rfl (fun b1 hb1 => ?_)
  refine g_val rfl rfl rfl (fun _ _ => v_assign rfl) ?_
  refine g_val rfl rfl rfl (fun _ _ => v_assign rfl) ?_
  refine g_nil ?_
  refine g_n_then ?_
  refine g_seq ?_
  refine g_seq ?_
  refine g_region ?_
  refine g_val rfl rfl rfl (fun w hh => v_loadAgg (vs := [_, _, _, _, _]) (Try.isAgg29 w) (Try.sizeOf29 w) rfl (hh.cells 0 rfl rfl)) ?_
  refine g_callv rfl rfl rfl rfl rfl rfl rfl (fun a w => Try.call24 a w) (fun w hh => c_Check L w (hL.ext hh.toExt)) ?_
  refine g_val rfl rfl rfl (fun _ _ => v_assign rfl) ?_
  refine g_nil ?_
  refine g_n_then ?_
  refine g_seq ?_
  refine g_region ?_
  refine g_val rfl rfl rfl (fun _ _ => v_move rfl) ?_
  refine g_val rfl rfl rfl (fun _ _ => v_neq rfl rfl) ?_
  refine g_nil ?_
  refine g_n_then ?_
  refine g_condF rfl (by simp [hc]) ?_
  refine g_skip ?_
  refine g_n_then ?_
  refine g_seq ?_
  refine g_region ?_
  refine g_val rfl rfl rfl (fun w hh => v_loadAgg (vs := [_, _, _, _, _]) (Try.isAgg29 w) (Try.sizeOf29 w) rfl (hh.cells 0 rfl rfl)) ?_
  refine g_val rfl rfl rfl (fun _ _ => v_build (vs := [(0, _)]) (cells := [_, _, _, _, _, _, _, _, _, _, _, _, _]) rfl rfl) ?_
  refine g_box rfl rfl (fun bd hbd => ?_)
  refine g_val rfl rfl rfl (fun _ _ => v_assign rfl) ?_
  refine g_nil ?_
  refine g_n_then ?_
  refine g_seq ?_
  refine g_seq ?_
  refine g_region ?_
  refine g_val rfl rfl rfl (fun _ _ => v_move rfl) ?_
  refine g_nil ?_
  refine g_n_then ?_
  refine g_block ?_
  refine g_sub (e' := [(17, _), (1, _), (5, _)]) ((.cons rfl (.cons rfl (.cons rfl .nil)))) ?_
  refine g_loopM (ι := Nat) (fun k => [(17, .int .i64 (k : Nat))]) (fun k => [(bd, deskObj L (initG k))]) (fun k => k ≤ 8) (fun k => 8 - k) 0 (by omega) ?_
  intro k hI0
  have hgl := initG_length (k := k)
  refine g_seq ?_
  refine g_region ?_
  refine g_val rfl rfl rfl (fun _ _ => v_lss rfl rfl) ?_
  refine g_nil ?_
  refine g_n_then ?_
  refine g_seq ?_
  refine g_cond rfl (fun h18 => ?_) (fun h18 => ?_)
  · replace h18 := of_decide_eq_true h18
    refine g_skip ?_
    refine g_n_then ?_
    refine g_seq ?_
    refine g_block ?_
    refine g_seq ?_
    refine g_region ?_
    refine g_val rfl rfl rfl (fun _ _ => v_move rfl) ?_
    refine g_val rfl rfl rfl (fun _ _ => v_assign rfl) ?_
    refine g_nil ?_
    refine g_n_then ?_
    refine g_region ?_
    refine g_val rfl rfl rfl (fun _ _ => v_move rfl) ?_
    refine g_val rfl rfl rfl (fun _ _ => v_move rfl) ?_
    refine g_val rfl rfl rfl (fun _ _ => v_nilCheck rfl) ?_
    refine g_val rfl rfl rfl (fun w _ => v_fieldAddr 5 (Try.runUnderlying157 w) rfl (Try.sizeOf155 w) rfl) ?_
    refine g_val rfl rfl rfl (fun w _ => v_indexArr1 k (Try.runUnderlying155 w) (Try.sizeOf3 w) rfl rfl rfl (by omega)) ?_
    refine g_storeAt (own' := (_ :: _)) 0 (fun w => Try.sizeOf3 w) rfl rfl rfl rfl (desk_lt (by omega)) desk_set rfl ?_
    refine g_nil ?_
    refine g_n_blk ?_
    refine g_n_then ?_
    refine g_region ?_
    refine g_val rfl rfl rfl (fun _ _ => v_add rfl rfl (wrap_i64 (by omega))) ?_
    refine g_val rfl rfl rfl (fun _ _ => v_move rfl) ?_
    refine g_nil ?_
    refine g_n_then ?_
    rw [initG_set (by omega)]
    exact g_againM (i := k) (k + 1) [0, 1] ((.cons rfl (.cons rfl (.cons rfl .nil)))) (by decide) rfl (by omega) (by omega)
  · replace h18 := of_decide_eq_false h18
    have ek : k = 8 := by omega
    subst ek
    refine g_exit ?_
    refine g_x_then ?_
    refine g_x_then ?_
    refine g_x_blk ?_
    refine g_n_then ?_
    refine g_block ?_
    refine g_sub (e' := [(1, _), (5, _)]) ((.cons rfl (.cons rfl .nil))) ?_
    refine g_loopM (ι := List Int) (fun g => []) (fun g => [(bd, deskObj L g)]) (fun g => OKg g ∧ fixF L.S 8001 g = gatesOf L.S) (fun g => mu g) (initG 8) (⟨initG_ok, rfl⟩) ?_
    intro g hI2
    refine g_block ?_
    refine g_seq ?_
    refine g_region ?_
    refine g_val rfl rfl rfl (fun _ _ => v_move rfl) ?_
    refine g_val rfl rfl rfl (fun _ _ => v_nilCheck rfl) ?_
    refine g_val rfl rfl rfl (fun w _ => v_fieldAddr 5 (Try.runUnderlying157 w) rfl (Try.sizeOf155 w) rfl) ?_
    refine g_val rfl rfl rfl (fun w hh => v_loadAgg (vs := ints g) (Try.isAgg155 w) (sz_ints hI2.1.len (Try.sizeOf155 w)) rfl (hh.cells 0 rfl desk_gates)) ?_
    refine g_alloc (fun w => Try.zeroValue155 w) rfl (fun b2 hb2 => ?_)
    refine g_storeAgg (vs := (ints g).toArray) (own' := (_ :: _)) 0 (fun w => sz_intsA hI2.1.len (Try.sizeOf155 w)) rfl rfl ones_ints rfl (by rw [ints_size, hI2.1.len]; rfl) rfl ?_
    refine g_nil ?_
    refine g_n_then ?_
    refine g_seq ?_
    refine g_region ?_
    refine g_val rfl rfl rfl (fun _ _ => v_move rfl) ?_
    refine g_callU (ι := Value) (p := fun _ => True) (ob' := fun _ => deskObj L (lowerF L.S (-1) 0 g)) (ret := fun v => v) (own' := fun _ => [_, _, _]) 1 rfl rfl rfl rfl rfl rfl rfl (fun a w => Try.call154 a w) rfl (fun _ => rfl) (fun w hh => (c_lower L bd g (-1) 0 w (hL.ext hh.toExt) hG (hI2.1.len) (hh.get 1 rfl) (fun s hs hn => hh.sepAt 1 rfl hs hn)).mono (by rintro en w' ⟨v, rfl, hx, hb⟩; exact ⟨v, rfl, trivial, hx, hb⟩)) (fun v _ => ?_)
    refine g_nil ?_
    refine g_n_then ?_
    refine g_seq ?_
    refine g_seq ?_
    refine g_region ?_
    refine g_val rfl rfl rfl (fun w _ => v_fieldAddr 3 (Try.runUnderlying29 w) rfl (Try.sizeOf26 w) rfl) ?_
    refine g_val rfl rfl rfl (fun w hh => v_load (Try.isAgg26 w) rfl (hh.cell 2 rfl rfl)) ?_
    refine g_val rfl rfl rfl (fun w _ => v_lenS (Try.runUnderlying26 w) rfl) ?_
    refine g_val rfl rfl rfl (fun _ _ => v_move rfl) ?_
    refine g_nil ?_
    refine g_n_then ?_
    refine g_block ?_
    refine g_sub (e' := [(35, _), (1, _), (5, _), (7, _), (34, _)]) ((.cons rfl (.cons rfl (.cons rfl (.cons rfl (.cons rfl .nil)))))) ?_
    refine g_pick (own' := [_, _, _]) [1, 0, 2] (by decide) rfl ?_
    refine g_loopM (ι := Nat) (fun k => [(35, .int .i64 (k : Nat))]) (fun k => [(bd, deskObj L (roundN L.S g k))]) (fun k => k ≤ L.S.floors.length) (fun k => L.S.floors.length - k) 0 (Nat.zero_le _) ?_
    intro k hI4
    have hgl := (roundN_length (s := L.S) (g := g) (k := k)).trans hI2.1.len
    refine g_seq ?_
    refine g_region ?_
    refine g_val rfl rfl rfl (fun _ _ => v_lss rfl rfl) ?_
    refine g_nil ?_
    refine g_n_then ?_
    refine g_seq ?_
    refine g_cond rfl (fun h36 => ?_) (fun h36 => ?_)
    · replace h36 := of_decide_eq_true h36
      refine g_skip ?_
      refine g_n_then ?_
      refine g_seq ?_
      refine g_block ?_
      refine g_seq ?_
      refine g_region ?_
      refine g_val rfl rfl rfl (fun _ _ => v_move rfl) ?_
      refine g_val rfl rfl rfl (fun _ _ => v_assign rfl) ?_
      refine g_nil ?_
      refine g_n_then ?_
      refine g_region ?_
      refine g_val rfl rfl rfl (fun _ _ => v_move rfl) ?_
      refine g_val rfl rfl rfl (fun _ _ => v_move rfl) ?_
      refine g_val rfl rfl rfl (fun _ _ => v_move rfl) ?_
      refine g_val rfl rfl rfl (fun _ _ => v_move rfl) ?_
      refine g_val rfl rfl rfl (fun _ _ => v_nilCheck rfl) ?_
      refine g_val rfl rfl rfl (fun w _ => v_fieldAddr 5 (Try.runUnderlying157 w) rfl (Try.sizeOf155 w) rfl) ?_
      refine g_val rfl rfl rfl (fun w _ => v_indexArr1 k (Try.runUnderlying155 w) (Try.sizeOf3 w) rfl rfl rfl (by omega)) ?_
      refine g_val rfl rfl rfl (fun w hh => v_load (Try.isAgg3 w) rfl (hh.cell 0 rfl (desk_gate (by omega)))) ?_
      refine g_callU (ι := Value) (p := fun _ => True) (ob' := fun _ => deskObj L (lowerF L.S (k : Nat) _ (roundN L.S g k))) (ret := fun v => v) (own' := fun _ => [_, _, _]) 0 rfl rfl rfl rfl rfl rfl rfl (fun a w => Try.call154 a w) rfl (fun _ => rfl) (fun w hh => (c_lower L bd (roundN L.S g k) (k : Nat) _ w (hL.ext hh.toExt) hG (hgl) (hh.get 0 rfl) (fun s hs hn => hh.sepAt 0 rfl hs hn)).mono (by rintro en w' ⟨v, rfl, hx, hb⟩; exact ⟨v, rfl, trivial, hx, hb⟩)) (fun v _ => ?_)
      refine g_nil ?_
      refine g_n_blk ?_
      refine g_n_then ?_
      refine g_region ?_
      refine g_val rfl rfl rfl (fun _ _ => v_add rfl rfl (wrap_i64 (by omega))) ?_
      refine g_val rfl rfl rfl (fun _ _ => v_move rfl) ?_
      refine g_nil ?_
      refine g_n_then ?_
      rw [← roundN_succ]
      exact g_againM (i := k) (k + 1) [0, 1, 2] ((.cons rfl (.cons rfl (.cons rfl (.cons rfl (.cons rfl .nil)))))) (by decide) rfl (by omega) (by omega)
    · replace h36 := of_decide_eq_false h36
      have ek : k = L.S.floors.length := by omega
      subst ek
      refine g_exit ?_
      refine g_x_then ?_
      refine g_x_then ?_
      refine g_x_blk ?_
      refine g_n_then ?_
      refine g_seq ?_
      refine g_draw none (.free 0 (.free 1 (.free 2 (.hoist 3 (.hoist 4 (.free 5 .done)))))) _ rfl (by decide +kernel) (fun w k hh => hh.draw k) (fun w hh => hh) ?_
      refine p_free rfl rfl rfl rfl (fun _ _ => v_move rfl) ?_
      refine p_free rfl rfl rfl rfl (fun _ _ => v_nilCheck rfl) ?_
      refine p_free rfl rfl rfl rfl (fun w _ => v_fieldAddr 5 (Try.runUnderlying157 w) rfl (Try.sizeOf155 w) rfl) ?_
      refine p_hoist rfl rfl rfl rfl (fun w hh => v_loadAgg (vs := ints (roundN L.S g L.S.floors.length)) (Try.isAgg155 w) (sz_ints (roundN_length.trans hI2.1.len) (Try.sizeOf155 w)) rfl (hh.cells 0 rfl desk_gates)) ?_
      refine p_hoist rfl rfl rfl rfl (fun w hh => v_loadAgg (vs := ints g) (Try.isAgg155 w) (sz_ints hI2.1.len (Try.sizeOf155 w)) rfl (hh.cells 1 rfl ints_all)) ?_
      refine p_free rfl rfl rfl rfl (fun w _ => v_eqlAgg (equal_ints Try.underlying155 Try.sizeOf3 Try.isAgg3 Try.underlying3 (roundN_length.trans hI2.1.len) hI2.1.len w) eqg155 rfl rfl) ?_
      refine p_done ?_
      refine g_n_then ?_
      refine g_cond rfl (fun hfix => ?_) (fun hfix => ?_)
      · replace hfix := of_decide_eq_true hfix
        refine g_seq ?_
        refine g_region ?_
        refine g_val rfl rfl rfl (fun _ _ => v_move rfl) ?_
        refine g_val rfl rfl rfl (fun _ _ => v_assign rfl) ?_
        refine g_val rfl rfl rfl (fun _ _ => v_assign rfl) ?_
        refine g_nil ?_
        refine g_n_then ?_
        refine g_ret ?_
        refine g_r_blk ?_
        refine g_r_then ?_
        refine g_r_blk ?_
        have eg : roundN L.S g L.S.floors.length = gatesOf L.S := hfix.trans ((fixF_stop hfix).symm.trans hI2.2)
        refine g_done rfl (fun w hh => (.tmp rfl (.tmp rfl .nil))) (fun w hh => ?_)
        rw [← eg]
        exact ⟨bd, rfl, Fresh.of hh [0] (by decide) rfl⟩
      · replace hfix := of_decide_eq_false hfix
        refine g_skip ?_
        refine g_n_blk ?_
        refine g_n_then ?_
        exact g_againM (i := g) (roundN L.S g L.S.floors.length) [0, 2] ((.cons rfl (.cons rfl .nil))) (by decide) rfl (⟨(roundN_ok hI2.1).1, (fixF_step hI2.1 hfix).trans hI2.2⟩) (mu_round hI2.1 hfix)

set_option maxRecDepth 100000 in
theorem c_openedE (L : LS) (w : World) (hL : L.OK w) (hc : check L.S ≠ 0) : Ret Try.prog 102 [L.val] w (.tuple #[.pointer none, .int .i64 (check L.S)]) := by
  have hlt := hL.tl
  have hlf := hL.fl
  have hls := hL.sl
  refine g_enter (args := [L.val]) Try.func102 rfl Try.ntmps102 rfl (e := [(0, _)]) rfl (HS.start w [] L.segs hL.segs) ?_
  refine g_seq ?_
  refine g_region ?_
  refine g_box rfl rfl (fun b1 hb1 => ?_)
  refine g_val rfl rfl rfl (fun _ _ => v_assign rfl) ?_
  refine g_val rfl rfl rfl (fun _ _ => v_assign rfl) ?_
  refine g_nil ?_
  refine g_n_then ?_
  refine g_seq ?_
  refine g_seq ?_
  refine g_region ?_
  refine g_val rfl rfl rfl (fun w hh => v_loadAgg (vs := [_, _, _, _, _]) (Try.isAgg29 w) (Try.sizeOf29 w) rfl (hh.cells 0 rfl rfl)) ?_
  refine g_callv rfl rfl rfl rfl rfl rfl rfl (fun a w => Try.call24 a w) (fun w hh => c_Check L w (hL.ext hh.toExt)) ?_
  refine g_val rfl rfl rfl (fun _ _ => v_assign rfl) ?_
  refine g_nil ?_
  refine g_n_then ?_
  refine g_seq ?_
  refine g_region ?_
  refine g_val rfl rfl rfl (fun _ _ => v_move rfl) ?_
  refine g_val rfl rfl rfl (fun _ _ => v_neq rfl rfl) ?_
  refine g_nil ?_
  refine g_n_then ?_
  refine g_condT rfl (neP hc) ?_
  refine g_seq ?_
  refine g_region ?_
  refine g_val rfl rfl rfl (fun _ _ => v_move rfl) ?_
  refine g_val rfl rfl rfl (fun _ _ => v_assign rfl) ?_
  refine g_val rfl rfl rfl (fun _ _ => v_assign rfl) ?_
  refine g_nil ?_
  refine g_n_then ?_
  refine g_ret ?_
  refine g_r_then ?_
  refine g_done rfl (fun w hh => (.tmp rfl (.tmp rfl .nil))) (fun w hh => ⟨rfl, hh.toExt⟩)

end Go.Proofs

