/- What the functions that the law StripMirrored reaches come to, and why it holds: part 6. -/
import Derived.Test.YtnkphlgohnlooaaStripMirrored5
namespace Go.Sp
theorem exists_least {P : Nat → Prop} (h : ∃ n, P n) : ∃ n, P n ∧ ∀ m, m < n → ¬ P m := by
  obtain ⟨n, hn⟩ := h
  induction n using Nat.strongRecOn with
  | _ n ih =>
    by_cases hs : ∃ m, m < n ∧ P m
    · obtain ⟨m, hm, hpm⟩ := hs
      exact ih m hm hpm
    · exact ⟨n, hn, fun m hm hpm => hs ⟨m, hm, hpm⟩⟩
theorem pig : ∀ (n : Nat) (l : List Int), l.Nodup → (∀ x, x ∈ l → 0 ≤ x ∧ x < (n : Int)) → l.length ≤ n
  | 0, l, _, h => by
    cases l with
    | nil => simp
    | cons x l => have := h x (by simp); omega
  | n + 1, l, hn, h => by
    have h1 : ∀ x, x ∈ l.erase (n : Int) → 0 ≤ x ∧ x < (n : Int) := fun x hx => by
      have hx2 := (hn.mem_erase_iff).1 hx
      have := h x hx2.2
      have := hx2.1
      omega
    have h2 := pig n (l.erase (n : Int)) (hn.erase _) h1
    by_cases hm : (n : Int) ∈ l
    · rw [List.length_erase_of_mem hm] at h2
      omega
    · rw [List.erase_of_not_mem hm] at h2
      omega
theorem pig_fun {n : Nat} (f : Nat → Int) (h : ∀ j, j ≤ n → 0 ≤ f j ∧ f j < (n : Int)) : ∃ i j, i < j ∧ j ≤ n ∧ f i = f j := by
  by_cases hx : ∃ i j, i < j ∧ j ≤ n ∧ f i = f j
  · exact hx
  · exfalso
    have hn : ((List.range (n + 1)).map f).Nodup := by
      unfold List.Nodup
      rw [List.pairwise_map, List.pairwise_iff_getElem]
      intro i j hi hj hij e
      simp only [List.getElem_range] at e
      simp only [List.length_range] at hj
      exact hx ⟨i, j, hij, by omega, e⟩
    have := pig n _ hn (fun x hx => by
      obtain ⟨j, hj, rfl⟩ := List.mem_map.1 hx
      exact h j (by have := List.mem_range.1 hj; omega))
    simp at this
    omega
def sumTo (f : Nat → Int) : Nat → Int
  | 0 => 0
  | k + 1 => sumTo f k + f k
theorem sumTo_congr {f g : Nat → Int} : ∀ {k : Nat}, (∀ j, j < k → f j = g j) → sumTo f k = sumTo g k
  | 0, _ => rfl
  | k + 1, h => by simp only [sumTo]; rw [sumTo_congr (fun j hj => h j (by omega)), h k (by omega)]
theorem sumTo_tele (f : Nat → Int) : ∀ k, sumTo (fun j => f j - f (j + 1)) k = f 0 - f k
  | 0 => by simp [sumTo]
  | k + 1 => by simp only [sumTo]; rw [sumTo_tele f k]; omega
theorem sumTo_le {f g : Nat → Int} : ∀ {k : Nat}, (∀ j, j < k → f j ≤ g j) → sumTo f k ≤ sumTo g k
  | 0, _ => Int.le_refl _
  | k + 1, h => by have h1 := sumTo_le (k := k) (fun j hj => h j (by omega)); have := h k (by omega); simp only [sumTo]; omega
theorem sumTo_lt {f g : Nat → Int} : ∀ {k : Nat}, (∀ j, j < k → f j ≤ g j) → (∃ i, i < k ∧ f i < g i) → sumTo f k < sumTo g k
  | 0, _, ⟨i, hi, _⟩ => by omega
  | k + 1, h, ⟨i, hi, hlt⟩ => by
    simp only [sumTo]
    by_cases hik : i = k
    · subst hik
      have := sumTo_le (k := i) (fun j hj => h j (by omega)); omega
    · have := sumTo_lt (k := k) (fun j hj => h j (by omega)) ⟨i, by omega, hlt⟩
      have := h k (by omega); omega
section
variable {A B C : Change → Int}
theorem Inv.next {cs : List Change} {r : Nat} {rel : Int → Nat} {N : Nat} {s : BF} (h : Inv A B C cs r [] rel N s) : Inv A B C cs (r + 1) cs rel N { s with last := -1 } :=
  ⟨h.lo, h.hi, fun x => by have := h.le x; omega, h.pc, fun _ hc => .inl hc, fun c hc => by
    rcases h.done c hc with h1 | h1 | h1
    · cases h1
    · exact .inl h1
    · right; omega, h.strict, fun _ => ⟨fun x hx => by have := h.le x; omega, fun h0 => by simp at h0⟩⟩
theorem Inv.start {cs : List Change} (pre : Int → Change) : Inv A B C cs 0 [] (fun _ => 0) 0 ⟨fun _ => 0, pre, -1⟩ :=
  ⟨fun _ => by simp, fun _ => by simp, fun _ => Nat.le_refl _, fun _ h => by omega, fun _ _ => .inr (.inr (Nat.zero_le _)), fun _ _ => .inr (Nat.zero_le _),
   fun y k hk h _ => by have := h 0 hk; omega, fun h => by omega⟩
theorem Inv.fold {cs : List Change} (hne : ∀ c, c ∈ cs → A c ≠ B c) (hB : ∀ c, c ∈ cs → 0 ≤ B c) (hC : ∀ c, c ∈ cs → -1 ≤ C c) {r : Nat} (hr : 1 ≤ r) : ∀ (todo : List Change), (∀ c, c ∈ todo → c ∈ cs) → ∀ {rel : Int → Nat} {N : Nat} {s : BF}, Inv A B C cs r todo rel N s →
    ∃ rel', Inv A B C cs r [] rel' (N + todo.length) (todo.foldl (relax A B C) s)
  | [], _, rel, N, s, h => ⟨rel, h⟩
  | c :: todo, ht, rel, N, s, h => by
    obtain ⟨rel1, h1, _⟩ := h.step hne hB hC hr (ht c (by simp))
    obtain ⟨rel2, h2⟩ := Inv.fold hne hB hC hr todo (fun d hd => ht d (by simp [hd])) h1
    exact ⟨rel2, by rw [List.length_cons, show N + (todo.length + 1) = N + 1 + todo.length by omega]; exact h2⟩
def round (A B C : Change → Int) (cs : List Change) (s : BF) : BF := cs.foldl (relax A B C) { s with last := -1 }
def rounds (A B C : Change → Int) (cs : List Change) (pre : Int → Change) : Nat → BF
  | 0 => ⟨fun _ => 0, pre, -1⟩
  | k + 1 => round A B C cs (rounds A B C cs pre k)
theorem rounds_inv {cs : List Change} (hne : ∀ c, c ∈ cs → A c ≠ B c) (hB : ∀ c, c ∈ cs → 0 ≤ B c) (hC : ∀ c, c ∈ cs → -1 ≤ C c) (pre : Int → Change) : ∀ r, ∃ rel, Inv A B C cs r [] rel (r * cs.length) (rounds A B C cs pre r)
  | 0 => ⟨fun _ => 0, by rw [Nat.zero_mul]; exact Inv.start pre⟩
  | r + 1 => by
    obtain ⟨rel, h⟩ := rounds_inv hne hB hC pre r
    obtain ⟨rel', h'⟩ := Inv.fold hne hB hC (Nat.succ_pos r) cs (fun _ h => h) h.next
    exact ⟨rel', by rw [Nat.add_mul, Nat.one_mul]; exact h'⟩
theorem rounds_pot {cs : List Change} (hne : ∀ c, c ∈ cs → A c ≠ B c) (hB : ∀ c, c ∈ cs → 0 ≤ B c) (hC : ∀ c, c ∈ cs → -1 ≤ C c) (pre : Int → Change) {r : Nat} (hr : 1 ≤ r) (hl : (rounds A B C cs pre r).last < 0) :
    ∀ c, c ∈ cs → (rounds A B C cs pre r).far (B c) ≤ (rounds A B C cs pre r).far (A c) + C c := by
  obtain ⟨rel, h⟩ := rounds_inv hne hB hC pre r
  intro c hc
  rcases h.done c hc with h1 | h1 | h1
  · cases h1
  · exact h1
  · have h2 := h.le (A c)
    have := (h.lst hr).1 (A c) (by omega)
    omega
theorem rounds_loop {cs : List Change} {n : Nat} (hne : ∀ c, c ∈ cs → A c ≠ B c) (hA : ∀ c, c ∈ cs → 0 ≤ A c ∧ A c < (n : Int)) (hB : ∀ c, c ∈ cs → 0 ≤ B c ∧ B c < (n : Int)) (hC : ∀ c, c ∈ cs → -1 ≤ C c) (pre : Int → Change) (hl : 0 ≤ (rounds A B C cs pre (n + 1)).last) :
    let s := rounds A B C cs pre (n + 1)
    (∀ j, s.pre (iterP (pred A s) j s.last) ∈ cs ∧ B (s.pre (iterP (pred A s) j s.last)) = iterP (pred A s) j s.last) ∧
    ∃ k, 0 < k ∧ k ≤ n ∧ iterP (pred A s) k (iterP (pred A s) n s.last) = iterP (pred A s) n s.last ∧ (∀ j, 0 < j → j < k → iterP (pred A s) j (iterP (pred A s) n s.last) ≠ iterP (pred A s) n s.last) ∧
      sumTo (fun j => C (s.pre (iterP (pred A s) j (iterP (pred A s) n s.last)))) k < 0 := by
  intro s
  obtain ⟨rel, h⟩ := rounds_inv hne (fun c hc => (hB c hc).1) hC pre (n + 1)
  change Inv A B C cs (n + 1) [] rel _ s at h
  generalize hp : pred A s = p
  have hrl : rel s.last = n + 1 := (h.lst (by omega)).2 hl
  have hrel : ∀ j, j ≤ n → n + 1 - j ≤ rel (iterP p j s.last) := by
    intro j
    induction j with
    | zero => intro _; show _ ≤ rel s.last; omega
    | succ j ih =>
      intro hj
      have h1 := ih (by omega)
      obtain ⟨_, _, _, h2⟩ := h.pc (iterP p j s.last) (by omega)
      rw [iterP_succ, ← hp]
      show _ ≤ rel (A (s.pre _))
      rw [hp]
      omega
  have hin : ∀ j, j ≤ n → s.pre (iterP p j s.last) ∈ cs ∧ B (s.pre (iterP p j s.last)) = iterP p j s.last := fun j hj => by
    have h1 := hrel j hj
    obtain ⟨h2, h3, _, _⟩ := h.pc (iterP p j s.last) (by omega)
    exact ⟨h2, h3⟩
  obtain ⟨i, j, hij, hj, he⟩ := pig_fun (n := n) (fun j => iterP p j s.last) (fun j hj => by
    obtain ⟨h1, h2⟩ := hin j hj
    have := hB _ h1
    rw [h2] at this
    exact this)
  change iterP p i s.last = iterP p j s.last at he
  have hall : ∀ m, ∃ m', m' ≤ n ∧ iterP p m s.last = iterP p m' s.last := by
    intro m
    induction m using Nat.strongRecOn with
    | _ m ih =>
      by_cases hm : m ≤ n
      · exact ⟨m, hm, rfl⟩
      · obtain ⟨m', h1, h2⟩ := ih (m - (j - i)) (by omega)
        refine ⟨m', h1, ?_⟩
        rw [← h2]
        have e1 : m = (m - j) + j := by omega
        have e2 : m - (j - i) = (m - j) + i := by omega
        rw [e2, iterP_add, he, ← iterP_add, ← e1]
  have hrel' : ∀ m, 1 ≤ rel (iterP p m s.last) := fun m => by
    obtain ⟨m', h1, h2⟩ := hall m
    rw [h2]
    have := hrel m' h1
    omega
  have hin' : ∀ m, s.pre (iterP p m s.last) ∈ cs ∧ B (s.pre (iterP p m s.last)) = iterP p m s.last := fun m => by
    obtain ⟨m', h1, h2⟩ := hall m
    rw [h2]
    exact hin m' h1
  refine ⟨hin', ?_⟩
  have hper : iterP p (j - i) (iterP p n s.last) = iterP p n s.last := by
    rw [← iterP_add]
    have e1 : j - i + n = (n - i) + j := by omega
    have e2 : n = (n - i) + i := by omega
    rw [e1, iterP_add, ← he, ← iterP_add, ← e2]
  obtain ⟨k, ⟨hk0, hk1⟩, hk2⟩ := exists_least (P := fun k => 0 < k ∧ iterP p k (iterP p n s.last) = iterP p n s.last) ⟨j - i, by omega, hper⟩
  have hkle : k ≤ j - i := by
    by_cases hle : k ≤ j - i
    · exact hle
    · exact absurd ⟨by omega, hper⟩ (hk2 (j - i) (by omega))
  refine ⟨k, hk0, by omega, hk1, fun m hm hmk e => hk2 m hmk ⟨hm, e⟩, ?_⟩
  have hr2 : ∀ m, 1 ≤ rel (iterP p m (iterP p n s.last)) := fun m => by rw [← iterP_add]; exact hrel' _
  have hst := h.strict (iterP p n s.last) k hk0 (fun i _ => by rw [hp]; exact hr2 i) (by rw [hp]; exact hk1)
  rw [hp] at hst
  obtain ⟨z, hz, hlt⟩ := hst
  have := sumTo_lt (k := k) (f := fun j => C (s.pre (iterP p j (iterP p n s.last)))) (g := fun j => s.far (iterP p j (iterP p n s.last)) - s.far (iterP p (j + 1) (iterP p n s.last))) (fun m _ => by
    obtain ⟨_, _, h3, _⟩ := h.pc _ (hr2 m)
    have e : A (s.pre (iterP p m (iterP p n s.last))) = iterP p (m + 1) (iterP p n s.last) := by
      rw [iterP_succ, ← hp]; rfl
    rw [e] at h3
    omega) ⟨z, hz, by omega⟩
  rw [sumTo_tele (fun j => s.far (iterP p j (iterP p n s.last))), hk1] at this
  have e0 : iterP p 0 (iterP p n s.last) = iterP p n s.last := rfl
  rw [e0] at this
  omega
end
end Go.Sp

namespace Go.Sp
structure BS where
  met : Int → Bool
  pre : Int → Change
section
variable (A B : Change → Int)
def visit (s : BS) (c : Change) : BS := if s.met (A c) = true ∧ s.met (B c) = false then ⟨upd s.met (B c) true, upd s.pre (B c) c⟩ else s
structure BInv (cs : List Change) (src : Int) (d : Int → Nat) (N : Nat) (s : BS) : Prop where
  srcm : s.met src = true
  dle : ∀ x, d x ≤ N
  pc : ∀ x, s.met x = true → x ≠ src → s.pre x ∈ cs ∧ B (s.pre x) = x ∧ s.met (A (s.pre x)) = true ∧ d (A (s.pre x)) < d x
variable {A B}
theorem visit_mono (s : BS) (c : Change) : ∀ x, s.met x = true → (visit A B s c).met x = true := fun x hx => by
  unfold visit
  split
  · simp only [upd]; split <;> simp [hx]
  · exact hx
theorem visit_done (s : BS) (c : Change) (h : s.met (A c) = true) : (visit A B s c).met (B c) = true := by
  unfold visit
  split
  · simp [upd]
  · rename_i h2
    cases hb : s.met (B c) with
    | true => rfl
    | false => exact absurd ⟨h, hb⟩ h2
theorem BInv.step {cs : List Change} {src : Int} {d : Int → Nat} {N : Nat} {s : BS} (h : BInv A B cs src d N s) {c : Change} (hc : c ∈ cs) : ∃ d', BInv A B cs src d' (N + 1) (visit A B s c) := by
  unfold visit
  split
  · rename_i hif
    obtain ⟨h1, h2⟩ := hif
    have hsrc : src ≠ B c := fun e => by rw [← e, h.srcm] at h2; cases h2
    have hAB : A c ≠ B c := fun e => by rw [e, h2] at h1; cases h1
    refine ⟨fun x => if x = B c then d (A c) + 1 else d x, (by show upd s.met (B c) true src = true; rw [upd_ne hsrc]; exact h.srcm), fun x => ?_, fun x hx hxs => ?_⟩
    · have := h.dle (A c); have := h.dle x
      show (if x = B c then d (A c) + 1 else d x) ≤ N + 1
      split <;> omega
    · simp only at hx ⊢
      by_cases hxb : x = B c
      · subst hxb
        rw [upd_same, upd_ne hAB, if_neg hAB, if_pos rfl]
        exact ⟨hc, rfl, h1, Nat.lt_succ_self _⟩
      · rw [upd_ne hxb] at hx ⊢
        rw [if_neg hxb]
        obtain ⟨g1, g2, g3, g4⟩ := h.pc x hx hxs
        have hne : A (s.pre x) ≠ B c := fun e => by rw [e, h2] at g3; cases g3
        rw [upd_ne hne, if_neg hne]
        exact ⟨g1, g2, g3, g4⟩
  · exact ⟨d, h.srcm, fun x => by have := h.dle x; omega, h.pc⟩
theorem BInv.fold {cs : List Change} {src : Int} : ∀ (todo : List Change), (∀ c, c ∈ todo → c ∈ cs) → ∀ {d : Int → Nat} {N : Nat} {s : BS}, BInv A B cs src d N s → ∃ d', BInv A B cs src d' (N + todo.length) (todo.foldl (visit A B) s)
  | [], _, d, N, s, h => ⟨d, h⟩
  | c :: todo, ht, d, N, s, h => by
    obtain ⟨d1, h1⟩ := h.step (ht c (by simp))
    obtain ⟨d2, h2⟩ := BInv.fold todo (fun x hx => ht x (by simp [hx])) h1
    exact ⟨d2, by rw [List.length_cons, show N + (todo.length + 1) = N + 1 + todo.length by omega]; exact h2⟩
theorem fold_mono : ∀ (todo : List Change) (s : BS) (x : Int), s.met x = true → (todo.foldl (visit A B) s).met x = true
  | [], _, _, h => h
  | c :: todo, s, x, h => fold_mono todo _ x (visit_mono s c x h)
theorem fold_done : ∀ (todo : List Change) (s : BS) (c : Change), c ∈ todo → s.met (A c) = true → (todo.foldl (visit A B) s).met (B c) = true
  | [], _, _, h, _ => by cases h
  | d :: todo, s, c, h, ha => by
    rcases List.mem_cons.1 h with rfl | h
    · exact fold_mono todo _ _ (visit_done s c ha)
    · exact fold_done todo _ c h (visit_mono s d _ ha)
theorem BInv.back {cs : List Change} {src : Int} {d : Int → Nat} {N : Nat} {s : BS} (h : BInv A B cs src d N s) {to : Int} (ht : s.met to = true) :
    let p := fun x => A (s.pre x)
    ∃ k, k ≤ N ∧ iterP p k to = src ∧ (∀ j, j < k → iterP p j to ≠ src ∧ s.pre (iterP p j to) ∈ cs ∧ B (s.pre (iterP p j to)) = iterP p j to) ∧ (∀ i j, i < j → j ≤ k → d (iterP p j to) < d (iterP p i to)) := by
  intro p
  have key2 : ∀ n, ∀ x, d x ≤ n → s.met x = true → ∃ k, k ≤ d x ∧ iterP p k x = src ∧ (∀ j, j < k → iterP p j x ≠ src ∧ s.pre (iterP p j x) ∈ cs ∧ B (s.pre (iterP p j x)) = iterP p j x) ∧ (∀ i j, i < j → j ≤ k → d (iterP p j x) < d (iterP p i x)) := by
    intro n
    induction n with
    | zero =>
      intro x hx hm
      by_cases hxs : x = src
      · exact ⟨0, Nat.zero_le _, hxs, fun j hj => by omega, fun i j hij hj => by omega⟩
      · obtain ⟨_, _, _, h4⟩ := h.pc x hm hxs
        omega
    | succ n ih =>
      intro x hx hm
      by_cases hxs : x = src
      · exact ⟨0, Nat.zero_le _, hxs, fun j hj => by omega, fun i j hij hj => by omega⟩
      · obtain ⟨h1, h2, h3, h4⟩ := h.pc x hm hxs
        obtain ⟨k, g1, g2, g3, g4⟩ := ih (p x) (by show d (A (s.pre x)) ≤ n; omega) h3
        refine ⟨k + 1, by have : d (p x) = d (A (s.pre x)) := rfl; omega, g2, fun j hj => ?_, fun i j hij hj => ?_⟩
        · cases j with
          | zero => exact ⟨hxs, h1, h2⟩
          | succ j => exact g3 j (by omega)
        · cases j with
          | zero => omega
          | succ j =>
            cases i with
            | zero =>
              show d (iterP p j (p x)) < d x
              cases j with
              | zero => exact h4
              | succ j =>
                have := g4 0 (j + 1) (by omega) (by omega)
                have e : d (iterP p 0 (p x)) = d (A (s.pre x)) := rfl
                omega
            | succ i => exact g4 i j (by omega) (by omega)
  obtain ⟨k, h1, h2, h3, h4⟩ := key2 (d to) to (Nat.le_refl _) ht
  exact ⟨k, Nat.le_trans h1 (h.dle to), h2, h3, h4⟩
end
end Go.Sp

namespace Go.Sp
def wy (l : List Wy) (c : Change) : Wy := l.getD c.way.toNat default
def eA (l : List Wy) (c : Change) : Int := if c.more = true then (wy l c).fr else (wy l c).dst
def eB (l : List Wy) (c : Change) : Int := if c.more = true then (wy l c).dst else (wy l c).fr
def eC (l : List Wy) (c : Change) : Int := if c.more = true then (wy l c).cost else -(wy l c).cost
def rm (l : List Wy) (c : Change) : Int := if c.more = true then (wy l c).hi - (wy l c).goes else (wy l c).goes - min (wy l c).lo (wy l c).goes
def adjW (w : Wy) (more : Bool) (m : Int) : Wy := { w with goes := if more = true then w.goes + m else w.goes - m }
def adj (l : List Wy) (c : Change) (m : Int) : List Wy := l.set c.way.toNat (adjW (wy l c) c.more m)
def isWay (l : List Wy) (c : Change) : Prop := 0 ≤ c.way ∧ c.way < (l.length : Int)
def res (l : List Wy) : List Change := (List.range l.length).flatMap fun i : Nat => ([⟨(i : Int), true⟩, ⟨(i : Int), false⟩] : List Change).filter fun c => decide (0 < rm l c)
structure WyOK (w : Wy) : Prop where
  fr : 0 ≤ w.fr ∧ w.fr < 12
  dst : 0 ≤ w.dst ∧ w.dst < 12
  ne : w.fr ≠ w.dst
  cost : -1 ≤ w.cost ∧ w.cost ≤ 1
  lo : 0 ≤ w.lo
  hi : w.lo ≤ w.hi ∧ w.hi ≤ 1000000
  goes : 0 ≤ w.goes ∧ w.goes ≤ w.hi
def NetOK (l : List Wy) : Prop := l.length ≤ 41 ∧ ∀ w, w ∈ l → WyOK w
theorem wy_mem {l : List Wy} {c : Change} (h : isWay l c) : wy l c ∈ l := by
  obtain ⟨h1, h2⟩ := h
  unfold wy
  rw [List.getD_eq_getElem?_getD, List.getElem?_eq_getElem (by omega)]
  exact List.getElem_mem _
theorem wy_get {l : List Wy} {c : Change} (h : isWay l c) : l[c.way.toNat]? = some (wy l c) := by
  obtain ⟨h1, h2⟩ := h
  unfold wy
  rw [List.getD_eq_getElem?_getD, List.getElem?_eq_getElem (by omega)]
  rfl
theorem res_mem {l : List Wy} {c : Change} : c ∈ res l ↔ isWay l c ∧ 0 < rm l c := by
  unfold res isWay
  simp only [List.mem_flatMap, List.mem_range, List.mem_filter, List.mem_cons, List.not_mem_nil, or_false, decide_eq_true_eq]
  constructor
  · rintro ⟨i, hi, h1, h2⟩
    rcases h1 with rfl | rfl
    · exact ⟨⟨by simp, by simpa using hi⟩, h2⟩
    · exact ⟨⟨by simp, by simpa using hi⟩, h2⟩
  · rintro ⟨⟨h1, h2⟩, h3⟩
    refine ⟨c.way.toNat, by omega, ?_, h3⟩
    obtain ⟨i, m⟩ := c
    simp only at h1 h2 ⊢
    have e : ((i.toNat : Nat) : Int) = i := by omega
    rw [e]
    cases m <;> simp
section same
variable {l l' : List Wy}
theorem same_get (h : Same l l') (i : Nat) : (l[i]?).map base = (l'[i]?).map base := by
  have := congrArg (fun z : List Wy => z[i]?) h
  simpa [List.getElem?_map] using this
theorem same_wy (h : Same l l') (c : Change) : base (wy l c) = base (wy l' c) := by
  have := same_get h c.way.toNat
  unfold wy
  rw [List.getD_eq_getElem?_getD, List.getD_eq_getElem?_getD]
  cases h1 : l[c.way.toNat]? with
  | none =>
    cases h2 : l'[c.way.toNat]? with
    | none => rfl
    | some w => rw [h1, h2] at this; cases this
  | some v =>
    cases h2 : l'[c.way.toNat]? with
    | none => rw [h1, h2] at this; cases this
    | some w => rw [h1, h2] at this; simpa using this
theorem same_eA (h : Same l l') (c : Change) : eA l c = eA l' c := by
  obtain ⟨h1, h2, _⟩ := base_eq (same_wy h c)
  unfold eA; rw [h1, h2]
theorem same_eB (h : Same l l') (c : Change) : eB l c = eB l' c := by
  obtain ⟨h1, h2, _⟩ := base_eq (same_wy h c)
  unfold eB; rw [h1, h2]
theorem same_eC (h : Same l l') (c : Change) : eC l c = eC l' c := by
  obtain ⟨_, _, _, _, h1⟩ := base_eq (same_wy h c)
  unfold eC; rw [h1]
theorem set_same {i : Nat} {w v : Wy} (hi : l[i]? = some w) (hb : base v = base w) : Same l (l.set i v) := by
  unfold Same
  apply List.ext_getElem?
  intro j
  rw [List.getElem?_map, List.getElem?_map, List.getElem?_set]
  split
  · rename_i hj; subst hj
    rw [hi]
    split
    · simp [hb]
    · rename_i hlt; have := (List.getElem?_eq_some_iff.1 hi).1; omega
  · rfl
end same
theorem adj_same {l : List Wy} {c : Change} (h : isWay l c) (m : Int) : Same l (adj l c m) := set_same (wy_get h) (by simp [base, adjW])
theorem sum_set (f : Wy → Int) : ∀ (l : List Wy) (i : Nat) (w v : Wy), l[i]? = some w → sumI f (l.set i v) = sumI f l + (f v - f w)
  | [], i, w, v, h => by simp at h
  | x :: l, 0, w, v, h => by
    simp only [List.getElem?_cons_zero, Option.some.injEq] at h
    subst h
    simp only [List.set_cons_zero, sumI]; omega
  | x :: l, i + 1, w, v, h => by
    simp only [List.getElem?_cons_succ] at h
    simp only [List.set_cons_succ, sumI]
    rw [sum_set f l i w v h]; omega
theorem adj_bal {l : List Wy} {c : Change} (h : isWay l c) (m : Int) (φ : Int → Int) : bal φ (adj l c m) = bal φ l + m * (φ (eB l c) - φ (eA l c)) := by
  unfold bal adj
  rw [sum_set _ l _ _ _ (wy_get h)]
  unfold eA eB adjW
  cases c.more with
  | true => simp only [if_true, Int.mul_add, Int.mul_comm m]; omega
  | false =>
    simp only [Bool.false_eq_true, if_false, Int.mul_sub, Int.sub_mul, Int.mul_comm m]; omega
theorem adj_costs {l : List Wy} {c : Change} (h : isWay l c) (m : Int) : costs (adj l c m) = costs l + m * eC l c := by
  unfold costs adj
  rw [sum_set _ l _ _ _ (wy_get h)]
  unfold eC adjW
  cases c.more with
  | true => simp only [if_true, Int.mul_add, Int.mul_comm m]; omega
  | false => simp only [Bool.false_eq_true, if_false, Int.mul_sub, Int.mul_neg, Int.neg_mul, Int.mul_comm m]; omega
theorem adj_other {l : List Wy} {c d : Change} {m : Int} (hd : 0 ≤ d.way) (hc : 0 ≤ c.way) (h : d.way ≠ c.way) : wy (adj l c m) d = wy l d := by
  unfold wy adj
  rw [List.getD_eq_getElem?_getD, List.getD_eq_getElem?_getD, List.getElem?_set_ne (by omega)]
theorem adj_at {l : List Wy} {c : Change} {m : Int} (h : isWay l c) : (adj l c m)[c.way.toNat]? = some (adjW (wy l c) c.more m) := by
  unfold adj
  obtain ⟨h1, h2⟩ := h
  rw [List.getElem?_set_self (by omega)]
theorem adj_len {l : List Wy} {c : Change} {m : Int} : (adj l c m).length = l.length := by simp [adj]
theorem adj_isWay {l : List Wy} {c d : Change} {m : Int} (h : isWay l d) : isWay (adj l c m) d := by unfold isWay at *; rw [adj_len]; exact h
theorem adj_ok {l : List Wy} {c : Change} {m : Int} (hl : NetOK l) (h : isWay l c) (h0 : 0 ≤ m) (hm : m ≤ rm l c) : NetOK (adj l c m) := by
  refine ⟨by rw [adj_len]; exact hl.1, fun w hw => ?_⟩
  rcases List.mem_or_eq_of_mem_set hw with hw | rfl
  · exact hl.2 w hw
  · have hk := hl.2 _ (wy_mem h)
    unfold rm at hm
    have hg := hk.goes; have hlo := hk.lo; have hhi := hk.hi
    refine ⟨hk.fr, hk.dst, hk.ne, hk.cost, hk.lo, hk.hi, ?_⟩
    unfold adjW
    cases hmo : c.more with
    | true => simp only [hmo, if_true] at hm ⊢; omega
    | false => simp only [hmo, Bool.false_eq_true, if_false] at hm ⊢; omega
theorem adj_least {l : List Wy} {c : Change} {m : Int} (h : isWay l c) (h0 : 0 ≤ m) (hm : m ≤ rm l c) (i : Nat) {w v : Wy} (hw : l[i]? = some w) (hv : (adj l c m)[i]? = some v) (hge : w.lo ≤ w.goes) : v.lo ≤ v.goes := by
  by_cases hi : i = c.way.toNat
  · subst hi
    rw [adj_at h] at hv
    rw [wy_get h] at hw
    obtain rfl := Option.some.inj hv
    obtain rfl := Option.some.inj hw
    unfold rm at hm
    unfold adjW
    cases hmo : c.more with
    | true => simp only [hmo, if_true] at hm ⊢; omega
    | false => simp only [hmo, Bool.false_eq_true, if_false] at hm ⊢; omega
  · unfold adj at hv
    rw [List.getElem?_set_ne (fun e => hi e.symm), hw] at hv
    obtain rfl := Option.some.inj hv
    exact hge
def makeL (l : List Wy) (L : List Change) (m : Int) : List Wy := L.foldl (fun l c => adj l c m) l
structure MakeOK (l : List Wy) (L : List Change) (m : Int) : Prop where
  way : ∀ c, c ∈ L → isWay l c
  room : ∀ c, c ∈ L → m ≤ rm l c
  once : L.Pairwise fun c d => c.way ≠ d.way
theorem MakeOK.tail {l : List Wy} {c : Change} {L : List Change} {m : Int} (h : MakeOK l (c :: L) m) : MakeOK (adj l c m) L m := by
  obtain ⟨h1, h2⟩ := List.pairwise_cons.1 h.once
  have hc := h.way c (by simp)
  refine ⟨fun d hd => adj_isWay (h.way d (by simp [hd])), fun d hd => ?_, h2⟩
  have hw := h.way d (by simp [hd])
  have := h.room d (by simp [hd])
  unfold rm at this ⊢
  rw [adj_other hw.1 hc.1 (fun e => h1 d hd e.symm)]
  exact this
theorem makeL_same : ∀ {l : List Wy} (L : List Change) {m : Int}, MakeOK l L m → Same l (makeL l L m)
  | l, [], m, h => Same.refl l
  | l, c :: L, m, h => (adj_same (h.way c (by simp)) m).trans (makeL_same L h.tail)
theorem makeL_ok : ∀ {l : List Wy} (L : List Change) {m : Int}, NetOK l → 0 ≤ m → MakeOK l L m → NetOK (makeL l L m)
  | l, [], m, hl, _, h => hl
  | l, c :: L, m, hl, h0, h => makeL_ok L (adj_ok hl (h.way c (by simp)) h0 (h.room c (by simp))) h0 h.tail
theorem makeL_bal (φ : Int → Int) : ∀ {l : List Wy} (L : List Change) {m : Int}, MakeOK l L m → bal φ (makeL l L m) = bal φ l + m * sumI (fun c => φ (eB l c) - φ (eA l c)) L
  | l, [], m, h => by simp [makeL, sumI]
  | l, c :: L, m, h => by
    have ih := makeL_bal φ L h.tail
    have hs := adj_same (h.way c (by simp)) m
    show bal φ (makeL (adj l c m) L m) = _
    rw [ih, adj_bal (h.way c (by simp)) m φ]
    simp only [sumI, Int.mul_add]
    rw [sumI_congr (g := fun c => φ (eB l c) - φ (eA l c)) (fun d _ => by rw [same_eB hs, same_eA hs])]
    omega
theorem makeL_costs : ∀ {l : List Wy} (L : List Change) {m : Int}, MakeOK l L m → costs (makeL l L m) = costs l + m * sumI (fun c => eC l c) L
  | l, [], m, h => by simp [makeL, sumI]
  | l, c :: L, m, h => by
    have ih := makeL_costs L h.tail
    have hs := adj_same (h.way c (by simp)) m
    show costs (makeL (adj l c m) L m) = _
    rw [ih, adj_costs (h.way c (by simp)) m]
    simp only [sumI, Int.mul_add]
    rw [sumI_congr (g := fun c => eC l c) (fun d _ => by rw [same_eC hs])]
    omega
theorem makeL_least : ∀ {l : List Wy} (L : List Change) {m : Int}, 0 ≤ m → MakeOK l L m → ∀ (i : Nat) (w v : Wy), l[i]? = some w → (makeL l L m)[i]? = some v → w.lo ≤ w.goes → v.lo ≤ v.goes
  | l, [], m, _, h, i, w, v, hw, hv, hge => by
    have : l[i]? = some v := hv
    rw [hw] at this; cases this; exact hge
  | l, c :: L, m, h0, h, i, w, v, hw, hv, hge => by
    have hc := h.way c (by simp)
    have hlt : i < (adj l c m).length := by rw [adj_len]; exact (List.getElem?_eq_some_iff.1 hw).1
    have hu : (adj l c m)[i]? = some (adj l c m)[i] := List.getElem?_eq_getElem hlt
    exact makeL_least L h0 h.tail i _ v hu hv (adj_least hc h0 (h.room c (by simp)) i hw hu hge)
theorem makeL_at : ∀ {l : List Wy} (L : List Change) {m : Int}, MakeOK l L m → ∀ c, c ∈ L → (makeL l L m)[c.way.toNat]? = some (adjW (wy l c) c.more m)
  | l, [], m, h, c, hc => by cases hc
  | l, d :: L, m, h, c, hc => by
    obtain ⟨h1, h2⟩ := List.pairwise_cons.1 h.once
    have hd := h.way d (by simp)
    rcases List.mem_cons.1 hc with rfl | hc
    · have key : ∀ (L : List Change) (l : List Wy), (∀ x, x ∈ L → 0 ≤ x.way ∧ c.way ≠ x.way) → 0 ≤ c.way → (makeL l L m)[c.way.toNat]? = l[c.way.toNat]? := by
        intro L
        induction L with
        | nil => intro l _ _; rfl
        | cons x L ih =>
          intro l hx h0
          have := hx x (by simp)
          show (makeL (adj l x m) L m)[c.way.toNat]? = _
          rw [ih _ (fun y hy => hx y (by simp [hy])) h0]
          unfold adj
          rw [List.getElem?_set_ne (by omega)]
      show (makeL (adj l c m) L m)[c.way.toNat]? = _
      rw [key L _ (fun x hx => ⟨(h.way x (by simp [hx])).1, h1 x hx⟩) hd.1, adj_at hd]
    · show (makeL (adj l d m) L m)[c.way.toNat]? = _
      rw [makeL_at L h.tail c hc, adj_other (h.way c (by simp [hc])).1 hd.1 (fun e => h1 c hc e.symm)]
def mostL (l : List Wy) (L : List Change) (m : Int) : Int := L.foldl (fun m c => min m (rm l c)) m
theorem mostL_le (l : List Wy) : ∀ (L : List Change) (m : Int), mostL l L m ≤ m ∧ ∀ c, c ∈ L → mostL l L m ≤ rm l c
  | [], m => ⟨Int.le_refl _, fun _ h => by cases h⟩
  | d :: L, m => by
    obtain ⟨h1, h2⟩ := mostL_le l L (min m (rm l d))
    refine ⟨by show mostL l L (min m (rm l d)) ≤ m; omega, fun c hc => ?_⟩
    show mostL l L (min m (rm l d)) ≤ _
    rcases List.mem_cons.1 hc with rfl | hc
    · omega
    · exact h2 c hc
theorem mostL_pos (l : List Wy) : ∀ (L : List Change) (m : Int), 0 < m → (∀ c, c ∈ L → 0 < rm l c) → 0 < mostL l L m
  | [], m, h, _ => h
  | d :: L, m, h, hr => mostL_pos l L _ (by have := hr d (by simp); show 0 < min m (rm l d); omega) (fun c hc => hr c (by simp [hc]))
end Go.Sp

namespace Go.Sp
def chainL (pre : Int → Change) (p : Int → Int) (y : Int) (k : Nat) : List Change := (List.range k).map fun j => pre (iterP p j y)
theorem sumI_range {α : Type} (f : α → Int) (g : Nat → α) : ∀ k, sumI f ((List.range k).map g) = sumTo (fun j => f (g j)) k
  | 0 => rfl
  | k + 1 => by
    rw [List.range_succ, List.map_append, sumI_append, sumI_range f g k]
    simp [sumI, sumTo]
theorem chain_sum {l : List Wy} {pre : Int → Change} {y : Int} {k : Nat} (hB : ∀ j, j < k → eB l (pre (iterP (fun x => eA l (pre x)) j y)) = iterP (fun x => eA l (pre x)) j y) (φ : Int → Int) :
    sumI (fun c => φ (eB l c) - φ (eA l c)) (chainL pre (fun x => eA l (pre x)) y k) = φ y - φ (iterP (fun x => eA l (pre x)) k y) := by
  unfold chainL
  rw [sumI_range]
  have e : ∀ j, j < k → φ (eB l (pre (iterP (fun x => eA l (pre x)) j y))) - φ (eA l (pre (iterP (fun x => eA l (pre x)) j y))) = (fun j => φ (iterP (fun x => eA l (pre x)) j y)) j - (fun j => φ (iterP (fun x => eA l (pre x)) j y)) (j + 1) := fun j hj => by
    simp only
    rw [hB j hj, iterP_succ]
  rw [sumTo_congr e, sumTo_tele (fun j => φ (iterP (fun x => eA l (pre x)) j y))]
  rfl
theorem same_way {l : List Wy} {c d : Change} (h : c.way = d.way) : c = d ∨ (eA l c = eB l d ∧ eB l c = eA l d ∧ eC l c = - eC l d) := by
  obtain ⟨i, m⟩ := c
  obtain ⟨j, n⟩ := d
  simp only at h
  subst h
  cases m <;> cases n
  · exact .inl rfl
  · right; simp [eA, eB, eC, wy]
  · right; simp [eA, eB, eC, wy]
  · exact .inl rfl
theorem chain_once {l : List Wy} {pre : Int → Change} {y : Int} {k : Nat} (hB : ∀ j, j < k → eB l (pre (iterP (fun x => eA l (pre x)) j y)) = iterP (fun x => eA l (pre x)) j y)
    (hne : ∀ i j, i < j → j < k → iterP (fun x => eA l (pre x)) i y ≠ iterP (fun x => eA l (pre x)) j y)
    (hop : ∀ i j, i < j → j < k → iterP (fun x => eA l (pre x)) (i + 1) y = iterP (fun x => eA l (pre x)) j y → iterP (fun x => eA l (pre x)) (j + 1) y = iterP (fun x => eA l (pre x)) i y → eC l (pre (iterP (fun x => eA l (pre x)) i y)) = - eC l (pre (iterP (fun x => eA l (pre x)) j y)) → False) :
    (chainL pre (fun x => eA l (pre x)) y k).Pairwise fun c d => c.way ≠ d.way := by
  unfold chainL
  rw [List.pairwise_map, List.pairwise_iff_getElem]
  intro i j hi hj hij
  simp only [List.getElem_range, List.length_range] at hi hj ⊢
  intro e
  rcases same_way (l := l) e with h | ⟨h1, h2, h3⟩
  · refine hne i j hij hj ?_
    rw [← hB i (by omega), ← hB j hj, h]
  · refine hop i j hij hj ?_ ?_ h3
    · rw [iterP_succ]
      rw [hB j hj] at h1
      exact h1
    · rw [iterP_succ]
      rw [hB i (by omega)] at h2
      exact h2.symm
theorem pairwise_append_one {α : Type} {R : α → α → Prop} {l : List α} {x : α} (h : l.Pairwise R) (hx : ∀ y, y ∈ l → R y x) : (l ++ [x]).Pairwise R := by
  rw [List.pairwise_append]
  exact ⟨h, List.pairwise_singleton _ _, fun y hy z hz => by rw [List.mem_singleton] at hz; subst hz; exact hx y hy⟩
theorem path_make {l : List Wy} (hl : NetOK l) {i : Nat} (hi : i < l.length) (hlow : (wy l ⟨i, true⟩).goes < (wy l ⟨i, true⟩).lo) {pre : Int → Change} {k : Nat} {d : Int → Nat}
    (hsrc : iterP (fun x => eA l (pre x)) k (wy l ⟨i, true⟩).fr = (wy l ⟨i, true⟩).dst)
    (hch : ∀ j, j < k → iterP (fun x => eA l (pre x)) j (wy l ⟨i, true⟩).fr ≠ (wy l ⟨i, true⟩).dst ∧ pre (iterP (fun x => eA l (pre x)) j (wy l ⟨i, true⟩).fr) ∈ res l ∧ eB l (pre (iterP (fun x => eA l (pre x)) j (wy l ⟨i, true⟩).fr)) = iterP (fun x => eA l (pre x)) j (wy l ⟨i, true⟩).fr)
    (hd : ∀ i' j, i' < j → j ≤ k → d (iterP (fun x => eA l (pre x)) j (wy l ⟨i, true⟩).fr) < d (iterP (fun x => eA l (pre x)) i' (wy l ⟨i, true⟩).fr)) (need : Int) (hneed : 0 < need) :
    let L := chainL pre (fun x => eA l (pre x)) (wy l ⟨i, true⟩).fr k ++ [⟨(i : Int), true⟩]
    let m := mostL l L need
    0 < m ∧ m ≤ need ∧ MakeOK l L m ∧ (∀ φ : Int → Int, sumI (fun c => φ (eB l c) - φ (eA l c)) L = 0) := by
  intro L m
  have hway : isWay l ⟨(i : Int), true⟩ := ⟨by simp, by simpa using hi⟩
  have hk := hl.2 _ (wy_mem hway)
  have hmem : ∀ c, c ∈ L → isWay l c ∧ 0 < rm l c := fun c hc => by
    rcases List.mem_append.1 hc with hc | hc
    · obtain ⟨j, hj, rfl⟩ := List.mem_map.1 hc
      exact res_mem.1 (hch j (by simpa using hj)).2.1
    · rw [List.mem_singleton] at hc
      subst hc
      refine ⟨hway, ?_⟩
      simp only [rm, if_true]
      have := hk.hi; omega
  obtain ⟨m1, m2⟩ := mostL_le l L need
  refine ⟨mostL_pos l L need hneed (fun c hc => (hmem c hc).2), m1, ⟨fun c hc => (hmem c hc).1, m2, ?_⟩, fun φ => ?_⟩
  · refine pairwise_append_one (chain_once (fun j hj => (hch j hj).2.2) (fun a b hab hb e => ?_) (fun a b hab hb h1 h2 _ => ?_)) (fun c hc e => ?_)
    · have := hd a b hab (by omega)
      rw [e] at this; omega
    · have g1 := hd a b hab (by omega)
      have g2 := hd b (b + 1) (by omega) (by omega)
      rw [h2] at g2; omega
    · obtain ⟨j, hj, rfl⟩ := List.mem_map.1 hc
      have hj' : j < k := by simpa using hj
      obtain ⟨h1, h2, h3⟩ := hch j hj'
      have hr := (res_mem.1 h2).2
      generalize pre (iterP (fun x => eA l (pre x)) j (wy l ⟨i, true⟩).fr) = c at h2 h3 hr e
      obtain ⟨w, mo⟩ := c
      simp only at e
      subst e
      cases mo with
      | true =>
        have : eB l ⟨(i : Int), true⟩ = (wy l ⟨(i : Int), true⟩).dst := by simp [eB]
        rw [this] at h3
        exact h1 h3.symm
      | false =>
        have e2 : wy l ⟨(i : Int), false⟩ = wy l ⟨(i : Int), true⟩ := rfl
        simp only [rm, Bool.false_eq_true, if_false, e2] at hr
        omega
  · rw [sumI_append, chain_sum (fun j hj => (hch j hj).2.2) φ, hsrc]
    simp only [sumI, eB, eA, if_true]
    omega
theorem loop_make {l : List Wy} {pre : Int → Change} {y : Int} {k : Nat} (hk : 0 < k) (hch : ∀ j, j < k → pre (iterP (fun x => eA l (pre x)) j y) ∈ res l ∧ eB l (pre (iterP (fun x => eA l (pre x)) j y)) = iterP (fun x => eA l (pre x)) j y)
    (hper : iterP (fun x => eA l (pre x)) k y = y) (hmin : ∀ j, 0 < j → j < k → iterP (fun x => eA l (pre x)) j y ≠ y) (hneg : sumTo (fun j => eC l (pre (iterP (fun x => eA l (pre x)) j y))) k < 0) (need : Int) (hneed : 0 < need) :
    let L := chainL pre (fun x => eA l (pre x)) y k
    let m := mostL l L need
    0 < m ∧ m ≤ need ∧ MakeOK l L m ∧ (∀ φ : Int → Int, sumI (fun c => φ (eB l c) - φ (eA l c)) L = 0) ∧ sumI (fun c => eC l c) L < 0 := by
  intro L m
  have hmem : ∀ c, c ∈ L → isWay l c ∧ 0 < rm l c := fun c hc => by
    obtain ⟨j, hj, rfl⟩ := List.mem_map.1 hc
    exact res_mem.1 (hch j (by simpa using hj)).1
  obtain ⟨m1, m2⟩ := mostL_le l L need
  have hne : ∀ i j, i < j → j < k → iterP (fun x => eA l (pre x)) i y ≠ iterP (fun x => eA l (pre x)) j y := fun i j hij hj e => by
    refine hmin (k - j + i) (by omega) (by omega) ?_
    rw [iterP_add, e, ← iterP_add, show k - j + j = k by omega, hper]
  refine ⟨mostL_pos l L need hneed (fun c hc => (hmem c hc).2), m1, ⟨fun c hc => (hmem c hc).1, m2, ?_⟩, fun φ => ?_, ?_⟩
  · refine chain_once (fun j hj => (hch j hj).2) hne (fun i j hij hj h1 h2 h3 => ?_)
    have e1 : i + 1 = j := by
      by_cases hlt : i + 1 < j
      · exact absurd h1 (hne (i + 1) j hlt hj)
      · omega
    have e2 : j + 1 = k := by
      by_cases hlt : j + 1 < k
      · exact absurd h2.symm (hne i (j + 1) (by omega) hlt)
      · omega
    have e3 : i = 0 := by
      by_cases h0 : i = 0
      · exact h0
      · rw [e2, hper] at h2
        exact absurd h2.symm (hmin i (by omega) (by omega))
    subst e3
    have ek : k = 2 := by omega
    have ej : j = 1 := by omega
    subst ek ej
    simp only [sumTo] at hneg
    omega
  · rw [chain_sum (fun j hj => (hch j hj).2) φ, hper]; omega
  · show sumI (fun c => eC l c) (chainL pre (fun x => eA l (pre x)) y k) < 0
    unfold chainL
    rw [sumI_range]
    exact hneg
end Go.Sp

namespace Go.Gx
theorem addc_eq {a b : Int} (h : -9223372036854775808 ≤ a + b ∧ a + b ≤ 9223372036854775807) : addc a b = some (a + b) := if_pos h
theorem subc_eq {a b : Int} (h : -9223372036854775808 ≤ a - b ∧ a - b ≤ 9223372036854775807) : subc a b = some (a - b) := if_pos h
theorem mulc_eq {a b : Int} (h : -9223372036854775808 ≤ a * b ∧ a * b ≤ 9223372036854775807) : mulc a b = some (a * b) := if_pos h
theorem negc_eq {a : Int} (h : -9223372036854775808 ≤ -a ∧ -a ≤ 9223372036854775807) : negc a = some (-a) := if_pos h
theorem quoc_eq {a b : Int} (h0 : b ≠ 0) (h : -9223372036854775808 ≤ a.tdiv b ∧ a.tdiv b ≤ 9223372036854775807) : quoc a b = some (a.tdiv b) := if_pos ⟨h0, h⟩
theorem remc_eq {a b : Int} (h0 : b ≠ 0) : remc a b = some (a.tmod b) := if_pos h0
theorem ix_eq {α : Type} {l : List α} {i : Int} (d : α) (h0 : 0 ≤ i) (h1 : i < l.length) : ix l i = some (l.getD i.toNat d) := by
  unfold ix
  rw [if_neg (by omega), List.getD_eq_getElem?_getD]
  have : i.toNat < l.length := by omega
  simp [this]
theorem ix_nat {α : Type} {l : List α} {k : Nat} (d : α) (h1 : k < l.length) : ix l (k : Int) = some (l.getD k d) := by
  have := ix_eq (l := l) (i := (k : Int)) d (by omega) (by omega)
  simpa using this
theorem appc_eq {α : Type} {b : Nat} {l m : List α} (h : (l.length + m.length) * b ≤ 140737488355328) : appc b l m = some (l ++ m) := if_pos h
theorem makec_eq {α : Type} {b : Nat} {z : α} {n c : Int} (h : 0 ≤ n ∧ n ≤ c ∧ (b : Int) * c ≤ 140737488355328 ∧ c ≤ 140737488355328) : makec b z n c = some (List.replicate n.toNat z) := if_pos h
@[simp] theorem oc_inl {α β γ : Type} (a : α) (f : α → γ) (g : β → γ) : oc (.inl a) f g = f a := rfl
@[simp] theorem oc_inr {α β γ : Type} (b : β) (f : α → γ) (g : β → γ) : oc (.inr b) f g = g b := rfl

theorem iterM_step {σ β : Type} {f : σ → Option (σ ⊕ β)} {s s' : σ} {N : Nat} (h : f s = some (.inl s')) : iterM (N + 1) f s = iterM N f s' := by simp [iterM, h]
theorem iterM_done {σ β : Type} {f : σ → Option (σ ⊕ β)} {s : σ} {b : β} {N : Nat} (h : f s = some (.inr b)) : iterM (N + 1) f s = some b := by simp [iterM, h]
theorem iterM_inv {σ β : Type} {f : σ → Option (σ ⊕ β)} (Inv : σ → Prop) (μ : σ → Nat) (Q : β → Prop)
    (h : ∀ s, Inv s → (∃ s', f s = some (.inl s') ∧ Inv s' ∧ μ s' < μ s) ∨ ∃ b, f s = some (.inr b) ∧ Q b) : ∀ (N : Nat) (s : σ), μ s < N → Inv s → ∃ b, iterM N f s = some b ∧ Q b
  | 0, _, hN, _ => absurd hN (Nat.not_lt_zero _)
  | N + 1, s, hN, hI => by
    rcases h s hI with ⟨s', h1, h2, h3⟩ | ⟨b, h1, h2⟩
    · rw [iterM_step h1]
      exact iterM_inv Inv μ Q h N s' (by omega) h2
    · exact ⟨b, iterM_done h1, h2⟩
theorem iterM_run {σ β : Type} {f : σ → Option (σ ⊕ β)} (I : Nat → σ) (n : Nat) {b : β} (hs : ∀ k, k < n → f (I k) = some (.inl (I (k + 1)))) (he : f (I n) = some (.inr b)) : ∀ (N : Nat), n < N → iterM N f (I 0) = some b := by
  have key : ∀ (m k N : Nat), k + m = n → m < N → iterM N f (I k) = some b := by
    intro m
    induction m with
    | zero =>
      intro k N hk hN
      obtain ⟨N, rfl⟩ : ∃ N', N = N' + 1 := ⟨N - 1, by omega⟩
      have : k = n := by omega
      subst this
      exact iterM_done he
    | succ m ih =>
      intro k N hk hN
      obtain ⟨N, rfl⟩ : ∃ N', N = N' + 1 := ⟨N - 1, by omega⟩
      rw [iterM_step (hs k (by omega))]
      exact ih (k + 1) N (by omega) (by omega)
  intro N hN
  exact key n 0 N (by omega) hN
theorem iterM_any {ρ : Type} {f : Int → Option (Int ⊕ (Unit ⊕ ρ))} (i0 : Int) (n : Nat) (bad : Nat → Bool) (e : Nat → ρ) (h1 : ∀ k, k < n → f (i0 + (k : Int)) = some (if bad k then .inr (.inr (e k)) else .inl (i0 + (k : Int) + 1))) (h2 : f (i0 + (n : Int)) = some (.inr (.inl ()))) {N : Nat} (hN : n < N) :
    iterM N f i0 = some (match (List.range n).find? bad with | some k => .inr (e k) | none => .inl ()) := by
  have key : ∀ (m k N : Nat), k + m = n → m < N → (∀ j, j < k → bad j = false) → iterM N f (i0 + (k : Int)) = some (match (List.range n).find? bad with | some k => .inr (e k) | none => .inl ()) := by
    intro m
    induction m with
    | zero =>
      intro k N hk hN hb
      obtain ⟨N, rfl⟩ : ∃ N', N = N' + 1 := ⟨N - 1, by omega⟩
      have : k = n := by omega
      subst this
      rw [iterM_done h2]
      have : (List.range k).find? bad = none := by
        rw [List.find?_eq_none]
        intro x hx
        simp [hb x (by simpa using hx)]
      rw [this]
    | succ m ih =>
      intro k N hk hN hb
      obtain ⟨N, rfl⟩ : ∃ N', N = N' + 1 := ⟨N - 1, by omega⟩
      have hk2 := h1 k (by omega)
      cases hbk : bad k with
      | true =>
        rw [hbk] at hk2
        simp only [if_true] at hk2
        rw [iterM_done hk2]
        have : (List.range n).find? bad = some k := by
          rw [List.find?_range_eq_some]
          exact ⟨hbk, by simp; omega, fun j hj => by simp [hb j hj]⟩
        rw [this]
      | false =>
        rw [hbk] at hk2
        simp only [Bool.false_eq_true, if_false] at hk2
        rw [iterM_step hk2]
        have := ih (k + 1) N (by omega) (by omega) (fun j hj => by
          by_cases hjk : j = k
          · subst hjk; exact hbk
          · exact hb j (by omega))
        rw [show i0 + (k : Int) + 1 = i0 + ((k + 1 : Nat) : Int) by push_cast; omega]
        exact this
  have := key n 0 N (by omega) hN (fun j hj => absurd hj (by omega))
  simpa using this
theorem iterM_any0 {ρ : Type} {f : Int → Option (Int ⊕ (Unit ⊕ ρ))} (n : Nat) (bad : Nat → Bool) (e : ρ) (h1 : ∀ k : Nat, k < n → f (k : Int) = some (if bad k then .inr (.inr e) else .inl ((k : Int) + 1))) (h2 : f (n : Int) = some (.inr (.inl ()))) {N : Nat} (hN : n < N) :
    iterM N f 0 = some (if (List.range n).any bad then .inr e else .inl ()) := by
  have := iterM_any 0 n bad (fun _ => e) (fun k hk => by simpa using h1 k hk) (by simpa using h2) hN
  rw [this]
  cases hf : (List.range n).find? bad with
  | none =>
    have : (List.range n).any bad = false := by
      rw [List.any_eq_false]; intro x hx; simpa using List.find?_eq_none.1 hf x hx
    simp [this]
  | some k =>
    have : (List.range n).any bad = true := List.any_eq_true.2 ⟨k, List.mem_of_find?_eq_some hf, List.find?_some hf⟩
    simp [this]
theorem FU_lt {n : Nat} (h : n < 1000000000000) : n < FU := by unfold FU; omega
end Go.Gx

namespace Go.Gx
open Go
theorem contains_loop {α : Type} {f : Int → Option (Int ⊕ (Unit ⊕ Int))} (l : List α) (d : α) (bad : α → Bool) (hl : l.length < 1000000000000)
    (h : ∀ k : Nat, k < l.length → f (k : Int) = some (if bad (l.getD k d) = true then .inr (.inr (k : Int)) else .inl ((k : Int) + 1))) (he : f (l.length : Int) = some (.inr (.inl ()))) :
    (((iterM FU f 0).bind fun o => oc o (fun _ => (some (-1) : Option Int)) (fun r => some r)).bind fun t => some (decide (0 ≤ t))) = some (l.any bad) := by
  have key := iterM_any (f := f) 0 l.length (fun k => bad (l.getD k d)) (fun k => (k : Int)) (fun k hk => by
    have := h k hk
    rw [Int.zero_add]
    exact this) (by rw [Int.zero_add]; exact he) (N := FU) (FU_lt hl)
  rw [key]
  cases hf : (List.range l.length).find? (fun k => bad (l.getD k d)) with
  | none =>
    have : l.any bad = false := by
      rw [List.any_eq_false]
      intro x hx
      obtain ⟨i, hi, rfl⟩ := List.getElem_of_mem hx
      have h2 := List.find?_eq_none.1 hf i (by simpa using hi)
      simpa [List.getD_eq_getElem?_getD, hi] using h2
    rw [this]
    rfl
  | some k =>
    have h1 := List.find?_some hf
    have h2 : k < l.length := by simpa using List.mem_of_find?_eq_some hf
    have : l.any bad = true := by
      rw [List.any_eq_true]
      refine ⟨l[k], List.getElem_mem h2, ?_⟩
      simpa [List.getD_eq_getElem?_getD, h2] using h1
    rw [this, Option.bind_some, oc_inr, Option.bind_some, decide_eq_true (show (0 : Int) ≤ (k : Int) by omega)]
theorem not_any_not {α : Type} {l : List α} {p : α → Bool} : (!l.any fun x => !p x) = l.all p := by rw [List.not_any_eq_all_not]; simp
end Go.Gx
namespace Go.Gx
def filtL (p : Nat → Bool) (k : Nat) : List Int := ((List.range k).filter p).map fun i : Nat => (i : Int)
theorem filtL_succ {p : Nat → Bool} {k : Nat} : filtL p (k + 1) = if p k = true then filtL p k ++ [(k : Int)] else filtL p k := by
  unfold filtL
  rw [List.range_succ, List.filter_append, List.map_append]
  cases h : p k with
  | true => simp [h]
  | false => simp [h]
theorem filtL_len {p : Nat → Bool} {k : Nat} : (filtL p k).length ≤ k := by
  unfold filtL
  rw [List.length_map]
  exact Nat.le_trans (List.length_filter_le _ _) (by simp)
end Go.Gx

namespace Go.Gx
open Go
def mapst {α : Type} (f : α → α) (l : List α) (k : Nat) : List α := (l.take k).map f ++ l.drop k
theorem mapst_zero {α : Type} {f : α → α} {l : List α} : mapst f l 0 = l := by simp [mapst]
theorem mapst_end {α : Type} {f : α → α} {l : List α} : mapst f l l.length = l.map f := by simp [mapst]
theorem mapst_ix {α : Type} {f : α → α} {l : List α} {k : Nat} (d : α) (hk : k < l.length) : ix (mapst f l k) (k : Int) = some (l.getD k d) := by
  unfold mapst ix
  rw [if_neg (by omega), Int.toNat_natCast, List.getElem?_append_right (by simp; omega)]
  simp [List.getD_eq_getElem?_getD, hk, Nat.min_eq_left (Nat.le_of_lt hk)]
theorem mapst_set {α : Type} {f : α → α} {l : List α} {k : Nat} (d : α) (hk : k < l.length) : (mapst f l k).set k (f (l.getD k d)) = mapst f l (k + 1) := by
  unfold mapst
  have hlen : ((l.take k).map f).length = k := by simp; omega
  rw [List.drop_eq_getElem_cons hk, List.set_append_right _ _ (by omega), hlen, Nat.sub_self, List.set_cons_zero, List.take_succ_eq_append_getElem hk, List.map_append, List.append_assoc]
  simp [List.getD_eq_getElem?_getD, hk]
theorem range_set {α : Type} {f : Nat → α} {n i : Nat} {v : α} : ((List.range n).map f).set i v = (List.range n).map fun t => if t = i then v else f t := by
  apply List.ext_getElem
  · simp
  · intro j h1 h2
    simp only [List.length_set, List.length_map, List.length_range] at h1
    rw [List.getElem_set]
    simp only [List.getElem_map, List.getElem_range]
    by_cases h : i = j
    · subst h; simp
    · rw [if_neg h, if_neg (fun e => h e.symm)]
theorem range_ix {α : Type} {f : Nat → α} {n i : Nat} (h : i < n) : ix ((List.range n).map f) (i : Int) = some (f i) := by
  unfold ix
  rw [if_neg (by omega), Int.toNat_natCast]
  simp [h]
theorem range_getD {α : Type} {l : List α} (d : α) : (List.range l.length).map (fun t => l.getD t d) = l := by
  apply List.ext_getElem
  · simp
  · intro j h1 h2
    simp [List.getD_eq_getElem?_getD, h2]
def revst {α : Type} (l : List α) (d : α) (k : Nat) : List α := (List.range l.length).map fun t => if t < k ∨ l.length - 1 - k < t then l.getD (l.length - 1 - t) d else l.getD t d
theorem revst_zero {α : Type} {l : List α} (d : α) : revst l d 0 = l := by
  conv => rhs; rw [← range_getD d (l := l)]
  unfold revst
  apply List.map_congr_left
  intro t ht
  have : t < l.length := by simpa using ht
  rw [if_neg (by omega)]
theorem revst_end {α : Type} {l : List α} (d : α) : revst l d (l.length / 2) = l.reverse := by
  apply List.ext_getElem
  · simp [revst]
  · intro j h1 h2
    have hj : j < l.length := by simpa [revst] using h1
    simp only [revst, List.getElem_map, List.getElem_range, List.getElem_reverse]
    split
    · simp [List.getD_eq_getElem?_getD, show l.length - 1 - j < l.length by omega]
    · have : l.length - 1 - j = j := by omega
      simp only [this]
      simp [List.getD_eq_getElem?_getD, hj]
theorem revst_step {α : Type} {l : List α} (d : α) {k : Nat} (hk : k < l.length / 2) :
    ((revst l d k).set k (l.getD (l.length - 1 - k) d)).set (l.length - 1 - k) (l.getD k d) = revst l d (k + 1) := by
  unfold revst
  rw [range_set, range_set]
  apply List.map_congr_left
  intro t ht
  have : t < l.length := by simpa using ht
  by_cases h1 : t = l.length - 1 - k
  · rw [if_pos h1, if_pos (by omega), h1, show l.length - 1 - (l.length - 1 - k) = k by omega]
  · rw [if_neg h1]
    by_cases h2 : t = k
    · rw [if_pos h2, if_pos (by omega), h2]
    · rw [if_neg h2]
      by_cases h3 : t < k ∨ l.length - 1 - k < t
      · rw [if_pos h3, if_pos (by omega)]
      · rw [if_neg h3, if_neg (by omega)]
end Go.Gx

namespace Go.Proofs.Ws
open Go Go.Fw Go.Gx Go.Sp
theorem Qw (a b : Int) : Jo a [b] = some (min a b) := by
  unfold Jo
  have h1 : yU [b] ⟨a, 0⟩ = some (.inl ⟨min a b, 1⟩) := by
    unfold yU
    simp [ix, addc]
  have h2 : yU [b] ⟨min a b, 1⟩ = some (.inr (min a b)) := by
    unfold yU
    simp
  have e : FU = (FU - 2) + 1 + 1 := by unfold FU; rfl
  rw [e, iterM_step h1, iterM_done h2]
  rfl
theorem ix_way {l : List Wy} {c : Change} (h : isWay l c) : ix l c.way = some (wy l c) := by
  obtain ⟨h1, h2⟩ := h
  exact ix_eq default h1 h2
theorem JQ {l : List Wy} (hl : NetOK l) {c : Change} (h : isWay l c) : qE l c = some ⟨eA l c, eB l c, eC l c, rm l c⟩ := by
  have hk := hl.2 _ (wy_mem h)
  have h1 := hk.hi; have h2 := hk.goes; have h3 := hk.cost; have h4 := hk.lo
  unfold qE
  rw [ix_way h, Option.bind_some]
  unfold eA eB eC rm
  cases c.more with
  | true =>
    simp only [if_true]
    rw [subc_eq (by omega), Option.bind_some]
  | false =>
    simp only [Bool.false_eq_true, if_false]
    rw [negc_eq (by omega), Option.bind_some, Qw, Option.bind_some, subc_eq (by omega), Option.bind_some]
def gI {α : Type} (d : α) (l : List α) (x : Int) : α := if 0 ≤ x then l.getD x.toNat d else d
theorem gI_set {α : Type} {d v : α} {l : List α} {b : Int} (h0 : 0 ≤ b) (h1 : b < l.length) : gI d (l.set b.toNat v) = upd (gI d l) b v := by
  funext x
  unfold gI upd
  by_cases hx : x = b
  · subst hx
    rw [if_pos h0, if_pos rfl, List.getD_eq_getElem?_getD, List.getElem?_set_self (by omega)]
    rfl
  · rw [if_neg hx]
    by_cases h : 0 ≤ x
    · simp only [h, if_true]
      rw [List.getD_eq_getElem?_getD, List.getD_eq_getElem?_getD, List.getElem?_set_ne (by omega)]
    · simp only [h, if_false]
theorem ix_gI {α : Type} (d : α) {l : List α} {x : Int} (h0 : 0 ≤ x) (h1 : x < l.length) : ix l x = some (gI d l x) := by
  unfold gI
  rw [if_pos h0]
  exact ix_eq d h0 h1
def resTo (l : List Wy) (k : Nat) : List Change := (List.range k).flatMap fun i : Nat => ([⟨(i : Int), true⟩, ⟨(i : Int), false⟩] : List Change).filter fun c => decide (0 < rm l c)
theorem resTo_succ {l : List Wy} {k : Nat} : resTo l (k + 1) = resTo l k ++ ((if 0 < rm l ⟨(k : Int), true⟩ then [⟨(k : Int), true⟩] else []) ++ (if 0 < rm l ⟨(k : Int), false⟩ then [⟨(k : Int), false⟩] else [])) := by
  unfold resTo
  rw [List.range_succ, List.flatMap_append]
  congr 1
  simp only [List.flatMap_cons, List.flatMap_nil, List.append_nil, List.filter_cons, List.filter_nil]
  by_cases h1 : 0 < rm l ⟨(k : Int), true⟩ <;> by_cases h2 : 0 < rm l ⟨(k : Int), false⟩ <;> simp [h1, h2]
theorem resTo_all (l : List Wy) : resTo l l.length = res l := rfl
theorem res_len (l : List Wy) : (res l).length ≤ 2 * l.length := by
  have key : ∀ k, (resTo l k).length ≤ 2 * k := by
    intro k
    induction k with
    | zero => simp [resTo]
    | succ k ih =>
      rw [resTo_succ]
      simp only [List.length_append]
      split <;> split <;> simp <;> omega
  rw [← resTo_all]
  exact key l.length
theorem ends_in {l : List Wy} (hl : NetOK l) {c : Change} (h : isWay l c) : (0 ≤ eA l c ∧ eA l c < 12) ∧ (0 ≤ eB l c ∧ eB l c < 12) ∧ eA l c ≠ eB l c ∧ -1 ≤ eC l c ∧ eC l c ≤ 1 := by
  have hk := hl.2 _ (wy_mem h)
  have h1 := hk.fr; have h2 := hk.dst; have h3 := hk.ne; have h4 := hk.cost
  unfold eA eB eC
  cases c.more with
  | true => simp only [if_true]; omega
  | false => simp only [Bool.false_eq_true, if_false]; omega
theorem way_nat {l : List Wy} {k : Nat} (h : k < l.length) (m : Bool) : isWay l ⟨(k : Int), m⟩ := ⟨by simp, by simpa using h⟩
end Go.Proofs.Ws

namespace Go.Proofs.Ws
open Go Go.Fw Go.Gx Go.Sp
abbrev nil0 : Change := ⟨0, false⟩
def visitL (l : List Wy) (s : List Bool × List Change) (c : Change) : List Bool × List Change :=
  if gI false s.1 (eA l c) = true ∧ gI false s.1 (eB l c) = false then (s.1.set (eB l c).toNat true, s.2.set (eB l c).toNat c) else s
def L12 (s : List Bool × List Change) : Prop := s.1.length = 12 ∧ s.2.length = 12
def bsOf (s : List Bool × List Change) : BS := ⟨gI false s.1, gI nil0 s.2⟩
theorem visitL_12 {l : List Wy} {s : List Bool × List Change} (h : L12 s) (c : Change) : L12 (visitL l s c) := by
  unfold visitL L12 at *
  split <;> simp [h.1, h.2]
theorem visitL_bs {l : List Wy} (hl : NetOK l) {s : List Bool × List Change} (h : L12 s) {c : Change} (hc : isWay l c) : bsOf (visitL l s c) = visit (eA l) (eB l) (bsOf s) c := by
  obtain ⟨h1, h2, _⟩ := ends_in hl hc
  unfold visitL visit bsOf
  split
  · simp only
    rw [gI_set h2.1 (by rw [h.1]; exact h2.2), gI_set h2.1 (by rw [h.2]; exact h2.2)]
  · rfl
theorem ZS {l : List Wy} (hl : NetOK l) {s : List Bool × List Change} (h : L12 s) {c : Change} (hc : isWay l c) (C R : Int) :
    ym c (eA l c) (eB l c) C R s.1 s.2 = some ⟨(visitL l s c).1, (visitL l s c).2⟩ := by
  obtain ⟨h1, h2, _⟩ := ends_in hl hc
  unfold ym visitL
  rw [ix_gI false h1.1 (by rw [h.1]; exact h1.2), Option.bind_some]
  cases ha : gI false s.1 (eA l c) with
  | false => simp
  | true =>
    simp only [if_true, true_and]
    rw [ix_gI false h2.1 (by rw [h.1]; exact h2.2), Option.bind_some]
    cases hb : gI false s.1 (eB l c) with
    | true => simp
    | false =>
      simp only [Option.bind_some, Bool.not_false, if_true]
      rw [ix_gI nil0 h2.1 (by rw [h.2]; exact h2.2), Option.bind_some]
theorem fold_12 {l : List Wy} : ∀ (L : List Change) {s : List Bool × List Change}, L12 s → L12 (L.foldl (visitL l) s)
  | [], _, h => h
  | c :: L, _, h => fold_12 L (visitL_12 h c)
theorem fold_bs {l : List Wy} (hl : NetOK l) : ∀ (L : List Change), (∀ c, c ∈ L → isWay l c) → ∀ {s : List Bool × List Change}, L12 s → bsOf (L.foldl (visitL l) s) = L.foldl (visit (eA l) (eB l)) (bsOf s)
  | [], _, _, _ => rfl
  | c :: L, hL, s, h => by
    show bsOf (L.foldl (visitL l) (visitL l s c)) = _
    rw [fold_bs hl L (fun d hd => hL d (by simp [hd])) (visitL_12 h c), visitL_bs hl h (hL c (by simp))]
    rfl
theorem QS {l : List Wy} (hl : NetOK l) {s : List Bool × List Change} (h : L12 s) : yK l s.1 s.2 = some ⟨((res l).foldl (visitL l) s).1, ((res l).foldl (visitL l) s).2⟩ := by
  unfold yK
  have key := iterM_run (f := qd l) (fun k => ⟨(k : Int), ((resTo l k).foldl (visitL l) s).1, ((resTo l k).foldl (visitL l) s).2⟩) l.length (b := ⟨((res l).foldl (visitL l) s).1, ((res l).foldl (visitL l) s).2⟩) (fun k hk => ?_) ?_ FU (FU_lt (by have := hl.1; omega))
  · simp only [resTo, List.range_zero, List.flatMap_nil, List.foldl_nil] at key
    have e : ((0 : Nat) : Int) = 0 := rfl
    rw [e] at key
    rw [key, Option.bind_some]
  · have h12 : L12 ((resTo l k).foldl (visitL l) s) := fold_12 _ h
    generalize hs : (resTo l k).foldl (visitL l) s = t at h12
    unfold qd
    have hlt : (k : Int) < (l.length : Int) := by omega
    simp only [hlt, if_true]
    have step : ∀ (b : Bool) (u : List Bool × List Change), L12 u → ((qE l (⟨(k : Int), b⟩ : Change)).bind fun t32 => if 0 < t32.r3 then ((ym (⟨(k : Int), b⟩ : Change) t32.r0 t32.r1 t32.r2 t32.r3 u.1 u.2).bind fun t45 => some (⟨t45.a55_0, t45.a66_0⟩ : qg)) else (some (⟨u.1, u.2⟩ : qg))) = some (⟨(if 0 < rm l ⟨(k : Int), b⟩ then visitL l u ⟨(k : Int), b⟩ else u).1, (if 0 < rm l ⟨(k : Int), b⟩ then visitL l u ⟨(k : Int), b⟩ else u).2⟩ : qg) := fun b u hu => by
      rw [JQ hl (way_nat hk b), Option.bind_some]
      by_cases hr : 0 < rm l ⟨(k : Int), b⟩
      · simp only [hr, if_true]
        rw [ZS hl hu (way_nat hk b), Option.bind_some]
      · simp only [hr, if_false]
    obtain ⟨u1, hu1⟩ : ∃ u1, u1 = if 0 < rm l ⟨(k : Int), true⟩ then visitL l t ⟨(k : Int), true⟩ else t := ⟨_, rfl⟩
    obtain ⟨u2, hu2⟩ : ∃ u2, u2 = if 0 < rm l ⟨(k : Int), false⟩ then visitL l u1 ⟨(k : Int), false⟩ else u1 := ⟨_, rfl⟩
    have hu112 : L12 u1 := by rw [hu1]; split; exact visitL_12 h12 _; exact h12
    have f1 : j6 l ⟨(k : Int), t.1, t.2⟩ ⟨0, t.1, t.2⟩ = some (.inl ⟨1, u1.1, u1.2⟩) := by
      unfold j6
      simp only [List.length_cons, List.length_nil]
      rw [if_pos (by decide)]
      have e : ix [true, false] (0 : Int) = some true := rfl
      rw [e, Option.bind_some, step true t h12, ← hu1, Option.bind_some]
      rfl
    have f2 : j6 l ⟨(k : Int), t.1, t.2⟩ ⟨1, u1.1, u1.2⟩ = some (.inl ⟨2, u2.1, u2.2⟩) := by
      unfold j6
      simp only [List.length_cons, List.length_nil]
      rw [if_pos (by decide)]
      have e : ix [true, false] (1 : Int) = some false := rfl
      rw [e, Option.bind_some, step false u1 hu112, ← hu2, Option.bind_some]
      rfl
    have f3 : j6 l ⟨(k : Int), t.1, t.2⟩ ⟨2, u2.1, u2.2⟩ = some (.inr ⟨u2.1, u2.2⟩) := by
      unfold j6
      simp only [List.length_cons, List.length_nil]
      rw [if_neg (by decide)]
    have e : FU = (FU - 3) + 1 + 1 + 1 := by unfold FU; rfl
    rw [e, iterM_step f1, iterM_step f2, iterM_done f3, Option.bind_some, addc_eq (by have := hl.1; omega), Option.bind_some]
    have hn : (resTo l (k + 1)).foldl (visitL l) s = u2 := by
      rw [resTo_succ, List.foldl_append, List.foldl_append, hs, hu2, hu1]
      by_cases h1 : 0 < rm l ⟨(k : Int), true⟩ <;> by_cases h2 : 0 < rm l ⟨(k : Int), false⟩ <;> simp [h1, h2]
    rw [hn]
    rfl
  · unfold qd
    simp only [Int.lt_irrefl, if_false]
    rw [resTo_all]
end Go.Proofs.Ws

namespace Go.Proofs.Ws
open Go Go.Fw Go.Gx Go.Sp
theorem count_lt : ∀ (m m' : List Bool), m.length = m'.length → (∀ i : Nat, i < m.length → m.getD i false = true → m'.getD i false = true) → m ≠ m' → m.count true < m'.count true
  | [], [], _, _, h => absurd rfl h
  | [], _ :: _, h, _, _ => by simp at h
  | _ :: _, [], h, _, _ => by simp at h
  | a :: m, b :: m', hl, hm, hne => by
    have hab : a = true → b = true := fun h => by
      have := hm 0 (by simp) (by simpa using h)
      simpa using this
    have hm' : ∀ i : Nat, i < m.length → m.getD i false = true → m'.getD i false = true := fun i hi h => by
      have := hm (i + 1) (by simpa using hi) (by simpa using h)
      simpa using this
    have hl' : m.length = m'.length := by simpa using hl
    by_cases he : m = m'
    · subst he
      cases a <;> cases b
      · exact absurd rfl hne
      · simp [List.count_cons]
      · have := hab rfl; cases this
      · exact absurd rfl hne
    · have ih := count_lt m m' hl' hm' he
      cases a <;> cases b
      · simpa [List.count_cons] using ih
      · simp only [List.count_cons, beq_self_eq_true, if_true]; simp; omega
      · have := hab rfl; cases this
      · simpa [List.count_cons] using ih
def pOf (l : List Wy) (by_ : List Change) : Int → Int := fun x => eA l (gI nil0 by_ x)
theorem YA {l : List Wy} (hl : NetOK l) {src to : Int} (hs : 0 ≤ src ∧ src < 12) (ht : 0 ≤ to ∧ to < 12) :
    ∃ (met : List Bool) (by_ : List Change), met.length = 12 ∧ gI false met src = true ∧ (∀ c, c ∈ res l → gI false met (eA l c) = true → gI false met (eB l c) = true) ∧
      ((gI false met to = false ∧ JZ l src to = some ⟨met, []⟩) ∨
       (gI false met to = true ∧ ∃ (k : Nat) (d : Int → Nat), JZ l src to = some ⟨met, chainL (gI nil0 by_) (pOf l by_) to k⟩ ∧ k ≤ 1066 ∧ iterP (pOf l by_) k to = src ∧
        (∀ j, j < k → iterP (pOf l by_) j to ≠ src ∧ gI nil0 by_ (iterP (pOf l by_) j to) ∈ res l ∧ eB l (gI nil0 by_ (iterP (pOf l by_) j to)) = iterP (pOf l by_) j to) ∧
        (∀ i j, i < j → j ≤ k → d (iterP (pOf l by_) j to) < d (iterP (pOf l by_) i to)))) := by
  unfold JZ
  have hrl := res_len l
  have hlen := hl.1
  rw [ix_gI false hs.1 (by simpa using hs.2), Option.bind_some, Option.bind_some]
  have hres : ∀ c, c ∈ res l → isWay l c := fun c hc => (res_mem.1 hc).1
  have hround : ∃ o, iterM FU (zH l) ⟨List.replicate 12 nil0, (List.replicate 12 false).set src.toNat true⟩ = some o ∧ L12 (o.met8, o.by9) ∧ gI false o.met8 src = true ∧ (∀ c, c ∈ res l → gI false o.met8 (eA l c) = true → gI false o.met8 (eB l c) = true) ∧ ∃ d N, BInv (eA l) (eB l) (res l) src d N (bsOf (o.met8, o.by9)) ∧ N ≤ 1066 := by
    refine iterM_inv (f := zH l) (fun s => L12 (s.met8, s.by9) ∧ ∃ d N, BInv (eA l) (eB l) (res l) src d N (bsOf (s.met8, s.by9)) ∧ N ≤ 82 * s.met8.count true) (fun s => 12 - s.met8.count true) (fun o => L12 (o.met8, o.by9) ∧ gI false o.met8 src = true ∧ (∀ c, c ∈ res l → gI false o.met8 (eA l c) = true → gI false o.met8 (eB l c) = true) ∧ ∃ d N, BInv (eA l) (eB l) (res l) src d N (bsOf (o.met8, o.by9)) ∧ N ≤ 1066) (fun s hs => ?_) FU ⟨List.replicate 12 nil0, (List.replicate 12 false).set src.toNat true⟩ (FU_lt (by omega)) ?_
    · -- a round
      obtain ⟨h12, d, N, hb, hN⟩ := hs
      unfold zH
      rw [QS hl h12, Option.bind_some]
      have h12' := fold_12 (l := l) (res l) h12
      have hbs := fold_bs hl (res l) hres h12
      obtain ⟨d', hb'⟩ := hb.fold (res l) (fun _ h => h)
      rw [← hbs] at hb'
      obtain ⟨t, ht'⟩ : ∃ t, t = (res l).foldl (visitL l) (s.met8, s.by9) := ⟨_, rfl⟩
      rw [← ht'] at h12' hb' hbs ⊢
      by_cases heq : t.1 = s.met8
      · right
        simp only [heq, if_true]
        refine ⟨_, rfl, ?_, ?_, fun c hc ha => ?_, d', N + (res l).length, ?_, ?_⟩
        · rw [← heq]; exact h12'
        · exact hb.srcm
        · have := fold_done (A := eA l) (B := eB l) (res l) (bsOf (s.met8, s.by9)) c hc ha
          rw [← hbs] at this
          show gI false s.met8 (eB l c) = true
          rw [← heq]; exact this
        · rw [← heq]; exact hb'
        · have h1 : s.met8.count true ≤ s.met8.length := List.count_le_length
          have h2 := h12.1
          simp only at h2
          omega
      · left
        simp only [heq, if_false]
        have hlt : s.met8.count true < t.1.count true := count_lt _ _ (by rw [h12.1, h12'.1]) (fun i hi hi2 => by
          have := fold_mono (A := eA l) (B := eB l) (res l) (bsOf (s.met8, s.by9)) (i : Int) (by
            show gI false s.met8 (i : Int) = true
            unfold gI; rw [if_pos (by omega)]; simpa using hi2)
          rw [← hbs] at this
          have h3 : gI false t.1 (i : Int) = true := this
          unfold gI at h3
          rw [if_pos (by omega)] at h3
          simpa using h3) (fun e => heq e.symm)
        refine ⟨_, rfl, ⟨h12', d', N + (res l).length, hb', ?_⟩, ?_⟩
        · show N + (res l).length ≤ 82 * t.1.count true
          omega
        · have h1 : t.1.count true ≤ t.1.length := List.count_le_length
          have h2 := h12'.1
          show 12 - t.1.count true < 12 - s.met8.count true
          omega
    · refine ⟨⟨by simp, by simp⟩, fun _ => 0, 0, ⟨?_, fun _ => Nat.le_refl _, fun x hx hne => ?_⟩, Nat.zero_le _⟩
      · show gI false ((List.replicate 12 false).set src.toNat true) src = true
        rw [gI_set hs.1 (by simpa using hs.2), upd_same]
      · exfalso
        have hx' : gI false ((List.replicate 12 false).set src.toNat true) x = true := hx
        rw [gI_set hs.1 (by simpa using hs.2), upd_ne hne] at hx'
        unfold gI at hx'
        split at hx'
        · rw [List.getD_eq_getElem?_getD, List.getElem?_replicate] at hx'
          split at hx' <;> simp at hx'
        · cases hx'
  obtain ⟨o, ho, ⟨hoL, hosrc, hocl, d, N, hb, hN⟩⟩ := hround
  rw [ho, Option.bind_some, ix_gI false ht.1 (by rw [hoL.1]; exact ht.2), Option.bind_some]
  refine ⟨o.met8, o.by9, hoL.1, hosrc, hocl, ?_⟩
  cases hto : gI false o.met8 to with
  | false => exact .inl ⟨rfl, by simp⟩
  | true =>
    right
    obtain ⟨k, h1, h2, h3, h4⟩ := hb.back (to := to) hto
    refine ⟨rfl, k, d, ?_, by omega, h2, h3, h4⟩
    simp only [Bool.not_true, Bool.false_eq_true, if_false]
    have key := iterM_run (f := zS src o l) (fun j => ⟨iterP (pOf l o.by9) j to, chainL (gI nil0 o.by9) (pOf l o.by9) to j⟩) k (b := chainL (gI nil0 o.by9) (pOf l o.by9) to k) (fun j hj => ?_) ?_ FU (FU_lt (by omega))
    · have e : (⟨iterP (pOf l o.by9) 0 to, chainL (gI nil0 o.by9) (pOf l o.by9) to 0⟩ : zL) = ⟨to, []⟩ := rfl
      rw [← e, key, Option.bind_some]
    · obtain ⟨g1, g2, g3⟩ := h3 j hj
      have hw := hres _ g2
      have hin := (ends_in hl hw).2.1
      have g1' : iterP (pOf l o.by9) j to ≠ src := g1
      have g2' : gI nil0 o.by9 (iterP (pOf l o.by9) j to) ∈ res l := g2
      have g3' : eB l (gI nil0 o.by9 (iterP (pOf l o.by9) j to)) = iterP (pOf l o.by9) j to := g3
      have hw' : isWay l (gI nil0 o.by9 (iterP (pOf l o.by9) j to)) := hres _ g2'
      have hin' := (ends_in hl hw').2.1
      rw [g3'] at hin'
      unfold zS
      simp only
      rw [if_neg g1', ix_gI nil0 hin'.1 (by rw [hoL.2]; exact hin'.2), Option.bind_some, appc_eq (by
        unfold chainL; simp only [List.length_map, List.length_range, List.length_cons, List.length_nil]; omega), Option.bind_some, Option.bind_some, JQ hl hw', Option.bind_some]
      have e1 : chainL (gI nil0 o.by9) (pOf l o.by9) to (j + 1) = chainL (gI nil0 o.by9) (pOf l o.by9) to j ++ [⟨(gI nil0 o.by9 (iterP (pOf l o.by9) j to)).way, (gI nil0 o.by9 (iterP (pOf l o.by9) j to)).more⟩] := by
        unfold chainL
        rw [List.range_succ, List.map_append]
        rfl
      rw [e1, iterP_succ]
      rfl
    · unfold zS
      have h2' : iterP (pOf l o.by9) k to = src := h2
      simp only
      rw [if_pos h2']
end Go.Proofs.Ws

namespace Go.Proofs.Ws
open Go Go.Fw Go.Gx Go.Sp
structure FL where
  far : List Int
  by_ : List Change
  last : Int
def relaxL (l : List Wy) (s : FL) (c : Change) : FL :=
  if gI 0 s.far (eA l c) + eC l c < gI 0 s.far (eB l c) then ⟨s.far.set (eB l c).toNat (gI 0 s.far (eA l c) + eC l c), s.by_.set (eB l c).toNat c, eB l c⟩ else s
structure F12 (K : Nat) (s : FL) : Prop where
  far : s.far.length = 12
  by_ : s.by_.length = 12
  lo : ∀ x, -(K : Int) ≤ gI 0 s.far x ∧ gI 0 s.far x ≤ 0
def bfOf (s : FL) : BF := ⟨gI 0 s.far, gI nil0 s.by_, s.last⟩
theorem F12.mono {K K' : Nat} {s : FL} (h : F12 K s) (hk : K ≤ K') : F12 K' s := ⟨h.far, h.by_, fun x => by have := h.lo x; omega⟩
theorem relaxL_12 {l : List Wy} (hl : NetOK l) {K : Nat} {s : FL} (h : F12 K s) {c : Change} (hc : isWay l c) : F12 (K + 1) (relaxL l s c) := by
  obtain ⟨h1, h2, h3, h4, h5⟩ := ends_in hl hc
  unfold relaxL
  split
  · rename_i hlt
    refine ⟨by simp [h.far], by simp [h.by_], fun x => ?_⟩
    simp only
    rw [gI_set h2.1 (by rw [h.far]; exact h2.2)]
    unfold upd
    have := h.lo x; have := h.lo (eA l c); have := h.lo (eB l c)
    split <;> omega
  · exact h.mono (by omega)
theorem relaxL_bf {l : List Wy} (hl : NetOK l) {K : Nat} {s : FL} (h : F12 K s) {c : Change} (hc : isWay l c) : bfOf (relaxL l s c) = relax (eA l) (eB l) (eC l) (bfOf s) c := by
  obtain ⟨h1, h2, _⟩ := ends_in hl hc
  unfold relaxL relax bfOf
  split
  · simp only
    rw [gI_set h2.1 (by rw [h.far]; exact h2.2), gI_set h2.1 (by rw [h.by_]; exact h2.2)]
  · rfl
theorem ZW {l : List Wy} (hl : NetOK l) {K : Nat} (hK : K ≤ 100000) {s : FL} (h : F12 K s) {c : Change} (hc : isWay l c) (R : Int) :
    kN c (eA l c) (eB l c) (eC l c) R s.far s.by_ s.last = some ⟨(relaxL l s c).far, (relaxL l s c).by_, (relaxL l s c).last⟩ := by
  obtain ⟨h1, h2, h3, h4, h5⟩ := ends_in hl hc
  have b1 := h.lo (eA l c)
  unfold kN relaxL
  have hf := h.far; have hb := h.by_
  rw [ix_gI 0 h1.1 (by rw [hf]; exact h1.2), Option.bind_some, addc_eq (by omega), Option.bind_some, ix_gI 0 h2.1 (by rw [hf]; exact h2.2), Option.bind_some]
  by_cases hlt : gI 0 s.far (eA l c) + eC l c < gI 0 s.far (eB l c)
  · simp only [hlt, if_true]
    rw [Option.bind_some, addc_eq (by omega), Option.bind_some, Option.bind_some, Option.bind_some, ix_gI nil0 h2.1 (by rw [hb]; exact h2.2), Option.bind_some, Option.bind_some]
  · simp only [hlt, if_false]
theorem foldF_12 {l : List Wy} (hl : NetOK l) : ∀ (L : List Change), (∀ c, c ∈ L → isWay l c) → ∀ {K : Nat} {s : FL}, F12 K s → F12 (K + L.length) (L.foldl (relaxL l) s)
  | [], _, K, s, h => h
  | c :: L, hL, K, s, h => by
    have := foldF_12 hl L (fun d hd => hL d (by simp [hd])) (relaxL_12 hl h (hL c (by simp)))
    rw [List.length_cons, show K + (L.length + 1) = K + 1 + L.length by omega]
    exact this
theorem foldF_bf {l : List Wy} (hl : NetOK l) : ∀ (L : List Change), (∀ c, c ∈ L → isWay l c) → ∀ {K : Nat} {s : FL}, F12 K s → bfOf (L.foldl (relaxL l) s) = L.foldl (relax (eA l) (eB l) (eC l)) (bfOf s)
  | [], _, _, _, _ => rfl
  | c :: L, hL, K, s, h => by
    show bfOf (L.foldl (relaxL l) (relaxL l s c)) = _
    rw [foldF_bf hl L (fun d hd => hL d (by simp [hd])) (relaxL_12 hl h (hL c (by simp))), relaxL_bf hl h (hL c (by simp))]
    rfl
theorem resTo_way {l : List Wy} {k : Nat} (hk : k ≤ l.length) : ∀ c, c ∈ resTo l k → isWay l c := fun c hc => by
  unfold resTo at hc
  obtain ⟨i, hi, h⟩ := List.mem_flatMap.1 hc
  have hi' : i < l.length := by have := List.mem_range.1 hi; omega
  have := (List.mem_filter.1 h).1
  simp only [List.mem_cons, List.not_mem_nil, or_false] at this
  rcases this with rfl | rfl <;> exact way_nat hi' _
theorem resTo_len {l : List Wy} (k : Nat) : (resTo l k).length ≤ 2 * k := by
  induction k with
  | zero => simp [resTo]
  | succ k ih =>
    rw [resTo_succ]
    simp only [List.length_append]
    split <;> split <;> simp <;> omega
theorem Ye {l : List Wy} (hl : NetOK l) {K : Nat} (hK : K ≤ 2000) {s : FL} (h : F12 K s) : yF l s.far s.by_ s.last = some ⟨((res l).foldl (relaxL l) s).far, ((res l).foldl (relaxL l) s).by_, ((res l).foldl (relaxL l) s).last⟩ := by
  unfold yF
  have hlen := hl.1
  have key := iterM_run (f := qh l) (fun k => ⟨(k : Int), ((resTo l k).foldl (relaxL l) s).far, ((resTo l k).foldl (relaxL l) s).by_, ((resTo l k).foldl (relaxL l) s).last⟩) l.length (b := ⟨((res l).foldl (relaxL l) s).far, ((res l).foldl (relaxL l) s).by_, ((res l).foldl (relaxL l) s).last⟩) (fun k hk => ?_) ?_ FU (FU_lt (by omega))
  · simp only [resTo, List.range_zero, List.flatMap_nil, List.foldl_nil] at key
    have e : ((0 : Nat) : Int) = 0 := rfl
    rw [e] at key
    rw [key, Option.bind_some]
  · have h12 := foldF_12 hl (resTo l k) (resTo_way (by omega)) h
    have hrl := resTo_len (l := l) k
    replace h12 := h12.mono (K' := 3000) (by omega)
    generalize hs : (resTo l k).foldl (relaxL l) s = t at h12
    unfold qh
    have hlt : (k : Int) < (l.length : Int) := by omega
    simp only [hlt, if_true]
    have step : ∀ (b : Bool) (u : FL) (K : Nat), K ≤ 100000 → F12 K u → ((qE l (⟨(k : Int), b⟩ : Change)).bind fun t32 => if 0 < t32.r3 then ((kN (⟨(k : Int), b⟩ : Change) t32.r0 t32.r1 t32.r2 t32.r3 u.far u.by_ u.last).bind fun t45 => some (⟨t45.a55_0, t45.a66_0, t45.a77⟩ : qk)) else (some (⟨u.far, u.by_, u.last⟩ : qk))) = some (⟨(if 0 < rm l ⟨(k : Int), b⟩ then relaxL l u ⟨(k : Int), b⟩ else u).far, (if 0 < rm l ⟨(k : Int), b⟩ then relaxL l u ⟨(k : Int), b⟩ else u).by_, (if 0 < rm l ⟨(k : Int), b⟩ then relaxL l u ⟨(k : Int), b⟩ else u).last⟩ : qk) := fun b u K hK hu => by
      rw [JQ hl (way_nat hk b), Option.bind_some]
      by_cases hr : 0 < rm l ⟨(k : Int), b⟩
      · simp only [hr, if_true]
        rw [ZW hl hK hu (way_nat hk b), Option.bind_some]
      · simp only [hr, if_false]
    obtain ⟨u1, hu1⟩ : ∃ u1, u1 = if 0 < rm l ⟨(k : Int), true⟩ then relaxL l t ⟨(k : Int), true⟩ else t := ⟨_, rfl⟩
    obtain ⟨u2, hu2⟩ : ∃ u2, u2 = if 0 < rm l ⟨(k : Int), false⟩ then relaxL l u1 ⟨(k : Int), false⟩ else u1 := ⟨_, rfl⟩
    have hu112 : F12 3001 u1 := by rw [hu1]; split; exact relaxL_12 hl h12 (way_nat hk true); exact h12.mono (by omega)
    have f1 : j9 l ⟨(k : Int), t.far, t.by_, t.last⟩ ⟨0, t.far, t.by_, t.last⟩ = some (.inl ⟨1, u1.far, u1.by_, u1.last⟩) := by
      unfold j9
      simp only [List.length_cons, List.length_nil]
      rw [if_pos (by decide)]
      have e : ix [true, false] (0 : Int) = some true := rfl
      rw [e, Option.bind_some, step true t 3000 (by omega) h12, ← hu1, Option.bind_some]
      rfl
    have f2 : j9 l ⟨(k : Int), t.far, t.by_, t.last⟩ ⟨1, u1.far, u1.by_, u1.last⟩ = some (.inl ⟨2, u2.far, u2.by_, u2.last⟩) := by
      unfold j9
      simp only [List.length_cons, List.length_nil]
      rw [if_pos (by decide)]
      have e : ix [true, false] (1 : Int) = some false := rfl
      rw [e, Option.bind_some, step false u1 3001 (by omega) hu112, ← hu2, Option.bind_some]
      rfl
    have f3 : j9 l ⟨(k : Int), t.far, t.by_, t.last⟩ ⟨2, u2.far, u2.by_, u2.last⟩ = some (.inr ⟨u2.far, u2.by_, u2.last⟩) := by
      unfold j9
      simp only [List.length_cons, List.length_nil]
      rw [if_neg (by decide)]
    have e : FU = (FU - 3) + 1 + 1 + 1 := by unfold FU; rfl
    rw [e, iterM_step f1, iterM_step f2, iterM_done f3, Option.bind_some, addc_eq (by omega), Option.bind_some]
    have hn : (resTo l (k + 1)).foldl (relaxL l) s = u2 := by
      rw [resTo_succ, List.foldl_append, List.foldl_append, hs, hu2, hu1]
      by_cases h1 : 0 < rm l ⟨(k : Int), true⟩ <;> by_cases h2 : 0 < rm l ⟨(k : Int), false⟩ <;> simp [h1, h2]
    rw [hn]
    rfl
  · unfold qh
    simp only [Int.lt_irrefl, if_false]
    rw [resTo_all]
def roundsL (l : List Wy) : Nat → FL
  | 0 => ⟨List.replicate 12 0, List.replicate 12 nil0, -1⟩
  | r + 1 => (res l).foldl (relaxL l) ⟨(roundsL l r).far, (roundsL l r).by_, -1⟩
theorem gI_rep {α : Type} (d : α) (n : Nat) : gI d (List.replicate n d) = fun _ => d := by
  funext x
  unfold gI
  split
  · rw [List.getD_eq_getElem?_getD, List.getElem?_replicate]
    split <;> rfl
  · rfl
theorem roundsL_12 {l : List Wy} (hl : NetOK l) : ∀ r, F12 (82 * r) (roundsL l r)
  | 0 => ⟨by simp [roundsL], by simp [roundsL], fun x => by show _ ≤ gI 0 (List.replicate 12 0) x ∧ gI 0 (List.replicate 12 0) x ≤ 0; rw [gI_rep]; simp⟩
  | r + 1 => by
    have h := roundsL_12 hl r
    have h2 : F12 (82 * r) ⟨(roundsL l r).far, (roundsL l r).by_, -1⟩ := ⟨h.far, h.by_, h.lo⟩
    have h3 := foldF_12 hl (res l) (fun c hc => (res_mem.1 hc).1) h2
    have := res_len l; have := hl.1
    exact h3.mono (by omega)
theorem roundsL_bf {l : List Wy} (hl : NetOK l) : ∀ r, bfOf (roundsL l r) = rounds (eA l) (eB l) (eC l) (res l) (fun _ => nil0) r
  | 0 => by show BF.mk (gI 0 (List.replicate 12 0)) (gI nil0 (List.replicate 12 nil0)) (-1) = _; rw [gI_rep, gI_rep]; rfl
  | r + 1 => by
    have h := roundsL_12 hl r
    have h2 : F12 (82 * r) ⟨(roundsL l r).far, (roundsL l r).by_, -1⟩ := ⟨h.far, h.by_, h.lo⟩
    show bfOf ((res l).foldl (relaxL l) ⟨(roundsL l r).far, (roundsL l r).by_, -1⟩) = round (eA l) (eB l) (eC l) (res l) (rounds (eA l) (eB l) (eC l) (res l) (fun _ => nil0) r)
    rw [foldF_bf hl (res l) (fun c hc => (res_mem.1 hc).1) h2, ← roundsL_bf hl r]
    rfl
theorem pot_of {l : List Wy} {π : Int → Int} (h : ∀ c, c ∈ res l → π (eB l c) ≤ π (eA l c) + eC l c) : Pot π l := by
  intro w hw
  obtain ⟨i, hi, rfl⟩ := List.getElem_of_mem hw
  have e : ∀ m, wy l ⟨(i : Int), m⟩ = l[i] := fun m => by unfold wy; simp [List.getD_eq_getElem?_getD, hi]
  refine ⟨fun h1 => ?_, fun h1 => ?_⟩
  · have := h ⟨(i : Int), true⟩ (res_mem.2 ⟨way_nat hi true, by simp only [rm, if_true, e]; omega⟩)
    simpa [eA, eB, eC, e] using this
  · have := h ⟨(i : Int), false⟩ (res_mem.2 ⟨way_nat hi false, by simp only [rm, Bool.false_eq_true, if_false, e]; omega⟩)
    simp only [eA, eB, eC, e, Bool.false_eq_true, if_false] at this
    omega
def PotB (π : Int → Int) (l : List Wy) : Prop := Pot π l ∧ ∀ v, -1000000 ≤ π v ∧ π v ≤ 0
theorem QL {l : List Wy} (hl : NetOK l) :
    (yR l = some [] ∧ ∃ π : Int → Int, PotB π l) ∨
    ∃ (pre : Int → Change) (y : Int) (k : Nat), yR l = some (chainL pre (fun x => eA l (pre x)) y k) ∧ 0 < k ∧ k ≤ 12 ∧
      (∀ j, j < k → pre (iterP (fun x => eA l (pre x)) j y) ∈ res l ∧ eB l (pre (iterP (fun x => eA l (pre x)) j y)) = iterP (fun x => eA l (pre x)) j y) ∧ iterP (fun x => eA l (pre x)) k y = y ∧
      (∀ j, 0 < j → j < k → iterP (fun x => eA l (pre x)) j y ≠ y) ∧ sumTo (fun j => eC l (pre (iterP (fun x => eA l (pre x)) j y))) k < 0 := by
  have hlen := hl.1
  have hres : ∀ c, c ∈ res l → isWay l c := fun c hc => (res_mem.1 hc).1
  have hin : ∀ c, c ∈ res l → (0 ≤ eA l c ∧ eA l c < 12) ∧ (0 ≤ eB l c ∧ eB l c < 12) ∧ eA l c ≠ eB l c ∧ -1 ≤ eC l c ∧ eC l c ≤ 1 := fun c hc => ends_in hl (hres c hc)
  have h0 : iterM FU (qi l) ⟨0, -1, List.replicate 12 nil0, List.replicate 12 0⟩ = some ⟨(roundsL l 13).last, (roundsL l 13).by_, (roundsL l 13).far⟩ := by
    have key := iterM_run (f := qi l) (fun r => ⟨(r : Int), (roundsL l r).last, (roundsL l r).by_, (roundsL l r).far⟩) 13 (b := ⟨(roundsL l 13).last, (roundsL l 13).by_, (roundsL l 13).far⟩) (fun r hr => ?_) ?_ FU (FU_lt (by omega))
    · exact key
    · unfold qi
      have hlt : (r : Int) < 13 := by omega
      simp only [hlt, if_true]
      have h := roundsL_12 hl r
      have h2 : F12 (82 * r) ⟨(roundsL l r).far, (roundsL l r).by_, -1⟩ := ⟨h.far, h.by_, h.lo⟩
      rw [Ye (K := 82 * r) hl (by omega) h2, Option.bind_some, addc_eq (by omega), Option.bind_some]
      rfl
    · unfold qi
      rfl
  have hb := roundsL_bf hl 13
  have h12 := roundsL_12 hl 13
  generalize roundsL l 13 = s at h0 hb h12
  unfold yR
  rw [h0, Option.bind_some]
  simp only
  by_cases hlast : s.last < 0
  · left
    simp only [hlast, if_true, true_and]
    refine ⟨gI 0 s.far, pot_of ?_, fun v => by have := h12.lo v; omega⟩
    have := rounds_pot (A := eA l) (B := eB l) (C := eC l) (cs := res l) (fun c hc => (hin c hc).2.2.1) (fun c hc => (hin c hc).2.1.1) (fun c hc => (hin c hc).2.2.2.1) (fun _ => nil0) (r := 13) (by omega) (by rw [← hb]; exact hlast)
    rw [← hb] at this
    exact this
  · right
    simp only [hlast, if_false]
    have hloop := rounds_loop (A := eA l) (B := eB l) (C := eC l) (cs := res l) (n := 12) (fun c hc => (hin c hc).2.2.1) (fun c hc => (hin c hc).1) (fun c hc => (hin c hc).2.1) (fun c hc => (hin c hc).2.2.2.1) (fun _ => nil0) (by
      show 0 ≤ (rounds (eA l) (eB l) (eC l) (res l) (fun _ => nil0) 13).last
      rw [← hb]; show 0 ≤ s.last; omega)
    have hb' : bfOf s = rounds (eA l) (eB l) (eC l) (res l) (fun _ => nil0) (12 + 1) := hb
    rw [← hb'] at hloop
    obtain ⟨hall, k, hk0, hk12, hper, hmin, hneg⟩ := hloop
    have ep : Go.Sp.pred (eA l) (bfOf s) = fun x => eA l (gI nil0 s.by_ x) := rfl
    rw [ep] at hall hper hmin hneg
    change ∀ j, gI nil0 s.by_ (iterP (fun x => eA l (gI nil0 s.by_ x)) j s.last) ∈ res l ∧ eB l (gI nil0 s.by_ (iterP (fun x => eA l (gI nil0 s.by_ x)) j s.last)) = iterP (fun x => eA l (gI nil0 s.by_ x)) j s.last at hall
    change iterP (fun x => eA l (gI nil0 s.by_ x)) k (iterP (fun x => eA l (gI nil0 s.by_ x)) 12 s.last) = iterP (fun x => eA l (gI nil0 s.by_ x)) 12 s.last at hper
    change ∀ j, 0 < j → j < k → iterP (fun x => eA l (gI nil0 s.by_ x)) j (iterP (fun x => eA l (gI nil0 s.by_ x)) 12 s.last) ≠ iterP (fun x => eA l (gI nil0 s.by_ x)) 12 s.last at hmin
    change sumTo (fun j => eC l (gI nil0 s.by_ (iterP (fun x => eA l (gI nil0 s.by_ x)) j (iterP (fun x => eA l (gI nil0 s.by_ x)) 12 s.last)))) k < 0 at hneg
    generalize hp : (fun x => eA l (gI nil0 s.by_ x)) = p at hall hper hmin hneg
    have hpx : ∀ x, eA l (gI nil0 s.by_ x) = p x := fun x => congrFun hp x
    have hnode : ∀ j, 0 ≤ iterP p j s.last ∧ iterP p j s.last < 12 := fun j => by
      obtain ⟨g1, g2⟩ := hall j
      have := (hin _ g1).2.1
      rw [g2] at this
      exact this
    have hix : ∀ j, ix s.by_ (iterP p j s.last) = some (gI nil0 s.by_ (iterP p j s.last)) := fun j => ix_gI nil0 (hnode j).1 (by rw [h12.by_]; exact (hnode j).2)
    have hall2 : ∀ j, gI nil0 s.by_ (iterP p j (iterP p 12 s.last)) ∈ res l ∧ eB l (gI nil0 s.by_ (iterP p j (iterP p 12 s.last))) = iterP p j (iterP p 12 s.last) := fun j => by rw [← iterP_add]; exact hall _
    have h1 : iterM FU (ql ⟨s.last, s.by_, s.far⟩ l) ⟨s.last, 0⟩ = some (iterP p 12 s.last) := by
      have key := iterM_run (f := ql ⟨s.last, s.by_, s.far⟩ l) (fun j => ⟨iterP p j s.last, (j : Int)⟩) 12 (b := iterP p 12 s.last) (fun j hj => ?_) ?_ FU (FU_lt (by omega))
      · exact key
      · unfold ql
        have hlt : (j : Int) < 12 := by omega
        simp only [hlt, if_true]
        rw [hix j, Option.bind_some, JQ hl (hres _ (hall j).1), Option.bind_some, addc_eq (by omega), Option.bind_some]
        simp only [hpx, ← iterP_succ]
        rfl
      · unfold ql
        rfl
    rw [h1, Option.bind_some]
    have h2 : iterM FU (k7 ⟨s.last, s.by_, s.far⟩ l (iterP p 12 s.last)) ⟨iterP p 12 s.last, []⟩ = some (.inr (chainL (gI nil0 s.by_) p (iterP p 12 s.last) k)) := by
      have hstep : ∀ j, j < k → k7 ⟨s.last, s.by_, s.far⟩ l (iterP p 12 s.last) ⟨iterP p j (iterP p 12 s.last), chainL (gI nil0 s.by_) p (iterP p 12 s.last) j⟩ = if iterP p (j + 1) (iterP p 12 s.last) = iterP p 12 s.last then some (.inr (.inr (chainL (gI nil0 s.by_) p (iterP p 12 s.last) (j + 1)))) else some (.inl ⟨iterP p (j + 1) (iterP p 12 s.last), chainL (gI nil0 s.by_) p (iterP p 12 s.last) (j + 1)⟩) := fun j hj => by
        unfold k7
        simp only
        have e1 : ix s.by_ (iterP p j (iterP p 12 s.last)) = some (gI nil0 s.by_ (iterP p j (iterP p 12 s.last))) := by rw [← iterP_add]; exact hix _
        rw [e1, Option.bind_some, appc_eq (by unfold chainL; simp only [List.length_map, List.length_range, List.length_cons, List.length_nil]; omega), Option.bind_some, Option.bind_some, JQ hl (hres _ (hall2 j).1), Option.bind_some]
        have e2 : chainL (gI nil0 s.by_) p (iterP p 12 s.last) (j + 1) = chainL (gI nil0 s.by_) p (iterP p 12 s.last) j ++ [gI nil0 s.by_ (iterP p j (iterP p 12 s.last))] := by
          unfold chainL
          rw [List.range_succ, List.map_append]
          rfl
        simp only [hpx, ← iterP_succ, e2]
      have key := iterM_run (f := k7 ⟨s.last, s.by_, s.far⟩ l (iterP p 12 s.last)) (fun j => ⟨iterP p j (iterP p 12 s.last), chainL (gI nil0 s.by_) p (iterP p 12 s.last) j⟩) (k - 1) (b := .inr (chainL (gI nil0 s.by_) p (iterP p 12 s.last) k)) (fun j hj => ?_) ?_ FU (FU_lt (by omega))
      · exact key
      · rw [hstep j (by omega), if_neg (hmin (j + 1) (by omega) (by omega))]
      · rw [hstep (k - 1) (by omega), show k - 1 + 1 = k by omega, if_pos hper]
    rw [h2, Option.bind_some]
    subst hp
    exact ⟨gI nil0 s.by_, iterP (fun x => eA l (gI nil0 s.by_ x)) 12 s.last, k, rfl, hk0, hk12, fun j _ => hall2 j, hper, hmin, hneg⟩
end Go.Proofs.Ws

namespace Go.Proofs.Ws
open Go Go.Fw Go.Gx Go.Sp
theorem makeOK_pre {l : List Wy} {L : List Change} {m : Int} (h : MakeOK l L m) (j : Nat) : MakeOK l (L.take j) m :=
  ⟨fun c hc => h.way c (List.mem_of_mem_take hc), fun c hc => h.room c (List.mem_of_mem_take hc), List.Pairwise.sublist (List.take_sublist j L) h.once⟩
theorem makeL_snoc (l : List Wy) (L : List Change) (c : Change) (m : Int) : makeL l (L ++ [c]) m = adj (makeL l L m) c m := by simp [makeL]
theorem makeL_len : ∀ (L : List Change) (l : List Wy) (m : Int), (makeL l L m).length = l.length
  | [], _, _ => rfl
  | c :: L, l, m => by show (makeL (adj l c m) L m).length = _; rw [makeL_len L, adj_len]
theorem Yo {l : List Wy} (hl : NetOK l) {L : List Change} (hL : L.length ≤ 100000) {most : Int} (h0 : 0 ≤ mostL l L most) (h : MakeOK l L (mostL l L most)) : zw l L most = some (makeL l L (mostL l L most)) := by
  unfold zw
  have k1 : iterM FU (qK L l) ⟨most, 0⟩ = some (mostL l L most) := by
    have key := iterM_run (f := qK L l) (fun j => ⟨mostL l (L.take j) most, (j : Int)⟩) L.length (b := mostL l L most) (fun j hj => ?_) ?_ FU (FU_lt (by omega))
    · exact key
    · unfold qK
      have hlt : (j : Int) < (L.length : Int) := by omega
      simp only [hlt, if_true]
      rw [ix_nat nil0 hj, Option.bind_some]
      have hc : L.getD j nil0 = L[j] := by simp [List.getD_eq_getElem?_getD, hj]
      rw [hc, JQ hl (h.way _ (List.getElem_mem hj)), Option.bind_some, Qw, Option.bind_some, addc_eq (by omega), Option.bind_some]
      have e : L.take (j + 1) = L.take j ++ [L[j]] := by rw [List.take_append_getElem]
      rw [e]
      unfold mostL
      rw [List.foldl_append]
      rfl
    · unfold qK
      simp [mostL]
  rw [k1, Option.bind_some]
  generalize mostL l L most = m at h0 h
  have k2 : iterM FU (qH L m) ⟨0, l⟩ = some (makeL l L m) := by
    have key := iterM_run (f := qH L m) (fun j => ⟨(j : Int), makeL l (L.take j) m⟩) L.length (b := makeL l L m) (fun j hj => ?_) ?_ FU (FU_lt (by omega))
    · exact key
    · unfold qH
      have hlt : (j : Int) < (L.length : Int) := by omega
      simp only [hlt, if_true]
      rw [ix_nat nil0 hj, Option.bind_some]
      have hc : L.getD j nil0 = L[j] := by simp [List.getD_eq_getElem?_getD, hj]
      rw [hc]
      have hw := h.way _ (List.getElem_mem hj)
      have hroom := h.room _ (List.getElem_mem hj)
      have hok := makeL_ok (L.take j) hl h0 (makeOK_pre h j)
      have hw2 : isWay (makeL l (L.take j) m) L[j] := by unfold isWay at *; rw [makeL_len]; exact hw
      have hk := hok.2 _ (wy_mem hw2)
      have hkl := hl.2 _ (wy_mem hw)
      have b1 := hk.goes; have b2 := hk.hi
      have b3 : m ≤ 1000000 := by
        have c1 := hkl.goes; have c2 := hkl.hi; have c3 := hkl.lo
        unfold rm at hroom
        split at hroom <;> omega
      have e : L.take (j + 1) = L.take j ++ [L[j]] := by rw [List.take_append_getElem]
      rw [e, makeL_snoc]
      unfold adj adjW
      cases hmo : (L[j]).more with
      | true =>
        simp only [if_true]
        rw [ix_way hw2, Option.bind_some, addc_eq (by omega), Option.bind_some, Option.bind_some, Option.bind_some, Option.bind_some, addc_eq (by omega), Option.bind_some]
        rfl
      | false =>
        simp only [Bool.false_eq_true, if_false]
        rw [ix_way hw2, Option.bind_some, subc_eq (by omega), Option.bind_some, Option.bind_some, Option.bind_some, Option.bind_some, addc_eq (by omega), Option.bind_some]
        rfl
    · unfold qH
      simp
  rw [k2, Option.bind_some]
def goneP (x : Strip) : Span := ⟨max 0 (x.lay.lo + x.seeded.lo - x.left.hi), x.lay.hi + x.seeded.hi - x.left.lo⟩
def In30 (x : Span) : Prop := 0 ≤ x.lo ∧ x.lo ≤ 30 ∧ 0 ≤ x.hi ∧ x.hi ≤ 30
theorem Yj {x : Strip} (h1 : In30 x.lay) (h2 : In30 x.seeded) (h3 : In30 x.left) : kb x = some (goneP x) := by
  unfold kb goneP
  unfold In30 at *
  rw [addc_eq (by omega), Option.bind_some, subc_eq (by omega), Option.bind_some, addc_eq (by omega), Option.bind_some, subc_eq (by omega), Option.bind_some]
structure NetS (st : List Strip) (ca : List Span) : Prop where
  s6 : st.length ≤ 6
  c5 : ca.length ≤ 5
  sp : ∀ x, x ∈ st → In30 x.lay ∧ In30 x.seeded ∧ In30 x.left ∧ (goneP x).lo ≤ (goneP x).hi
  cp : ∀ x, x ∈ ca → In30 x ∧ x.lo ≤ x.hi
def stripW (g : Nat → Span) (k : Nat) : Wy := ⟨0, 1 + (k : Int), (g k).lo, (g k).hi, 0, 0⟩
def innerW (c : Nat → Nat → Int) (t k : Nat) : Wy := ⟨1 + (k : Int), 7 + (t : Int), 0, 1000000, c t k, 0⟩
def tenW (h : Nat → Span) (t : Nat) : Wy := ⟨7 + (t : Int), 0, (h t).lo, (h t).hi, 0, 0⟩
def tenL (S : Nat) (h : Nat → Span) (R : Nat → Nat → Bool) (c : Nat → Nat → Int) (t : Nat) : List Wy := ((List.range S).filter (R t)).map (innerW c t) ++ [tenW h t]
def laidTo (S : Nat) (g h : Nat → Span) (R : Nat → Nat → Bool) (c : Nat → Nat → Int) (T : Nat) : List Wy := (List.range S).map (stripW g) ++ (List.range T).flatMap (tenL S h R c)
def gOf (st : List Strip) (k : Nat) : Span := goneP (st.getD k default)
def hOf (ca : List Span) (t : Nat) : Span := ca.getD t default
def rOf (mp : List (Pair × Bool)) (t k : Nat) : Bool := (aget mp ⟨(t : Int), (k : Int)⟩).getD false
def cOf (cf : Pair → Option Int) (t k : Nat) : Int := (cf ⟨(t : Int), (k : Int)⟩).getD 0
def laidS (st : List Strip) (ca : List Span) (mp : List (Pair × Bool)) (cf : Pair → Option Int) : List Wy := laidTo st.length (gOf st) (hOf ca) (rOf mp) (cOf cf) ca.length
def CfOK (st : List Strip) (ca : List Span) (cf : Pair → Option Int) : Prop := ∀ t k : Nat, t < ca.length → k < st.length → ∃ c : Int, cf ⟨(t : Int), (k : Int)⟩ = some c ∧ -1 ≤ c ∧ c ≤ 1
theorem filt_len {S : Nat} {p : Nat → Bool} : ((List.range S).filter p).length ≤ S := Nat.le_trans (List.length_filter_le _ _) (by simp)
theorem laidTo_len {S T : Nat} {g h : Nat → Span} {R : Nat → Nat → Bool} {c : Nat → Nat → Int} : (laidTo S g h R c T).length ≤ S + T * (S + 1) := by
  induction T with
  | zero => simp [laidTo]
  | succ T ih =>
    have e : laidTo S g h R c (T + 1) = laidTo S g h R c T ++ tenL S h R c T := by
      unfold laidTo
      rw [List.range_succ, List.flatMap_append, List.append_assoc]
      simp
    rw [e, List.length_append]
    have : (tenL S h R c T).length ≤ S + 1 := by
      unfold tenL
      have := filt_len (S := S) (p := R T)
      simp only [List.length_append, List.length_map, List.length_cons, List.length_nil]; omega
    rw [Nat.add_mul, Nat.one_mul]
    omega
theorem reachL_map (n : Nat) (mp : List (Pair × Bool)) (t : Nat) : reachL n mp (t : Int) = ((List.range n).filter (rOf mp t)).map fun k : Nat => (k : Int) := by
  unfold reachL
  rw [List.filter_map]
  rfl
theorem Zb {st : List Strip} {ca : List Span} (hS : NetS st ca) {mp : List (Pair × Bool)} {cf : Pair → Option Int} (hc : CfOK st ca cf) : Jq st ca mp cf = some (laidS st ca mp cf) := by
  unfold Jq
  have h6 := hS.s6; have h5 := hS.c5
  have k1 : iterM FU (qP st) ⟨0, []⟩ = some ((List.range st.length).map (stripW (gOf st))) := by
    have key := iterM_run (f := qP st) (fun j => ⟨(j : Int), (List.range j).map (stripW (gOf st))⟩) st.length (b := (List.range st.length).map (stripW (gOf st))) (fun j hj => ?_) ?_ FU (FU_lt (by omega))
    · exact key
    · unfold qP
      have hlt : (j : Int) < (st.length : Int) := by omega
      simp only [hlt, if_true]
      have hx : st.getD j default = st[j] := by simp [List.getD_eq_getElem?_getD, hj]
      obtain ⟨b1, b2, b3, b4⟩ := hS.sp _ (List.getElem_mem hj)
      rw [ix_nat default hj, Option.bind_some, hx, addc_eq (by omega), Option.bind_some, Yj b1 b2 b3, Option.bind_some, Option.bind_some, appc_eq (by simp only [List.length_map, List.length_range, List.length_cons, List.length_nil]; omega), Option.bind_some, addc_eq (by omega), Option.bind_some]
      rw [List.range_succ, List.map_append]
      simp only [List.map_cons, List.map_nil, stripW, gOf, hx]
      rfl
    · unfold qP
      simp
  rw [k1, Option.bind_some]
  have k2 : iterM FU (qI ca st cf mp) ⟨0, (List.range st.length).map (stripW (gOf st))⟩ = some (laidS st ca mp cf) := by
    have key := iterM_run (f := qI ca st cf mp) (fun j => ⟨(j : Int), laidTo st.length (gOf st) (hOf ca) (rOf mp) (cOf cf) j⟩) ca.length (b := laidS st ca mp cf) (fun j hj => ?_) ?_ FU (FU_lt (by omega))
    · have e : laidTo st.length (gOf st) (hOf ca) (rOf mp) (cOf cf) 0 = (List.range st.length).map (stripW (gOf st)) := by simp [laidTo]
      rw [← e]
      exact key
    · unfold qI
      have hlt : (j : Int) < (ca.length : Int) := by omega
      have hln : (st.length : Int) ≤ 1000000 := by omega
      simp only [hlt, if_true]
      have hx : ca.getD j default = ca[j] := by simp [List.getD_eq_getElem?_getD, hj]
      have hbound := laidTo_len (S := st.length) (T := j) (g := gOf st) (h := hOf ca) (R := rOf mp) (c := cOf cf)
      have hb2 : (laidTo st.length (gOf st) (hOf ca) (rOf mp) (cOf cf) j).length ≤ 6 + 5 * 7 := by
        have : j * (st.length + 1) ≤ 5 * 7 := Nat.mul_le_mul (by omega) (by omega)
        omega
      rw [ix_nat default hj, Option.bind_some]
      unfold JS
      rw [Option.bind_some, if_pos hln, reachL_map]
      have hstep : ∀ (k : Nat), k < st.length → ∀ (acc : List Wy), acc.length ≤ 1000 → yH ⟨(j : Int), laidTo st.length (gOf st) (hOf ca) (rOf mp) (cOf cf) j⟩ cf (k : Int) acc = some (acc ++ [innerW (cOf cf) j k]) := fun k hkl acc hacc => by
        obtain ⟨c, hcf, hc1, hc2⟩ := hc j k hj hkl
        unfold yH
        simp only
        rw [addc_eq (by omega), Option.bind_some, addc_eq (by omega), Option.bind_some, hcf, Option.bind_some, appc_eq (by simp only [List.length_cons, List.length_nil]; omega), Option.bind_some]
        simp [innerW, cOf, hcf]
      have hinner : ∀ (L : List Nat), (∀ k, k ∈ L → k < st.length) → ∀ (acc : List Wy), acc.length + L.length ≤ 1000 → iterL (yH ⟨(j : Int), laidTo st.length (gOf st) (hOf ca) (rOf mp) (cOf cf) j⟩ cf) (L.map fun k : Nat => (k : Int)) acc = some (acc ++ L.map (innerW (cOf cf) j)) := by
        intro L
        induction L with
        | nil => intro _ acc _; simp [iterL]
        | cons k L ih =>
          intro hk acc hacc
          simp only [List.length_cons] at hacc
          simp only [List.map_cons, iterL]
          rw [hstep k (hk k (by simp)) acc (by omega), Option.bind_some, ih (fun x hx => hk x (by simp [hx])) _ (by simp only [List.length_append, List.length_cons, List.length_nil]; omega)]
          simp
      have hfl := filt_len (S := st.length) (p := rOf mp j)
      rw [hinner _ (fun k hk => by have := (List.mem_filter.1 hk).1; simpa using this) _ (by omega), Option.bind_some, addc_eq (by omega), Option.bind_some, appc_eq (by
        simp only [List.length_append, List.length_map, List.length_cons, List.length_nil]; omega), Option.bind_some, addc_eq (by omega), Option.bind_some]
      have e : laidTo st.length (gOf st) (hOf ca) (rOf mp) (cOf cf) (j + 1) = laidTo st.length (gOf st) (hOf ca) (rOf mp) (cOf cf) j ++ tenL st.length (hOf ca) (rOf mp) (cOf cf) j := by
        unfold laidTo
        rw [List.range_succ, List.flatMap_append, List.append_assoc]
        simp
      rw [e]
      simp only [tenL, tenW, hOf, hx, List.append_assoc]
      rfl
    · unfold qI
      simp [laidS]
  rw [k2, Option.bind_some]
theorem laid_mem {st : List Strip} {ca : List Span} {mp : List (Pair × Bool)} {cf : Pair → Option Int} {w : Wy} (hw : w ∈ laidS st ca mp cf) :
    (∃ k, k < st.length ∧ w = stripW (gOf st) k) ∨ (∃ t k, t < ca.length ∧ k < st.length ∧ rOf mp t k = true ∧ w = innerW (cOf cf) t k) ∨ (∃ t, t < ca.length ∧ w = tenW (hOf ca) t) := by
  unfold laidS laidTo at hw
  rcases List.mem_append.1 hw with hw | hw
  · obtain ⟨k, hk, rfl⟩ := List.mem_map.1 hw
    exact .inl ⟨k, by simpa using hk, rfl⟩
  · obtain ⟨t, ht, hw⟩ := List.mem_flatMap.1 hw
    unfold tenL at hw
    rcases List.mem_append.1 hw with hw | hw
    · obtain ⟨k, hk, rfl⟩ := List.mem_map.1 hw
      obtain ⟨h1, h2⟩ := List.mem_filter.1 hk
      exact .inr (.inl ⟨t, k, by simpa using ht, by simpa using h1, h2, rfl⟩)
    · rw [List.mem_singleton] at hw
      exact .inr (.inr ⟨t, by simpa using ht, hw⟩)
theorem gOf_ok {st : List Strip} {ca : List Span} (hS : NetS st ca) {k : Nat} (hk : k < st.length) : 0 ≤ (gOf st k).lo ∧ (gOf st k).lo ≤ (gOf st k).hi ∧ (gOf st k).hi ≤ 60 := by
  have hx : st.getD k default = st[k] := by simp [List.getD_eq_getElem?_getD, hk]
  obtain ⟨b1, b2, b3, b4⟩ := hS.sp _ (List.getElem_mem hk)
  unfold gOf
  rw [hx]
  unfold In30 at *
  refine ⟨by show 0 ≤ max _ _; omega, b4, by show _ + _ - _ ≤ (60 : Int); omega⟩
theorem hOf_ok {st : List Strip} {ca : List Span} (hS : NetS st ca) {t : Nat} (ht : t < ca.length) : 0 ≤ (hOf ca t).lo ∧ (hOf ca t).lo ≤ (hOf ca t).hi ∧ (hOf ca t).hi ≤ 30 := by
  have hx : ca.getD t default = ca[t] := by simp [List.getD_eq_getElem?_getD, ht]
  obtain ⟨b1, b2⟩ := hS.cp _ (List.getElem_mem ht)
  unfold hOf
  rw [hx]
  unfold In30 at *
  omega
theorem laid_ok {st : List Strip} {ca : List Span} (hS : NetS st ca) {mp : List (Pair × Bool)} {cf : Pair → Option Int} (hc : CfOK st ca cf) : NetOK (laidS st ca mp cf) := by
  have h6 := hS.s6; have h5 := hS.c5
  refine ⟨?_, fun w hw => ?_⟩
  · have := laidTo_len (S := st.length) (T := ca.length) (g := gOf st) (h := hOf ca) (R := rOf mp) (c := cOf cf)
    have h2 : ca.length * (st.length + 1) ≤ 5 * 7 := Nat.mul_le_mul (by omega) (by omega)
    unfold laidS
    omega
  · rcases laid_mem hw with ⟨k, hk, rfl⟩ | ⟨t, k, ht, hk, _, rfl⟩ | ⟨t, ht, rfl⟩
    · have := gOf_ok hS hk
      unfold stripW
      exact ⟨by simp, by simp only; omega, by simp only; omega, by simp, by simp only; omega, by simp only; omega, by simp only; omega⟩
    · obtain ⟨c, hcf, h1, h2⟩ := hc t k ht hk
      have e : cOf cf t k = c := by simp [cOf, hcf]
      unfold innerW
      exact ⟨by simp only; omega, by simp only; omega, by simp only; omega, by simp only [e]; omega, by simp, by simp, by simp⟩
    · have := hOf_ok hS ht
      unfold tenW
      exact ⟨by simp only; omega, by simp, by simp only; omega, by simp, by simp only; omega, by simp only; omega, by simp only; omega⟩
theorem laid_zero {st : List Strip} {ca : List Span} {mp : List (Pair × Bool)} {cf : Pair → Option Int} : Round (laidS st ca mp cf) := fun φ => by
  unfold bal
  rw [sumI_congr (g := fun _ => 0) (fun w hw => ?_), sumI_zero]
  have : w.goes = 0 := by rcases laid_mem hw with ⟨k, hk, rfl⟩ | ⟨t, k, ht, hk, _, rfl⟩ | ⟨t, ht, rfl⟩ <;> rfl
  rw [this, Int.mul_zero]
end Go.Proofs.Ws

namespace Go.Proofs.Ws
open Go Go.Fw Go.Gx Go.Sp
def lackP (st : List Strip) (ca : List Span) (w : Wy) (met : List Bool) : Lack :=
  if w.dst = 0 then ⟨true, filtL (fun t => !gI false met (7 + (t : Int))) ca.length⟩ else ⟨false, filtL (fun k => gI false met (1 + (k : Int))) st.length⟩
theorem filtL_step {p : Nat → Bool} {k : Nat} : filtL p (k + 1) = filtL p k ++ (if p k = true then [(k : Int)] else []) := by
  rw [filtL_succ]; split <;> simp
theorem Zo {st : List Strip} {ca : List Span} (h6 : st.length ≤ 6) (h5 : ca.length ≤ 5) (w : Wy) {met : List Bool} (hm : met.length = 12) : KA st ca w met = some (lackP st ca w met) := by
  unfold KA lackP
  by_cases hw : w.dst = 0
  · simp only [hw, if_true]
    have key := iterM_run (f := zG ca met) (fun j => ⟨(j : Int), filtL (fun t => !gI false met (7 + (t : Int))) j⟩) ca.length (b := filtL (fun t => !gI false met (7 + (t : Int))) ca.length) (fun j hj => ?_) ?_ FU (FU_lt (by omega))
    · have e : (⟨0, []⟩ : zR) = ⟨((0 : Nat) : Int), filtL (fun t => !gI false met (7 + (t : Int))) 0⟩ := rfl
      rw [e, key]
      rfl
    · unfold zG
      have hlt : (j : Int) < (ca.length : Int) := by omega
      simp only [hlt, if_true]
      have hfl := filtL_len (p := fun t : Nat => !gI false met (7 + (t : Int))) (k := j)
      rw [addc_eq (by omega), Option.bind_some, ix_gI false (by omega) (by rw [hm]; omega), Option.bind_some, filtL_step]
      by_cases hb : (!gI false met (7 + (j : Int))) = true
      · simp only [hb, if_true]
        rw [appc_eq (by simp only [List.length_cons, List.length_nil]; omega), Option.bind_some, Option.bind_some, addc_eq (by omega), Option.bind_some]
        rfl
      · simp only [hb, Bool.false_eq_true, if_false]
        rw [Option.bind_some, addc_eq (by omega), Option.bind_some, List.append_nil]
        rfl
    · unfold zG
      simp
  · simp only [hw, if_false]
    have key := iterM_run (f := zI st met) (fun j => ⟨(j : Int), filtL (fun k => gI false met (1 + (k : Int))) j⟩) st.length (b := filtL (fun k => gI false met (1 + (k : Int))) st.length) (fun j hj => ?_) ?_ FU (FU_lt (by omega))
    · have e : (⟨0, []⟩ : zJ) = ⟨((0 : Nat) : Int), filtL (fun k => gI false met (1 + (k : Int))) 0⟩ := rfl
      rw [e, key]
      rfl
    · unfold zI
      have hlt : (j : Int) < (st.length : Int) := by omega
      simp only [hlt, if_true]
      have hfl := filtL_len (p := fun k : Nat => gI false met (1 + (k : Int))) (k := j)
      rw [addc_eq (by omega), Option.bind_some, ix_gI false (by omega) (by rw [hm]; omega), Option.bind_some, filtL_step]
      by_cases hb : gI false met (1 + (j : Int)) = true
      · simp only [hb, if_true]
        rw [appc_eq (by simp only [List.length_cons, List.length_nil]; omega), Option.bind_some, Option.bind_some, addc_eq (by omega), Option.bind_some]
        rfl
      · simp only [hb, Bool.false_eq_true, if_false]
        rw [Option.bind_some, addc_eq (by omega), Option.bind_some, List.append_nil]
        rfl
    · unfold zI
      simp
structure Good (l0 l : List Wy) : Prop where
  same : Same l0 l
  ok : NetOK l
  rnd : Round l
structure Lk (l0 : List Wy) (w : Wy) (met : List Bool) : Prop where
  len : met.length = 12
  ex : ∃ l, Good l0 l ∧ w ∈ l ∧ w.goes < w.lo ∧ gI false met w.dst = true ∧ gI false met w.fr = false ∧ (∀ c, c ∈ res l → gI false met (eA l c) = true → gI false met (eB l c) = true)
theorem chainL_len {pre : Int → Change} {p : Int → Int} {y : Int} {k : Nat} : (chainL pre p y k).length = k := by simp [chainL]
theorem good_make {l0 l : List Wy} (h : Good l0 l) {L : List Change} {m : Int} (h0 : 0 ≤ m) (hm : MakeOK l L m) (hz : ∀ φ : Int → Int, sumI (fun c => φ (eB l c) - φ (eA l c)) L = 0) : Good l0 (makeL l L m) :=
  ⟨h.same.trans (makeL_same L hm), makeL_ok L h.ok h0 hm, fun φ => by rw [makeL_bal φ L hm, h.rnd φ, hz φ, Int.mul_zero]; rfl⟩
def OkTo (l : List Wy) (i : Nat) : Prop := ∀ j w, j < i → l[j]? = some w → w.lo ≤ w.goes
theorem okTo_make {l : List Wy} {i : Nat} (h : OkTo l i) {L : List Change} {m : Int} (h0 : 0 ≤ m) (hm : MakeOK l L m) : OkTo (makeL l L m) i := fun j v hj hv => by
  have hlt : j < l.length := by rw [← makeL_len L l m]; exact (List.getElem?_eq_some_iff.1 hv).1
  exact makeL_least L h0 hm j l[j] v (List.getElem?_eq_getElem hlt) hv (h j _ hj (List.getElem?_eq_getElem hlt))
theorem wy_makeL {l : List Wy} {L : List Change} {m : Int} (h : MakeOK l L m) {c : Change} (hc : c ∈ L) : wy (makeL l L m) c = adjW (wy l c) c.more m := by
  have := makeL_at L h c hc
  show (makeL l L m).getD c.way.toNat default = _
  rw [List.getD_eq_getElem?_getD, this]
  rfl
theorem Y9 {st : List Strip} {ca : List Span} (h6 : st.length ≤ 6) (h5 : ca.length ≤ 5) {l0 l : List Wy} (hg : Good l0 l) {i : Nat} (hi : i < l.length) (hok : OkTo l i) (s : kO) (hs : s.t20 = (i : Int)) :
    ∃ b, iterM FU (qC s st ca) l = some b ∧ ((∃ l', b = .inl l' ∧ Good l0 l' ∧ OkTo l' (i + 1)) ∨ ∃ w met, b = .inr (.inl (lackP st ca w met)) ∧ Lk l0 w met) := by
  have hgi : ∀ l : List Wy, (wy l ⟨(i : Int), true⟩) = l.getD i default := fun l => by unfold wy; simp
  refine iterM_inv (f := qC s st ca) (fun l => Good l0 l ∧ i < l.length ∧ OkTo l i) (fun l => ((wy l ⟨(i : Int), true⟩).lo - (wy l ⟨(i : Int), true⟩).goes).toNat) _ (fun l hl => ?_) FU l (FU_lt ?_) ⟨hg, hi, hok⟩
  · obtain ⟨hg, hi, hok⟩ := hl
    have hw : isWay l ⟨(i : Int), true⟩ := way_nat hi true
    have hix : ix l (i : Int) = some (wy l ⟨(i : Int), true⟩) := ix_way hw
    have hk := hg.ok.2 _ (wy_mem hw)
    unfold qC
    rw [hs, hix, Option.bind_some, Option.bind_some]
    by_cases hlow : (wy l ⟨(i : Int), true⟩).goes < (wy l ⟨(i : Int), true⟩).lo
    · simp only [hlow, if_true]
      rw [Option.bind_some]
      obtain ⟨met, by_, hml, hmsrc, hmcl, hcase⟩ := YA hg.ok (src := (wy l ⟨(i : Int), true⟩).dst) (to := (wy l ⟨(i : Int), true⟩).fr) hk.dst hk.fr
      rcases hcase with ⟨hno, hp⟩ | ⟨hyes, k, d, hp, hk1066, hsrc, hch, hd⟩
      · right
        rw [hp, Option.bind_some]
        simp only [List.isEmpty_nil, if_true]
        rw [Zo h6 h5 _ hml, Option.bind_some]
        exact ⟨_, rfl, .inr ⟨_, met, rfl, ⟨hml, l, hg, wy_mem hw, hlow, hmsrc, hno, hmcl⟩⟩⟩
      · left
        rw [hp, Option.bind_some]
        have hk0 : k ≠ 0 := fun e => by
          subst e
          exact hk.ne hsrc
        have hne : (chainL (gI nil0 by_) (pOf l by_) (wy l ⟨(i : Int), true⟩).fr k).isEmpty = false := by
          cases hc : chainL (gI nil0 by_) (pOf l by_) (wy l ⟨(i : Int), true⟩).fr k with
          | nil => have := chainL_len (pre := gI nil0 by_) (p := pOf l by_) (y := (wy l ⟨(i : Int), true⟩).fr) (k := k); rw [hc] at this; simp at this; omega
          | cons _ _ => rfl
        simp only [hne, Bool.false_eq_true, if_false]
        obtain ⟨m1, m2, m3, m4⟩ := path_make hg.ok hi hlow (pre := gI nil0 by_) (k := k) (d := d) hsrc hch hd ((wy l ⟨(i : Int), true⟩).lo - (wy l ⟨(i : Int), true⟩).goes) (by omega)
        have b1 := hk.goes; have b2 := hk.hi; have b3 := hk.lo
        rw [subc_eq (by omega), Option.bind_some, appc_eq (by rw [chainL_len]; simp only [List.length_cons, List.length_nil]; omega), Option.bind_some]
        have em := Yo hg.ok (L := chainL (gI nil0 by_) (pOf l by_) (wy l ⟨(i : Int), true⟩).fr k ++ [⟨(i : Int), true⟩]) (by rw [List.length_append, chainL_len]; simp only [List.length_cons, List.length_nil]; omega) (most := (wy l ⟨(i : Int), true⟩).lo - (wy l ⟨(i : Int), true⟩).goes) (Int.le_of_lt m1) m3
        rw [em, Option.bind_some]
        refine ⟨_, rfl, ⟨good_make hg (Int.le_of_lt m1) m3 m4, by rw [makeL_len]; exact hi, okTo_make hok (Int.le_of_lt m1) m3⟩, ?_⟩
        have e2 := wy_makeL m3 (c := ⟨(i : Int), true⟩) (by simp)
        change wy (makeL l (chainL (gI nil0 by_) (pOf l by_) (wy l ⟨(i : Int), true⟩).fr k ++ [⟨(i : Int), true⟩]) (mostL l (chainL (gI nil0 by_) (pOf l by_) (wy l ⟨(i : Int), true⟩).fr k ++ [⟨(i : Int), true⟩]) ((wy l ⟨(i : Int), true⟩).lo - (wy l ⟨(i : Int), true⟩).goes))) ⟨(i : Int), true⟩ = adjW (wy l ⟨(i : Int), true⟩) true (mostL l (chainL (gI nil0 by_) (pOf l by_) (wy l ⟨(i : Int), true⟩).fr k ++ [⟨(i : Int), true⟩]) ((wy l ⟨(i : Int), true⟩).lo - (wy l ⟨(i : Int), true⟩).goes)) at e2
        rw [e2]
        have m1' : 0 < mostL l (chainL (gI nil0 by_) (pOf l by_) (wy l ⟨(i : Int), true⟩).fr k ++ [⟨(i : Int), true⟩]) ((wy l ⟨(i : Int), true⟩).lo - (wy l ⟨(i : Int), true⟩).goes) := m1
        simp only [adjW, if_true]
        omega
    · right
      simp only [hlow, if_false]
      refine ⟨_, rfl, .inl ⟨l, rfl, hg, fun j w hj hjw => ?_⟩⟩
      by_cases hji : j = i
      · subst hji
        have : wy l ⟨(j : Int), true⟩ = w := by rw [hgi, List.getD_eq_getElem?_getD, hjw]; rfl
        rw [← this]; omega
      · exact hok j w (by omega) hjw
  · have hk := hg.ok.2 _ (wy_mem (way_nat hi true))
    have := hk.hi; have := hk.goes
    omega
theorem Ym {l0 l : List Wy} (hg : Good l0 l) (hok : OkTo l l.length) : ∃ l', iterM FU qD l = some l' ∧ Good l0 l' ∧ OkTo l' l'.length ∧ ∃ π : Int → Int, PotB π l' := by
  have hbound : ∀ l : List Wy, NetOK l → -41000000 ≤ costs l ∧ costs l ≤ 41000000 := fun l hl => by
    have key : ∀ m : List Wy, (∀ w, w ∈ m → WyOK w) → -(1000000 * (m.length : Int)) ≤ costs m ∧ costs m ≤ 1000000 * (m.length : Int) := by
      intro m
      induction m with
      | nil => intro _; simp [costs, sumI]
      | cons w m ih =>
        intro h
        obtain ⟨i1, i2⟩ := ih (fun x hx => h x (by simp [hx]))
        have hk := h w (by simp)
        have c1 := hk.cost; have c2 := hk.goes; have c3 := hk.hi
        unfold costs at *
        simp only [sumI, List.length_cons]
        have hp : -1000000 ≤ w.cost * w.goes ∧ w.cost * w.goes ≤ 1000000 := by
          have : w.cost = -1 ∨ w.cost = 0 ∨ w.cost = 1 := by omega
          rcases this with h | h | h <;> rw [h] <;> omega
        push_cast
        omega
    have := key l hl.2
    have := hl.1
    omega
  refine iterM_inv (f := qD) (fun l => Good l0 l ∧ OkTo l l.length) (fun l => (costs l + 41000000).toNat) _ (fun l hl => ?_) FU l (FU_lt (by have := hbound l hg.ok; omega)) ⟨hg, hok⟩
  obtain ⟨hg, hok⟩ := hl
  unfold qD
  rcases QL hg.ok with ⟨h1, π, h2⟩ | ⟨pre, y, k, h1, hk0, hk12, hch, hper, hmin, hneg⟩
  · right
    rw [h1, Option.bind_some]
    exact ⟨l, rfl, hg, hok, π, h2⟩
  · left
    rw [h1, Option.bind_some]
    have hne : (chainL pre (fun x => eA l (pre x)) y k).isEmpty = false := by
      cases hc : chainL pre (fun x => eA l (pre x)) y k with
      | nil => have := chainL_len (pre := pre) (p := fun x => eA l (pre x)) (y := y) (k := k); rw [hc] at this; simp at this; omega
      | cons _ _ => rfl
    simp only [hne, Bool.false_eq_true, if_false]
    obtain ⟨m1, m2, m3, m4, m5⟩ := loop_make hk0 hch hper hmin hneg 1000000 (by omega)
    have em := Yo hg.ok (L := chainL pre (fun x => eA l (pre x)) y k) (by rw [chainL_len]; omega) (most := 1000000) (Int.le_of_lt m1) m3
    rw [em, Option.bind_some]
    have hg' := good_make hg (Int.le_of_lt m1) m3 m4
    refine ⟨_, rfl, ⟨hg', by rw [makeL_len]; exact okTo_make hok (Int.le_of_lt m1) m3⟩, ?_⟩
    have hc := makeL_costs _ m3
    have b1 := hbound l hg.ok; have b2 := hbound _ hg'.ok
    have hprod : mostL l (chainL pre (fun x => eA l (pre x)) y k) 1000000 * sumI (fun c => eC l c) (chainL pre (fun x => eA l (pre x)) y k) < 0 := Int.mul_neg_of_pos_of_neg m1 m5
    rw [hc] at b2 ⊢
    omega
theorem okTo_within {l : List Wy} (hl : NetOK l) (h : OkTo l l.length) : Within l := fun w hw => by
  obtain ⟨i, hi, rfl⟩ := List.getElem_of_mem hw
  exact ⟨h i _ hi (List.getElem?_eq_getElem hi), (hl.2 _ hw).goes.2⟩
theorem Yd {st : List Strip} {ca : List Span} (hS : NetS st ca) {mp : List (Pair × Bool)} {cf : Pair → Option Int} (hc : CfOK st ca cf) :
    (∃ l, jW st ca mp cf = some (.inr ⟨⟨false, []⟩, l⟩) ∧ Good (laidS st ca mp cf) l ∧ Within l ∧ ∃ π : Int → Int, PotB π l) ∨
    (∃ w met, jW st ca mp cf = some (.inl (lackP st ca w met)) ∧ Lk (laidS st ca mp cf) w met) := by
  unfold jW
  rw [Zb hS hc, Option.bind_some]
  have hl0 := laid_ok hS (mp := mp) hc
  have hg0 : Good (laidS st ca mp cf) (laidS st ca mp cf) := ⟨Same.refl _, hl0, laid_zero⟩
  generalize laidS st ca mp cf = l0 at hl0 hg0
  have hlen0 := hl0.1
  have hloop : ∃ b, iterM FU (qG l0 st ca) ⟨0, l0⟩ = some b ∧ ((∃ l', b = .inl l' ∧ Good l0 l' ∧ OkTo l' l'.length) ∨ ∃ w met, b = .inr (.inl (lackP st ca w met)) ∧ Lk l0 w met) := by
    refine iterM_inv (f := qG l0 st ca) (fun s => ∃ i : Nat, s.t20 = (i : Int) ∧ i ≤ l0.length ∧ Good l0 s.t12 ∧ OkTo s.t12 i) (fun s => l0.length - s.t20.toNat) _ (fun s hs => ?_) FU _ (FU_lt (by omega)) ⟨0, rfl, Nat.zero_le _, hg0, fun j w hj _ => by omega⟩
    obtain ⟨i, hi, hile, hg, hok⟩ := hs
    have hlen := hg.same.len
    unfold qG
    by_cases hlt : s.t20 < (l0.length : Int)
    · simp only [hlt, if_true]
      obtain ⟨b, hb, hcase⟩ := Y9 hS.s6 hS.c5 hg (i := i) (by omega) hok s hi
      rw [hb, Option.bind_some]
      rcases hcase with ⟨l', rfl, hg', hok'⟩ | ⟨w, met, rfl, hlk⟩
      · left
        simp only [oc_inl]
        rw [addc_eq (by omega), Option.bind_some]
        exact ⟨_, rfl, ⟨i + 1, by simp only; omega, by omega, hg', hok'⟩, by simp only; omega⟩
      · right
        exact ⟨_, rfl, .inr ⟨w, met, rfl, hlk⟩⟩
    · right
      simp only [hlt, if_false]
      refine ⟨_, rfl, .inl ⟨s.t12, rfl, hg, ?_⟩⟩
      have : i = s.t12.length := by omega
      rw [← this]; exact hok
  obtain ⟨b, hb, hcase⟩ := hloop
  rw [hb, Option.bind_some]
  rcases hcase with ⟨l, rfl, hg, hok⟩ | ⟨w, met, rfl, hlk⟩
  · left
    simp only [oc_inl]
    obtain ⟨l', h1, h2, h3, h4⟩ := Ym hg hok
    rw [h1, Option.bind_some]
    exact ⟨l', rfl, h2, okTo_within h2.ok h3, h4⟩
  · right
    exact ⟨w, met, rfl, hlk⟩
end Go.Proofs.Ws

namespace Go.Proofs.Ws
open Go Go.Fw Go.Gx Go.Sp
theorem sumTo_add (f g : Nat → Int) : ∀ k, sumTo (fun j => f j + g j) k = sumTo f k + sumTo g k
  | 0 => rfl
  | k + 1 => by simp only [sumTo]; rw [sumTo_add f g k]; omega
theorem sumTo_mul (c : Int) (f : Nat → Int) : ∀ k, sumTo (fun j => c * f j) k = c * sumTo f k
  | 0 => by simp [sumTo]
  | k + 1 => by simp only [sumTo]; rw [sumTo_mul c f k, Int.mul_add]
theorem sumTo_zero : ∀ k, sumTo (fun _ => 0) k = 0
  | 0 => rfl
  | k + 1 => by simp only [sumTo]; rw [sumTo_zero k]; rfl
theorem sumTo_comm (f : Nat → Nat → Int) : ∀ (m n : Nat), sumTo (fun i => sumTo (f i) n) m = sumTo (fun j => sumTo (fun i => f i j) m) n
  | 0, n => by simp only [sumTo]; rw [sumTo_zero]
  | m + 1, n => by simp only [sumTo]; rw [sumTo_comm f m n, sumTo_add]
theorem sumTo_one {f : Nat → Int} {k0 : Nat} : ∀ {n : Nat}, k0 < n → sumTo (fun k => if k = k0 then f k else 0) n = f k0
  | 0, h => by omega
  | n + 1, h => by
    simp only [sumTo]
    by_cases hk : k0 = n
    · subst hk
      rw [sumTo_congr (g := fun _ => 0) (fun j hj => by rw [if_neg (by omega)]), sumTo_zero]
      simp
    · rw [sumTo_one (n := n) (by omega), if_neg (by omega)]; omega
theorem sumTo_nonneg {f : Nat → Int} {n : Nat} (h : ∀ j, j < n → 0 ≤ f j) : 0 ≤ sumTo f n := by
  have := sumTo_le (f := fun _ => 0) (g := f) (k := n) h
  rwa [sumTo_zero] at this
theorem sumTo_mem_le {f : Nat → Int} : ∀ {n j : Nat}, (∀ j, j < n → 0 ≤ f j) → j < n → f j ≤ sumTo f n
  | 0, j, _, hj => by omega
  | n + 1, j, h, hj => by
    simp only [sumTo]
    by_cases hjn : j = n
    · subst hjn
      have := sumTo_nonneg (f := f) (n := j) (fun i hi => h i (by omega)); omega
    · have := sumTo_mem_le (f := f) (n := n) (j := j) (fun i hi => h i (by omega)) (by omega)
      have := h n (by omega); omega
theorem sumI_filter (p : Nat → Bool) (F : Nat → Int) : ∀ n, sumI F ((List.range n).filter p) = sumTo (fun k => if p k = true then F k else 0) n
  | 0 => rfl
  | n + 1 => by
    rw [List.range_succ, List.filter_append, sumI_append, sumI_filter p F n]
    simp only [sumTo, List.filter_cons, List.filter_nil]
    split <;> simp [sumI]
def laidG (S : Nat) (g h : Nat → Span) (R : Nat → Nat → Bool) (c : Nat → Nat → Int) (gs : Nat → Int) (ys : Nat → Nat → Int) (zs : Nat → Int) (T : Nat) : List Wy :=
  (List.range S).map (fun k => { stripW g k with goes := gs k }) ++ (List.range T).flatMap fun t => ((List.range S).filter (R t)).map (fun k => { innerW c t k with goes := ys t k }) ++ [{ tenW h t with goes := zs t }]
theorem same_split {a b l : List Wy} (h : Same (a ++ b) l) : ∃ la lb, l = la ++ lb ∧ Same a la ∧ Same b lb := by
  unfold Same at h
  rw [List.map_append] at h
  obtain ⟨la, lb, h1, h2, h3⟩ := List.map_eq_append_iff.1 h.symm
  exact ⟨la, lb, h1, h2.symm, h3.symm⟩
theorem same_map {f : Nat → Wy} : ∀ {L : List Nat}, L.Nodup → ∀ {l : List Wy}, Same (L.map f) l → ∃ gs : Nat → Int, l = L.map fun k => { f k with goes := gs k }
  | [], _, l, h => ⟨fun _ => 0, List.length_eq_zero_iff.1 (by have := h.len; simpa using this.symm)⟩
  | k :: L, hn, [], h => by have := h.len; simp at this
  | k :: L, hn, w :: l, h => by
    obtain ⟨h1, h2⟩ := h.cons
    obtain ⟨n1, n2⟩ := List.nodup_cons.1 hn
    obtain ⟨gs, hgs⟩ := same_map n2 h2
    refine ⟨fun x => if x = k then w.goes else gs x, ?_⟩
    simp only [List.map_cons, if_true]
    congr 1
    · obtain ⟨e1, e2, e3, e4, e5⟩ := base_eq h1
      cases w; simp_all
    · rw [hgs]
      refine List.map_congr_left fun x hx => ?_
      rw [if_neg (show ¬ x = k from fun e => n1 (by rw [← e]; exact hx))]
theorem range_nodup (n : Nat) : (List.range n).Nodup := List.nodup_range
theorem same_laid {S T : Nat} {g h : Nat → Span} {R : Nat → Nat → Bool} {c : Nat → Nat → Int} {l : List Wy} (hs : Same (laidTo S g h R c T) l) : ∃ gs ys zs, l = laidG S g h R c gs ys zs T := by
  obtain ⟨la, lb, rfl, h1, h2⟩ := same_split hs
  obtain ⟨gs, rfl⟩ := same_map (range_nodup S) h1
  have key : ∀ T, ∀ lb, Same ((List.range T).flatMap (tenL S h R c)) lb → ∃ (ys : Nat → Nat → Int) (zs : Nat → Int), lb = (List.range T).flatMap fun t => ((List.range S).filter (R t)).map (fun k => { innerW c t k with goes := ys t k }) ++ [{ tenW h t with goes := zs t }] := by
    intro T
    induction T with
    | zero => intro lb h; exact ⟨fun _ _ => 0, fun _ => 0, List.length_eq_zero_iff.1 (by have := h.len; simpa using this.symm)⟩
    | succ T ih =>
      intro lb hlb
      rw [List.range_succ, List.flatMap_append] at hlb
      obtain ⟨l1, l2, rfl, g1, g2⟩ := same_split hlb
      obtain ⟨ys, zs, rfl⟩ := ih l1 g1
      simp only [List.flatMap_cons, List.flatMap_nil, List.append_nil] at g2
      unfold tenL at g2
      obtain ⟨l3, l4, rfl, g3, g4⟩ := same_split g2
      obtain ⟨y, rfl⟩ := same_map ((range_nodup S).filter _) g3
      have e4 : [tenW h T] = ([T] : List Nat).map (tenW h) := rfl
      rw [e4] at g4
      obtain ⟨z, rfl⟩ := same_map (show ([T] : List Nat).Nodup by simp) g4
      refine ⟨fun t => if t = T then y else ys t, fun t => if t = T then z T else zs t, ?_⟩
      rw [List.range_succ, List.flatMap_append]
      congr 1
      · rw [List.flatMap_def, List.flatMap_def]
        congr 1
        refine List.map_congr_left fun t ht => ?_
        have : t ≠ T := by have := List.mem_range.1 ht; omega
        simp only [this, if_false]
      · simp
  obtain ⟨ys, zs, rfl⟩ := key T lb h2
  exact ⟨gs, ys, zs, rfl⟩
theorem laidG_same {S T : Nat} {g h : Nat → Span} {R : Nat → Nat → Bool} {c : Nat → Nat → Int} {gs : Nat → Int} {ys : Nat → Nat → Int} {zs : Nat → Int} : Same (laidTo S g h R c T) (laidG S g h R c gs ys zs T) := by
  unfold Same laidTo laidG tenL
  rw [List.map_append, List.map_append, List.map_flatMap, List.map_flatMap]
  congr 1
  · rw [List.map_map, List.map_map]; rfl
  · rw [List.flatMap_def, List.flatMap_def]
    congr 1
    refine List.map_congr_left fun t _ => ?_
    rw [List.map_append, List.map_append, List.map_map, List.map_map]
    rfl
theorem sumI_flat {α : Type} (F : α → Int) (f : Nat → List α) : ∀ n, sumI F ((List.range n).flatMap f) = sumTo (fun t => sumI F (f t)) n
  | 0 => rfl
  | n + 1 => by
    rw [List.range_succ, List.flatMap_append, sumI_append, sumI_flat F f n]
    simp [sumTo, sumI]
def Yr (R : Nat → Nat → Bool) (ys : Nat → Nat → Int) (t k : Nat) : Int := if R t k = true then ys t k else 0
theorem bal_laidG {S T : Nat} {g h : Nat → Span} {R : Nat → Nat → Bool} {c : Nat → Nat → Int} {gs : Nat → Int} {ys : Nat → Nat → Int} {zs : Nat → Int} (φ : Int → Int) :
    bal φ (laidG S g h R c gs ys zs T) = sumTo (fun k => (φ (1 + (k : Int)) - φ 0) * gs k) S + sumTo (fun t => sumTo (fun k => (φ (7 + (t : Int)) - φ (1 + (k : Int))) * Yr R ys t k) S + (φ 0 - φ (7 + (t : Int))) * zs t) T := by
  unfold bal laidG
  rw [sumI_append, sumI_map, sumI_flat]
  congr 1
  · have := sumI_range (fun k : Nat => (φ (1 + (k : Int)) - φ 0) * gs k) (fun k => k) S
    simp only [List.map_id'] at this
    exact this
  · refine sumTo_congr fun t _ => ?_
    rw [sumI_append, sumI_map, sumI_filter]
    congr 1
    · refine sumTo_congr fun k _ => ?_
      unfold Yr
      split
      · rfl
      · rw [Int.mul_zero]
    · simp [sumI, tenW]
theorem costs_laidG {S T : Nat} {g h : Nat → Span} {R : Nat → Nat → Bool} {c : Nat → Nat → Int} {gs : Nat → Int} {ys : Nat → Nat → Int} {zs : Nat → Int} :
    costs (laidG S g h R c gs ys zs T) = sumTo (fun t => sumTo (fun k => c t k * Yr R ys t k) S) T := by
  unfold costs laidG
  rw [sumI_append, sumI_map, sumI_flat]
  have e : sumI (fun x : Nat => ({ stripW g x with goes := gs x } : Wy).cost * ({ stripW g x with goes := gs x } : Wy).goes) (List.range S) = 0 := by
    rw [sumI_congr (g := fun _ => 0) (fun x _ => by simp [stripW]), sumI_zero]
  rw [e, Int.zero_add]
  refine sumTo_congr fun t _ => ?_
  rw [sumI_append, sumI_map, sumI_filter]
  have e2 : sumI (fun w : Wy => w.cost * w.goes) [{ tenW h t with goes := zs t }] = 0 := by simp [sumI, tenW]
  rw [e2, Int.add_zero]
  refine sumTo_congr fun k _ => ?_
  unfold Yr
  split
  · rfl
  · rw [Int.mul_zero]
theorem round_sums {S T : Nat} (hS : S ≤ 6) {g h : Nat → Span} {R : Nat → Nat → Bool} {c : Nat → Nat → Int} {gs : Nat → Int} {ys : Nat → Nat → Int} {zs : Nat → Int} (hr : Round (laidG S g h R c gs ys zs T)) :
    (∀ k, k < S → gs k = sumTo (fun t => Yr R ys t k) T) ∧ (∀ t, t < T → zs t = sumTo (fun k => Yr R ys t k) S) := by
  constructor
  · intro k0 hk0
    have := hr (fun v => if v = 1 + (k0 : Int) then 1 else 0)
    rw [bal_laidG] at this
    have e1 : sumTo (fun k => ((if (1 + (k : Int)) = 1 + (k0 : Int) then (1 : Int) else 0) - (if (0 : Int) = 1 + (k0 : Int) then 1 else 0)) * gs k) S = gs k0 := by
      rw [← sumTo_one (f := gs) hk0]
      refine sumTo_congr fun k _ => ?_
      rw [if_neg (show ¬ (0 : Int) = 1 + (k0 : Int) by omega)]
      by_cases hk : k = k0
      · subst hk; simp
      · rw [if_neg (by omega), if_neg hk]; simp
    have e2 : sumTo (fun t => sumTo (fun k => ((if (7 + (t : Int)) = 1 + (k0 : Int) then (1 : Int) else 0) - (if (1 + (k : Int)) = 1 + (k0 : Int) then 1 else 0)) * Yr R ys t k) S + ((if (0 : Int) = 1 + (k0 : Int) then (1 : Int) else 0) - (if (7 + (t : Int)) = 1 + (k0 : Int) then 1 else 0)) * zs t) T = - sumTo (fun t => Yr R ys t k0) T := by
      rw [← Int.neg_one_mul, ← sumTo_mul]
      refine sumTo_congr fun t _ => ?_
      rw [if_neg (show ¬ (7 + (t : Int)) = 1 + (k0 : Int) by omega), if_neg (show ¬ (0 : Int) = 1 + (k0 : Int) by omega)]
      have : sumTo (fun k => ((0 : Int) - (if (1 + (k : Int)) = 1 + (k0 : Int) then 1 else 0)) * Yr R ys t k) S = -1 * Yr R ys t k0 := by
        rw [← sumTo_one (f := fun k => -1 * Yr R ys t k) hk0]
        refine sumTo_congr fun k _ => ?_
        by_cases hk : k = k0
        · subst hk; simp
        · rw [if_neg (by omega), if_neg hk]; simp
      rw [this]; omega
    rw [e1, e2] at this
    omega
  · intro t0 ht0
    have := hr (fun v => if v = 7 + (t0 : Int) then 1 else 0)
    rw [bal_laidG] at this
    have e1 : sumTo (fun k => ((if (1 + (k : Int)) = 7 + (t0 : Int) then (1 : Int) else 0) - (if (0 : Int) = 7 + (t0 : Int) then 1 else 0)) * gs k) S = 0 := by
      rw [sumTo_congr (g := fun _ => 0) (fun k hk => by rw [if_neg (show ¬ (1 + (k : Int)) = 7 + (t0 : Int) by omega), if_neg (show ¬ (0 : Int) = 7 + (t0 : Int) by omega)]; simp), sumTo_zero]
    have e2 : sumTo (fun t => sumTo (fun k => ((if (7 + (t : Int)) = 7 + (t0 : Int) then (1 : Int) else 0) - (if (1 + (k : Int)) = 7 + (t0 : Int) then 1 else 0)) * Yr R ys t k) S + ((if (0 : Int) = 7 + (t0 : Int) then (1 : Int) else 0) - (if (7 + (t : Int)) = 7 + (t0 : Int) then 1 else 0)) * zs t) T = sumTo (fun k => Yr R ys t0 k) S - zs t0 := by
      rw [← sumTo_one (f := fun t => sumTo (fun k => Yr R ys t k) S - zs t) ht0]
      refine sumTo_congr fun t _ => ?_
      rw [if_neg (show ¬ (0 : Int) = 7 + (t0 : Int) by omega)]
      by_cases ht : t = t0
      · subst ht
        simp only [if_true]
        rw [sumTo_congr (g := fun k => Yr R ys t k) (fun k hk => by rw [if_neg (show ¬ (1 + (k : Int)) = 7 + (t : Int) by omega)]; omega)]
        omega
      · rw [if_neg (show ¬ (7 + (t : Int)) = 7 + (t0 : Int) by omega), if_neg ht, sumTo_congr (g := fun _ => 0) (fun k hk => by rw [if_neg (show ¬ (1 + (k : Int)) = 7 + (t0 : Int) by omega)]; simp), sumTo_zero]
        simp
    rw [e1, e2] at this
    omega
theorem sums_round {S T : Nat} {g h : Nat → Span} {R : Nat → Nat → Bool} {c : Nat → Nat → Int} {gs : Nat → Int} {ys : Nat → Nat → Int} {zs : Nat → Int} (h1 : ∀ k, k < S → gs k = sumTo (fun t => Yr R ys t k) T) (h2 : ∀ t, t < T → zs t = sumTo (fun k => Yr R ys t k) S) : Round (laidG S g h R c gs ys zs T) := fun φ => by
  rw [bal_laidG]
  have e1 : sumTo (fun k => (φ (1 + (k : Int)) - φ 0) * gs k) S = sumTo (fun t => sumTo (fun k => (φ (1 + (k : Int)) - φ 0) * Yr R ys t k) S) T := by
    rw [sumTo_comm]
    refine sumTo_congr fun k hk => ?_
    rw [h1 k hk, sumTo_mul]
  rw [e1, ← sumTo_add]
  refine (sumTo_congr (g := fun _ => 0) fun t ht => ?_).trans (sumTo_zero T)
  rw [h2 t ht, ← sumTo_mul, ← sumTo_add, ← sumTo_add]
  refine (sumTo_congr (g := fun _ => 0) fun k hk => ?_).trans (sumTo_zero _)
  rw [← Int.add_mul, ← Int.add_mul]
  rw [show φ (1 + (k : Int)) - φ 0 + (φ (7 + (t : Int)) - φ (1 + (k : Int)) + (φ 0 - φ (7 + (t : Int)))) = 0 by omega, Int.zero_mul]
structure FitsY (st : List Strip) (ca : List Span) (mp : List (Pair × Bool)) (y : Nat → Nat → Int) : Prop where
  pos : ∀ t k, t < ca.length → k < st.length → 0 ≤ y t k ∧ (0 < y t k → rOf mp t k = true)
  ten : ∀ t, t < ca.length → (hOf ca t).lo ≤ sumTo (fun k => y t k) st.length ∧ sumTo (fun k => y t k) st.length ≤ (hOf ca t).hi
  str : ∀ k, k < st.length → (gOf st k).lo ≤ sumTo (fun t => y t k) ca.length ∧ sumTo (fun t => y t k) ca.length ≤ (gOf st k).hi
def countY (st : List Strip) (ca : List Span) (c y : Nat → Nat → Int) : Int := sumTo (fun t => sumTo (fun k => c t k * y t k) st.length) ca.length
theorem net_shares {st : List Strip} {ca : List Span} (hS : NetS st ca) {mp : List (Pair × Bool)} {cf : Pair → Option Int} {l : List Wy} (hg : Good (laidS st ca mp cf) l) (hw : Within l) :
    ∃ gs ys zs, l = laidG st.length (gOf st) (hOf ca) (rOf mp) (cOf cf) gs ys zs ca.length ∧ FitsY st ca mp (Yr (rOf mp) ys) ∧ costs l = countY st ca (cOf cf) (Yr (rOf mp) ys) := by
  obtain ⟨gs, ys, zs, rfl⟩ := same_laid hg.same
  refine ⟨gs, ys, zs, rfl, ?_, costs_laidG⟩
  obtain ⟨h1, h2⟩ := round_sums hS.s6 hg.rnd
  refine ⟨fun t k ht hk => ?_, fun t ht => ?_, fun k hk => ?_⟩
  · unfold Yr
    split
    · rename_i hr
      have hm : ({ innerW (cOf cf) t k with goes := ys t k } : Wy) ∈ laidG st.length (gOf st) (hOf ca) (rOf mp) (cOf cf) gs ys zs ca.length := by
        unfold laidG
        refine List.mem_append_right _ (List.mem_flatMap.2 ⟨t, List.mem_range.2 ht, List.mem_append_left _ (List.mem_map.2 ⟨k, List.mem_filter.2 ⟨List.mem_range.2 hk, hr⟩, rfl⟩)⟩)
      have := (hw _ hm).1
      exact ⟨this, fun _ => hr⟩
    · exact ⟨Int.le_refl _, fun h => absurd h (Int.lt_irrefl _)⟩
  · rw [← h2 t ht]
    have hm : ({ tenW (hOf ca) t with goes := zs t } : Wy) ∈ laidG st.length (gOf st) (hOf ca) (rOf mp) (cOf cf) gs ys zs ca.length := by
      unfold laidG
      exact List.mem_append_right _ (List.mem_flatMap.2 ⟨t, List.mem_range.2 ht, List.mem_append_right _ (by simp)⟩)
    exact hw _ hm
  · rw [← h1 k hk]
    have hm : ({ stripW (gOf st) k with goes := gs k } : Wy) ∈ laidG st.length (gOf st) (hOf ca) (rOf mp) (cOf cf) gs ys zs ca.length := by
      unfold laidG
      exact List.mem_append_left _ (List.mem_map.2 ⟨k, List.mem_range.2 hk, rfl⟩)
    exact hw _ hm
theorem shares_net {st : List Strip} {ca : List Span} (hS : NetS st ca) {mp : List (Pair × Bool)} {cf : Pair → Option Int} {y : Nat → Nat → Int} (hy : FitsY st ca mp y) :
    ∃ l, Same (laidS st ca mp cf) l ∧ Round l ∧ Within l ∧ costs l = countY st ca (cOf cf) y := by
  have hYr : ∀ t k, t < ca.length → k < st.length → Yr (rOf mp) y t k = y t k := fun t k ht hk => by
    unfold Yr
    split
    · rfl
    · rename_i hr
      have := hy.pos t k ht hk
      by_cases h0 : 0 < y t k
      · exact absurd (this.2 h0) hr
      · omega
  refine ⟨laidG st.length (gOf st) (hOf ca) (rOf mp) (cOf cf) (fun k => sumTo (fun t => y t k) ca.length) y (fun t => sumTo (fun k => y t k) st.length) ca.length, laidG_same, ?_, fun w hw => ?_, ?_⟩
  · exact sums_round (fun k hk => sumTo_congr fun t ht => (hYr t k ht hk).symm) (fun t ht => sumTo_congr fun k hk => (hYr t k ht hk).symm)
  · unfold laidG at hw
    rcases List.mem_append.1 hw with hw | hw
    · obtain ⟨k, hk, rfl⟩ := List.mem_map.1 hw
      exact hy.str k (by simpa using hk)
    · obtain ⟨t, ht, hw⟩ := List.mem_flatMap.1 hw
      have ht' : t < ca.length := by simpa using ht
      rcases List.mem_append.1 hw with hw | hw
      · obtain ⟨k, hk, rfl⟩ := List.mem_map.1 hw
        have hk' : k < st.length := by have := (List.mem_filter.1 hk).1; simpa using this
        have h1 := hy.pos t k ht' hk'
        have h2 := hy.ten t ht'
        have h3 := hOf_ok hS ht'
        have h4 := sumTo_mem_le (f := fun k => y t k) (n := st.length) (j := k) (fun j hj => (hy.pos t j ht' hj).1) hk'
        refine ⟨h1.1, ?_⟩
        show y t k ≤ 1000000
        omega
      · rw [List.mem_singleton] at hw
        subst hw
        exact hy.ten t ht'
  · rw [costs_laidG]
    unfold countY
    refine sumTo_congr fun t ht => sumTo_congr fun k hk => ?_
    rw [hYr t k ht hk]
theorem net_least {st : List Strip} {ca : List Span} (hS : NetS st ca) {mp : List (Pair × Bool)} {cf : Pair → Option Int} {l : List Wy} (hg : Good (laidS st ca mp cf) l) {π : Int → Int} (hp : Pot π l) {y : Nat → Nat → Int} (hy : FitsY st ca mp y) : costs l ≤ countY st ca (cOf cf) y := by
  obtain ⟨l', h1, h2, h3, h4⟩ := shares_net hS (cf := cf) hy
  rw [← h4]
  exact Pot.least (hg.same.symm.trans h1) hp hg.rnd h3 h2
theorem lk_cut {l0 : List Wy} {w : Wy} {met : List Bool} (h : Lk l0 w met) : 0 < gap (gI false met) l0 := by
  obtain ⟨l, hg, hw, hlow, hd, hf, hcl⟩ := h.ex
  have hcut : Cut (gI false met) l := fun v hv => by
    obtain ⟨i, hi, rfl⟩ := List.getElem_of_mem hv
    have e : ∀ m, wy l ⟨(i : Int), m⟩ = l[i] := fun m => by unfold wy; simp [List.getD_eq_getElem?_getD, hi]
    refine ⟨fun h1 h2 => ?_, fun h1 h2 => ?_⟩
    · by_cases hlt : (l[i]).hi ≤ (l[i]).goes
      · exact hlt
      · have := hcl ⟨(i : Int), true⟩ (res_mem.2 ⟨way_nat hi true, by simp only [rm, if_true, e]; omega⟩) (by simpa [eA, e] using h1)
        simp only [eB, if_true, e] at this
        rw [h2] at this; cases this
    · by_cases hlt : (l[i]).goes ≤ (l[i]).lo
      · exact hlt
      · have := hcl ⟨(i : Int), false⟩ (res_mem.2 ⟨way_nat hi false, by simp only [rm, Bool.false_eq_true, if_false, e]; omega⟩) (by simpa [eA, e] using h2)
        simp only [eB, Bool.false_eq_true, if_false, e] at this
        rw [h1] at this; cases this
  have := hcut.gap hg.rnd hw hf hd hlow
  rwa [← gap_same hg.same] at this
theorem lk_none {st : List Strip} {ca : List Span} (hS : NetS st ca) {mp : List (Pair × Bool)} {cf : Pair → Option Int} {w : Wy} {met : List Bool} (h : Lk (laidS st ca mp cf) w met) {y : Nat → Nat → Int} (hy : FitsY st ca mp y) : False := by
  obtain ⟨l', h1, h2, h3, _⟩ := shares_net hS (cf := cf) hy
  have := lk_cut h
  rw [gap_same h1] at this
  have := gap_le (S := gI false met) h2 h3
  omega
end Go.Proofs.Ws

namespace Go.Gx
open Go
theorem any_loop {α : Type} (l : List α) (d : α) (p : α → Option Bool) (hp : α → Bool) (hl : l.length < 1000000000000) (h : ∀ x, x ∈ l → p x = some (hp x)) {f : Int → Option (Int ⊕ (Unit ⊕ Int))}
    (hf : ∀ s, f s = if s < (l.length : Int) then ((ix l s).bind fun x => (p x).bind fun b => if b = true then (some (.inr (.inr s))) else ((addc s 1).bind fun k => some (.inl k))) else some (.inr (.inl ()))) :
    (((iterM FU f 0).bind fun o => oc o (fun _ => (some (-1) : Option Int)) (fun r => some r)).bind fun t => some (decide (0 ≤ t))) = some (l.any hp) := by
  refine contains_loop (f := f) l d hp hl (fun k hk => ?_) ?_
  · rw [hf, if_pos (by omega), ix_nat d hk, Option.bind_some, h _ (by simp [List.getD_eq_getElem?_getD, hk]), Option.bind_some, addc_eq (by omega), Option.bind_some]
    split <;> rfl
  · rw [hf, if_neg (by omega)]
end Go.Gx
namespace Go.Proofs.Ws
open Go Go.Fw Go.Gx Go.Sp
def inb (n lo hi : Int) : Bool := decide (lo ≤ n) && decide (n ≤ hi)
theorem K5 (n lo hi : Int) : Kv n lo hi = some (inb n lo hi) := by
  unfold Kv inb
  by_cases h : lo ≤ n
  · simp [h]
  · simp [h]
theorem inb_iff {n lo hi : Int} : inb n lo hi = true ↔ lo ≤ n ∧ n ≤ hi := by simp [inb]
def okSp (x : Span) : Bool := inb x.lo 0 30 && inb x.hi 0 30
theorem okSp_iff {x : Span} : okSp x = true ↔ In30 x := by
  unfold okSp In30
  rw [Bool.and_eq_true, inb_iff, inb_iff]
  constructor
  · rintro ⟨⟨a, b⟩, c, d⟩; exact ⟨a, b, c, d⟩
  · rintro ⟨a, b, c, d⟩; exact ⟨⟨a, b⟩, c, d⟩
theorem Yt (x : Span) : zt x = some (okSp x) := by
  unfold zt okSp
  rw [K5, Option.bind_some]
  by_cases h : inb x.lo 0 30 = true
  · rw [if_pos h, K5, h]; rfl
  · rw [if_neg h]
    have : inb x.lo 0 30 = false := by simpa using h
    rw [this]; rfl
def spansOf (s : Scalps) : List Span := s.carried ++ s.strips.flatMap fun x => [x.lay, x.seeded, x.left]
theorem flat3_len {l : List Strip} : (l.flatMap fun x => [x.lay, x.seeded, x.left]).length = 3 * l.length := by
  induction l with
  | nil => rfl
  | cons x l ih => rw [List.flatMap_cons, List.length_append, ih]; simp; omega
theorem YY {s : Scalps} (h6 : s.strips.length ≤ 6) (h1 : 1 ≤ s.carried.length) (h5 : s.carried.length ≤ 5) : kP s = some (spansOf s) := by
  unfold kP z8
  rw [if_pos (by omega), appc_eq (by simp; omega), Option.bind_some, Option.bind_some]
  have key := iterM_run (f := kC s) (fun j => ⟨(j : Int), s.carried ++ (s.strips.take j).flatMap fun x => [x.lay, x.seeded, x.left]⟩) s.strips.length (b := spansOf s) (fun j hj => ?_) ?_ FU (FU_lt (by omega))
  · simp only [List.take_zero, List.flatMap_nil, List.append_nil] at key
    rw [List.nil_append]
    rw [show (0 : Int) = ((0 : Nat) : Int) from rfl, key, Option.bind_some]
  · unfold kC
    have hlt : (j : Int) < (s.strips.length : Int) := by omega
    simp only [hlt, if_true]
    have hx : s.strips.getD j default = s.strips[j] := by simp [List.getD_eq_getElem?_getD, hj]
    rw [ix_nat default hj, Option.bind_some, hx, appc_eq (by
      have := flat3_len (l := s.strips.take j)
      rw [List.length_take] at this
      simp only [List.length_append, List.length_cons, List.length_nil]; omega), Option.bind_some, addc_eq (by omega), Option.bind_some]
    have e : s.strips.take (j + 1) = s.strips.take j ++ [s.strips[j]] := by rw [List.take_append_getElem]
    rw [e, List.flatMap_append, List.append_assoc]
    rfl
  · unfold kC
    simp [spansOf]
theorem spans_len {s : Scalps} : (spansOf s).length = s.carried.length + 3 * s.strips.length := by unfold spansOf; rw [List.length_append, flat3_len]
theorem QB {l : List Span} (hl : l.length < 1000) : qb l = some (l.all okSp) := by
  have := any_loop l default kr (fun x => !okSp x) (by omega) (fun x _ => by unfold kr; rw [Yt]; rfl) (f := yB l) (fun s => rfl)
  unfold qb kW yq
  rw [this, Option.bind_some, not_any_not]
theorem QQ {l : List Span} (hl : l.length < 1000) : kD l = some (l.all fun x => decide (x.lo ≤ x.hi)) := by
  have := any_loop l default ki (fun x => !decide (x.lo ≤ x.hi)) (by omega) (fun x _ => by unfold ki J7; rfl) (f := qT l) (fun s => rfl)
  unfold kD kF qz
  rw [this, Option.bind_some, not_any_not]
theorem Qs {s : Scalps} (h : s.carried.length < 1000) (n : Int) : j8 s n = some (inb n 0 ((s.carried.length : Int) - 1)) := by
  unfold j8
  rw [subc_eq (by omega), Option.bind_some, K5]; rfl
theorem ZL {s : Scalps} (h : s.strips.length < 1000) (n : Int) : kq s n = some (inb n 0 ((s.strips.length : Int) - 1)) := by
  unfold kq
  rw [subc_eq (by omega), Option.bind_some, K5]; rfl
theorem QP {l : List Strip} {s : Scalps} (h : s.carried.length < 1000) (hl : l.length < 1000) : ku l s = some (l.all fun x => inb x.tenant 0 ((s.carried.length : Int) - 1)) := by
  have := any_loop l default (fun x => kf x s) (fun x => !inb x.tenant 0 ((s.carried.length : Int) - 1)) (by omega) (fun x _ => by unfold kf J5; rw [Qs h]; rfl) (f := yz l s) (fun s => rfl)
  unfold ku kZ yp
  rw [this, Option.bind_some, not_any_not]
theorem Yg {l : List Strip} (hl : l.length < 1000) (h : ∀ x, x ∈ l → In30 x.lay ∧ In30 x.seeded ∧ In30 x.left) : kj l = some (l.all fun x => decide (0 ≤ (goneP x).hi)) := by
  have := any_loop l default j1 (fun x => !decide (0 ≤ (goneP x).hi)) (by omega) (fun x hx => by
    obtain ⟨a, b, c⟩ := h x hx
    unfold j1 J3; rw [Yj a b c]; rfl) (f := qR l) (fun s => rfl)
  unfold kj kE qt
  rw [this, Option.bind_some, not_any_not]
def chk (s : Scalps) : Int :=
  if inb (s.strips.length : Int) 1 6 = true ∧ inb (s.carried.length : Int) 1 5 = true then
    if (spansOf s).all okSp = true then
      if (s.strips.all fun x => inb x.tenant 0 ((s.carried.length : Int) - 1)) = true then
        if ((spansOf s).all fun x => decide (x.lo ≤ x.hi)) = true then
          if (s.strips.all fun x => decide (0 ≤ (goneP x).hi)) = true then 0 else 8
        else 4
      else 1
    else 3
  else 2
theorem not_true_if {α : Type} (b : Bool) (x y : α) : (if (!b) = true then x else y) = if b = true then y else x := by cases b <;> rfl
theorem spans_mem {s : Scalps} {x : Strip} (hx : x ∈ s.strips) : x.lay ∈ spansOf s ∧ x.seeded ∈ spansOf s ∧ x.left ∈ spansOf s := by
  unfold spansOf
  refine ⟨List.mem_append_right _ (List.mem_flatMap.2 ⟨x, hx, by simp⟩), List.mem_append_right _ (List.mem_flatMap.2 ⟨x, hx, by simp⟩), List.mem_append_right _ (List.mem_flatMap.2 ⟨x, hx, by simp⟩)⟩
theorem Y0 (s : Scalps) : JY s = some (chk s) := by
  unfold JY chk
  rw [K5, Option.bind_some, K5]
  simp only [not_true_if, Option.bind_some]
  by_cases h1 : inb (s.strips.length : Int) 1 6 = true
  · by_cases h2 : inb (s.carried.length : Int) 1 5 = true
    · rw [if_pos h1, if_pos ⟨h1, h2⟩, h2, Option.bind_some]
      have h1' := inb_iff.1 h1
      have h2' := inb_iff.1 h2
      have hsl := spans_len (s := s)
      simp only [Bool.not_true, Bool.false_eq_true, if_false]
      rw [YY (by omega) (by omega) (by omega), Option.bind_some, QB (by omega), Option.bind_some]
      by_cases h3 : (spansOf s).all okSp = true
      · rw [if_pos h3, if_pos h3, QP (by omega) (by omega), Option.bind_some]
        split
        · rw [Option.bind_some, QQ (by omega), Option.bind_some]
          split
          · rw [Yg (by omega) (fun x hx => ?_), Option.bind_some]
            · split <;> rfl
            · obtain ⟨a, b, c⟩ := spans_mem hx
              have := List.all_eq_true.1 h3
              exact ⟨okSp_iff.1 (this _ a), okSp_iff.1 (this _ b), okSp_iff.1 (this _ c)⟩
          · rfl
        · rfl
      · rw [if_neg h3, if_neg h3]
    · rw [if_pos h1, if_neg (fun h => h2 h.2)]
      have : inb (s.carried.length : Int) 1 5 = false := by simpa using h2
      rw [this]; rfl
  · rw [if_neg h1, if_neg (fun h => h1 h.1)]; rfl
structure Right (s : Scalps) : Prop where
  net : NetS s.strips s.carried
  s1 : 1 ≤ s.strips.length
  c1 : 1 ≤ s.carried.length
  ten : ∀ x, x ∈ s.strips → 0 ≤ x.tenant ∧ x.tenant < s.carried.length
  ord : ∀ x, x ∈ s.strips → x.lay.lo ≤ x.lay.hi ∧ x.seeded.lo ≤ x.seeded.hi ∧ x.left.lo ≤ x.left.hi
theorem of_right {s : Scalps} (h : Right s) : chk s = 0 := by
  have hm : ∀ x, x ∈ spansOf s → In30 x ∧ x.lo ≤ x.hi := fun x hx => by
    unfold spansOf at hx
    rcases List.mem_append.1 hx with hx | hx
    · exact h.net.cp x hx
    · obtain ⟨y, hy, hx⟩ := List.mem_flatMap.1 hx
      obtain ⟨a, b, c, _⟩ := h.net.sp y hy
      obtain ⟨d, e, f⟩ := h.ord y hy
      simp only [List.mem_cons, List.not_mem_nil, or_false] at hx
      rcases hx with rfl | rfl | rfl
      · exact ⟨a, d⟩
      · exact ⟨b, e⟩
      · exact ⟨c, f⟩
  have := h.net.s6; have := h.net.c5; have := h.s1; have := h.c1
  unfold chk
  rw [if_pos ⟨inb_iff.2 (by omega), inb_iff.2 (by omega)⟩, if_pos (List.all_eq_true.2 fun x hx => okSp_iff.2 (hm x hx).1), if_pos (List.all_eq_true.2 fun x hx => inb_iff.2 (by have := h.ten x hx; omega)), if_pos (List.all_eq_true.2 fun x hx => decide_eq_true (hm x hx).2), if_pos (List.all_eq_true.2 fun x hx => decide_eq_true (by
    have := (h.net.sp x hx).2.2.2
    unfold goneP at *
    simp only at this ⊢
    omega))]
end Go.Proofs.Ws

namespace Go.Gx
open Go
theorem afind_none {α β : Type} [DecidableEq α] : ∀ {l : List (α × β)} {k : α} {i : Nat}, afind l k i = none ↔ ∀ p, p ∈ l → p.1 ≠ k
  | [], k, i => by simp [afind]
  | (k', v') :: r, k, i => by
    unfold afind
    by_cases h : k = k'
    · rw [if_pos h]
      constructor
      · intro h2; cases h2
      · intro h2; exact absurd h.symm (h2 (k', v') (by simp))
    · rw [if_neg h, afind_none]
      constructor
      · intro h2 p hp
        rcases List.mem_cons.1 hp with rfl | hp
        · exact fun e => h e.symm
        · exact h2 p hp
      · intro h2 p hp; exact h2 p (List.mem_cons_of_mem _ hp)
theorem aget_val {α β : Type} [DecidableEq α] : ∀ {l : List (α × β)} {k : α} {i : Nat}, (afind l k i).map (·.2) = (l.find? fun p => decide (p.1 = k)).map (·.2)
  | [], k, i => rfl
  | (k', v') :: r, k, i => by
    unfold afind
    by_cases h : k = k'
    · rw [if_pos h, List.find?_cons, decide_eq_true h.symm]; rfl
    · rw [if_neg h, aget_val (i := i + 1), List.find?_cons, decide_eq_false (fun e => h e.symm)]
theorem find_modify {α β : Type} [DecidableEq α] (v : β) (k x : α) : ∀ {l : List (α × β)} {i j : Nat} {v0 : β}, afind l k j = some (i, v0) → ((l.modify (i - j) (fun p => (p.1, v))).find? fun p => decide (p.1 = x)).map (·.2) = if x = k then some v else (l.find? fun p => decide (p.1 = x)).map (·.2)
  | [], i, j, v0, h => by cases h
  | (k', v') :: r, i, j, v0, h => by
    unfold afind at h
    by_cases hk : k = k'
    · rw [if_pos hk] at h
      cases h
      rw [Nat.sub_self, List.modify_zero_cons, List.find?_cons, List.find?_cons]
      subst hk
      by_cases hx : k = x
      · rw [decide_eq_true hx, if_pos hx.symm]; rfl
      · rw [decide_eq_false hx, if_neg (fun e => hx e.symm)]
    · rw [if_neg hk] at h
      have hle := (afind_some h).1
      have e : i - j = (i - (j + 1)) + 1 := by omega
      rw [e, List.modify_succ_cons, List.find?_cons, List.find?_cons]
      have ih := find_modify v k x h
      by_cases hx : k' = x
      · rw [decide_eq_true hx, if_neg (fun e => hk (by rw [← e, hx]))]
      · rw [decide_eq_false hx]; exact ih
theorem aget_aset {α β : Type} [DecidableEq α] (l : List (α × β)) (k x : α) (v : β) : aget (aset l k v) x = if x = k then some v else aget l x := by
  unfold aget aset
  rw [aget_val, aget_val]
  cases h : afind l k 0 with
  | none =>
    simp only
    rw [List.find?_append]
    by_cases hx : x = k
    · subst hx
      have : (l.find? fun p => decide (p.1 = x)) = none := by
        rw [List.find?_eq_none]
        intro p hp
        simpa using afind_none.1 h p hp
      rw [this, if_pos rfl]
      simp
    · rw [if_neg hx]
      have : (List.find? (fun p : α × β => decide (p.1 = x)) [(k, v)]) = none := by
        rw [List.find?_cons, decide_eq_false (fun e => hx e.symm)]; rfl
      rw [this, Option.or_none]
  | some p =>
    obtain ⟨i, v0⟩ := p
    exact find_modify v k x h
end Go.Gx
namespace Go.Proofs.Ws
open Go Go.Fw Go.Gx Go.Sp
def Near (st : List Strip) (t k j : Int) : Prop := 0 ≤ k ∧ k < st.length ∧ j - 1 ≤ k ∧ k ≤ j + 1 ∧ 0 ≤ j ∧ j < st.length ∧ (st.getD j.toNat default).tenant = t
def MapOK (st : List Strip) (mp : List (Pair × Bool)) : Prop := ∀ t k : Int, ((aget mp ⟨t, k⟩).getD false = true ↔ ∃ j, Near st t k j)
theorem QZ {s : Scalps} (h6 : s.strips.length ≤ 6) : ∃ mp, iterM FU (zc s) ⟨0, []⟩ = some mp ∧ MapOK s.strips mp := by
  refine iterM_inv (f := zc s) (fun x => 0 ≤ x.t21 ∧ x.t21 ≤ s.strips.length ∧ ∀ t k : Int, ((aget x.t15 ⟨t, k⟩).getD false = true ↔ ∃ j, Near s.strips t k j ∧ j < x.t21)) (fun x => s.strips.length - x.t21.toNat) (MapOK s.strips) (fun x hx => ?_) FU _ (FU_lt (by simp only; omega)) ⟨by simp, by simp, fun t k => ?_⟩
  · obtain ⟨h0, h1, hI⟩ := hx
    unfold zc
    by_cases hlt : x.t21 < (s.strips.length : Int)
    · left
      simp only [hlt, if_true]
      rw [ix_eq default h0 hlt, Option.bind_some, subc_eq (by omega), Option.bind_some]
      generalize hy : s.strips.getD x.t21.toNat default = y
      have key : ∃ mp, iterM FU (zl x s y) ⟨x.t21 - 1, x.t15⟩ = some mp ∧ ∀ t k : Int, ((aget mp ⟨t, k⟩).getD false = true ↔ ∃ j, Near s.strips t k j ∧ j < x.t21 + 1) := by
        refine iterM_inv (f := zl x s y) (fun z => x.t21 - 1 ≤ z.k8 ∧ z.k8 ≤ x.t21 + 2 ∧ ∀ t k : Int, ((aget z.t15 ⟨t, k⟩).getD false = true ↔ (∃ j, Near s.strips t k j ∧ j < x.t21) ∨ (k < z.k8 ∧ Near s.strips t k x.t21))) (fun z => (x.t21 + 2 - z.k8).toNat) _ (fun z hz => ?_) FU _ (FU_lt (by simp only; omega)) ⟨by simp, by simp only; omega, fun t k => ?_⟩
        · obtain ⟨g0, g1, gI⟩ := hz
          unfold zl
          rw [addc_eq (by omega), Option.bind_some]
          by_cases hz2 : z.k8 ≤ x.t21 + 1
          · left
            rw [if_pos hz2, ZL (by omega), Option.bind_some]
            by_cases hk : inb z.k8 0 ((s.strips.length : Int) - 1) = true
            · have hk' := inb_iff.1 hk
              rw [if_pos hk, Option.bind_some, Option.bind_some, addc_eq (by omega), Option.bind_some]
              refine ⟨_, rfl, ⟨by simp only; omega, by simp only; omega, fun t k => ?_⟩, by simp only; omega⟩
              simp only
              rw [aget_aset]
              by_cases he : (⟨t, k⟩ : Pair) = ⟨y.tenant, z.k8⟩
              · rw [if_pos he]
                simp only [Pair.mk.injEq] at he
                simp only [Option.getD_some, true_iff]
                refine .inr ⟨by omega, by omega, by omega, by omega, by omega, h0, hlt, ?_⟩
                rw [hy]; exact he.1.symm
              · rw [if_neg he, gI]
                constructor
                · rintro (h | ⟨h, h'⟩)
                  · exact .inl h
                  · exact .inr ⟨by omega, h'⟩
                · rintro (h | ⟨h, h'⟩)
                  · exact .inl h
                  · by_cases hkz : k = z.k8
                    · exfalso
                      apply he
                      have := h'.2.2.2.2.2.2
                      rw [hy] at this
                      rw [hkz, this]
                    · exact .inr ⟨by omega, h'⟩
            · rw [if_neg hk, Option.bind_some, addc_eq (by omega), Option.bind_some]
              refine ⟨_, rfl, ⟨by simp only; omega, by simp only; omega, fun t k => ?_⟩, by simp only; omega⟩
              simp only
              rw [gI]
              constructor
              · rintro (h | ⟨h, h'⟩)
                · exact .inl h
                · exact .inr ⟨by omega, h'⟩
              · rintro (h | ⟨h, h'⟩)
                · exact .inl h
                · by_cases hkz : k = z.k8
                  · exfalso
                    exact hk (inb_iff.2 ⟨by have := h'.1; omega, by have := h'.2.1; omega⟩)
                  · exact .inr ⟨by omega, h'⟩
          · right
            rw [if_neg hz2]
            refine ⟨_, rfl, fun t k => ?_⟩
            rw [gI]
            constructor
            · rintro (⟨j, h, h'⟩ | ⟨h, h'⟩)
              · exact ⟨j, h, by omega⟩
              · exact ⟨x.t21, h', by omega⟩
            · rintro ⟨j, h, h'⟩
              by_cases hj : j = x.t21
              · subst hj
                exact .inr ⟨by have := h.2.2.2.1; omega, h⟩
              · exact .inl ⟨j, h, by omega⟩
        · simp only
          rw [hI]
          constructor
          · exact .inl
          · rintro (h | ⟨h, h'⟩)
            · exact h
            · have := h'.2.2.1; omega
      obtain ⟨mp, hmp, hI2⟩ := key
      rw [hmp, Option.bind_some, addc_eq (by omega), Option.bind_some]
      exact ⟨_, rfl, ⟨by simp only; omega, by simp only; omega, hI2⟩, by simp only; omega⟩
    · right
      simp only [hlt, if_false]
      refine ⟨_, rfl, fun t k => ?_⟩
      rw [hI]
      constructor
      · rintro ⟨j, h, _⟩; exact ⟨j, h⟩
      · rintro ⟨j, h⟩; exact ⟨j, h, by have := h.2.2.2.2.2.1; omega⟩
  · simp only
    constructor
    · intro h; cases h
    · rintro ⟨j, h, h'⟩; have := h.2.2.2.2.1; omega
theorem yL {s : Scalps} (h : Right s) : ∃ mp, kM s = some (.inr mp) ∧ MapOK s.strips mp := by
  obtain ⟨mp, h1, h2⟩ := QZ h.net.s6
  refine ⟨mp, ?_, h2⟩
  unfold kM
  rw [Y0, Option.bind_some, of_right h, if_pos rfl, h1]; rfl
def reachB (st : List Strip) (t k : Nat) : Bool := (List.range st.length).any fun j => decide (j ≤ k + 1 ∧ k ≤ j + 1 ∧ (st.getD j default).tenant = (t : Int))
theorem rOf_reach {st : List Strip} {mp : List (Pair × Bool)} (h : MapOK st mp) {t k : Nat} (hk : k < st.length) : rOf mp t k = reachB st t k := by
  unfold rOf reachB
  rw [Bool.eq_iff_iff, h, List.any_eq_true]
  constructor
  · rintro ⟨j, a, b, c, d, e, f, g⟩
    refine ⟨j.toNat, List.mem_range.2 (by omega), decide_eq_true ⟨by omega, by omega, g⟩⟩
  · rintro ⟨j, a, b⟩
    have a' := List.mem_range.1 a
    obtain ⟨b1, b2, b3⟩ := of_decide_eq_true b
    exact ⟨(j : Int), by omega, by omega, by omega, by omega, by omega, by omega, b3⟩
end Go.Proofs.Ws

namespace Go.Proofs.Ws
open Go Go.Fw Go.Gx Go.Sp
theorem sumI_range' (f : Nat → Int) : ∀ n, sumI f (List.range n) = sumTo f n
  | 0 => rfl
  | n + 1 => by rw [List.range_succ, sumI_append, sumI_range' f n]; simp [sumI, sumTo]
theorem costs_bound : ∀ {l : List Wy}, (∀ w, w ∈ l → WyOK w) → -1000000 * (l.length : Int) ≤ costs l ∧ costs l ≤ 1000000 * (l.length : Int)
  | [], _ => by simp [costs, sumI]
  | w :: l, h => by
    have ih := costs_bound (l := l) (fun x hx => h x (List.mem_cons_of_mem _ hx))
    have hw := h w (by simp)
    have e : costs (w :: l) = w.cost * w.goes + costs l := rfl
    have b := wcost_bound hw
    rw [e]; simp only [List.length_cons]; push_cast; omega
 where
  wcost_bound {w : Wy} (hw : WyOK w) : -1000000 ≤ w.cost * w.goes ∧ w.cost * w.goes ≤ 1000000 := by
    have h1 := hw.cost; have h2 := hw.goes; have h3 := hw.hi
    have : w.cost = -1 ∨ w.cost = 0 ∨ w.cost = 1 := by omega
    rcases this with e | e | e <;> rw [e] <;> omega
theorem QE {l : List Wy} (hl : NetOK l) : yE l = some (costs l) := by
  unfold yE
  have key := iterM_run (f := zO l) (fun j => ⟨costs (l.take j), (j : Int)⟩) l.length (b := costs l) (fun j hj => ?_) ?_ FU (FU_lt (by have := hl.1; omega))
  · have e : (⟨0, 0⟩ : zP) = ⟨costs (l.take 0), ((0 : Nat) : Int)⟩ := rfl
    rw [e, key]; rfl
  · unfold zO
    have hlt : (j : Int) < (l.length : Int) := by omega
    have hlen := hl.1
    simp only [hlt, if_true]
    have hx : l.getD j default = l[j] := by simp [List.getD_eq_getElem?_getD, hj]
    have hw := hl.2 _ (List.getElem_mem hj)
    have b1 := costs_bound.wcost_bound hw
    have b2 := costs_bound (l := l.take j) (fun w hw => hl.2 w (List.mem_of_mem_take hw))
    rw [List.length_take] at b2
    rw [ix_nat default hj, Option.bind_some, hx, mulc_eq (by omega), Option.bind_some, addc_eq (by omega), Option.bind_some, addc_eq (by omega), Option.bind_some]
    have e : l.take (j + 1) = l.take j ++ [l[j]] := by rw [List.take_append_getElem]
    rw [e]
    have e2 : costs (l.take j ++ [l[j]]) = costs (l.take j) + l[j].cost * l[j].goes := by
      unfold costs; rw [sumI_append]; simp [sumI]
    rw [e2]; rfl
  · unfold zO
    simp
def mat (T S : Nat) (f : Nat → Nat → Int) : List (List Int) := (List.range T).map fun t => (List.range S).map (f t)
def updF (f : Nat → Nat → Int) (w : Wy) : Nat → Nat → Int := if w.fr = 0 ∨ w.dst = 0 then f else fun t k => if (t : Int) = w.dst - 7 ∧ (k : Int) = w.fr - 1 then w.goes else f t k
def Hits (w : Wy) (t k : Nat) : Prop := w.fr = 1 + (k : Int) ∧ w.dst = 7 + (t : Int)
theorem updF_at {f : Nat → Nat → Int} {w : Wy} {t k : Nat} : (Hits w t k → updF f w t k = w.goes) ∧ (¬ Hits w t k → updF f w t k = f t k) := by
  unfold updF Hits
  constructor
  · rintro ⟨h1, h2⟩
    rw [if_neg (by omega), if_pos (by omega)]
  · intro h
    split
    · rfl
    · exact if_neg (by omega)
theorem foldU_same {t k : Nat} {v : Int} : ∀ {l : List Wy} {f : Nat → Nat → Int}, (∀ w, w ∈ l → Hits w t k → w.goes = v) → f t k = v → l.foldl updF f t k = v
  | [], f, _, h => h
  | w :: l, f, h, hf => by
    rw [List.foldl_cons]
    refine foldU_same (fun x hx => h x (List.mem_cons_of_mem _ hx)) ?_
    by_cases hh : Hits w t k
    · rw [updF_at.1 hh]; exact h w (by simp) hh
    · rw [updF_at.2 hh]; exact hf
theorem foldU_hit {t k : Nat} {v : Int} : ∀ {l : List Wy} {f : Nat → Nat → Int}, (∀ w, w ∈ l → Hits w t k → w.goes = v) → (∃ w, w ∈ l ∧ Hits w t k) → l.foldl updF f t k = v
  | [], f, _, ⟨_, h, _⟩ => by cases h
  | w :: l, f, h, ⟨x, hx, hxh⟩ => by
    rw [List.foldl_cons]
    have h' := fun x hx => h x (List.mem_cons_of_mem w hx)
    rcases List.mem_cons.1 hx with rfl | hx
    · exact foldU_same h' (by rw [updF_at.1 hxh]; exact h x (by simp) hxh)
    · exact foldU_hit h' ⟨x, hx, hxh⟩
theorem mat_row {T S : Nat} {f : Nat → Nat → Int} {t : Nat} (h : t < T) : ix (mat T S f) (t : Int) = some ((List.range S).map (f t)) := range_ix h
theorem mat_set {T S : Nat} {f : Nat → Nat → Int} {t k : Nat} {v : Int} : (mat T S f).set t (((List.range S).map (f t)).set k v) = mat T S fun t' k' => if t' = t ∧ k' = k then v else f t' k' := by
  unfold mat
  rw [range_set, range_set]
  refine List.map_congr_left fun x _ => ?_
  by_cases hx : x = t
  · subst hx
    rw [if_pos rfl]
    refine List.map_congr_left fun y _ => ?_
    by_cases hy : y = k <;> simp [hy]
  · rw [if_neg hx]
    refine List.map_congr_left fun y _ => ?_
    exact (if_neg (fun h => hx h.1)).symm
theorem YJ {st : List Strip} {ca : List Span} (h6 : st.length ≤ 6) (h5 : ca.length ≤ 5) {l : List Wy} (hl : l.length ≤ 1000) (hw : ∀ w, w ∈ l → w.fr = 0 ∨ w.dst = 0 ∨ ∃ t k, t < ca.length ∧ k < st.length ∧ Hits w t k) :
    qZ l st ca = some (mat ca.length st.length (l.foldl updF fun _ _ => 0)) := by
  unfold qZ
  rw [makec_eq (by omega), Option.bind_some]
  have k1 : iterM FU (qJ (List.replicate ca.length []) st) ⟨0, List.replicate ca.length []⟩ = some (mat ca.length st.length fun _ _ => 0) := by
    have key := iterM_run (f := qJ (List.replicate ca.length []) st) (fun j => ⟨(j : Int), (List.range ca.length).map fun t => if t < j then (List.range st.length).map (fun _ => (0 : Int)) else []⟩) ca.length (b := mat ca.length st.length fun _ _ => 0) (fun j hj => ?_) ?_ FU (FU_lt (by omega))
    · have e : (List.range ca.length).map (fun t => if t < 0 then (List.range st.length).map (fun _ => (0 : Int)) else []) = List.replicate ca.length [] := by
        rw [List.eq_replicate_iff]
        exact ⟨by simp, fun b hb => by obtain ⟨t, _, rfl⟩ := List.mem_map.1 hb; simp⟩
      rw [e] at key
      exact key
    · unfold qJ
      have hlt : (j : Int) < ((List.replicate ca.length ([] : List Int)).length : Int) := by simp; omega
      simp only [hlt, if_true]
      rw [makec_eq (by omega), Option.bind_some, range_ix hj, Option.bind_some, Option.bind_some, addc_eq (by omega), Option.bind_some, show Int.toNat (j : Int) = j by omega, range_set]
      have e : (List.range ca.length).map (fun t => if t = j then List.replicate (st.length : Int).toNat (0 : Int) else if t < j then (List.range st.length).map (fun _ => (0 : Int)) else []) = (List.range ca.length).map (fun t => if t < j + 1 then (List.range st.length).map (fun _ => (0 : Int)) else []) := by
        refine List.map_congr_left fun t _ => ?_
        by_cases ht : t = j
        · rw [if_pos ht, if_pos (by omega)]
          symm
          rw [List.eq_replicate_iff]
          exact ⟨by simp, fun b hb => by obtain ⟨t, _, rfl⟩ := List.mem_map.1 hb; rfl⟩
        · rw [if_neg ht]
          by_cases h2 : t < j
          · rw [if_pos h2, if_pos (by omega)]
          · rw [if_neg h2, if_neg (by omega)]
      rw [e]; rfl
    · unfold qJ
      have hlt : ¬ ((ca.length : Int) < ((List.replicate ca.length ([] : List Int)).length : Int)) := by simp
      simp only [hlt, if_false]
      congr 2
      refine List.map_congr_left fun t ht => ?_
      rw [if_pos (List.mem_range.1 ht)]
  rw [show List.replicate (ca.length : Int).toNat ([] : List Int) = List.replicate ca.length [] by simp, k1, Option.bind_some]
  have key := iterM_run (f := yM l) (fun j => ⟨(j : Int), mat ca.length st.length ((l.take j).foldl updF fun _ _ => 0)⟩) l.length (b := mat ca.length st.length (l.foldl updF fun _ _ => 0)) (fun j hj => ?_) ?_ FU (FU_lt (by omega))
  · have e : (⟨0, mat ca.length st.length fun _ _ => 0⟩ : yI) = ⟨((0 : Nat) : Int), mat ca.length st.length ((l.take 0).foldl updF fun _ _ => 0)⟩ := rfl
    rw [e, key]; rfl
  · unfold yM
    have hlt : (j : Int) < (l.length : Int) := by omega
    simp only [hlt, if_true]
    have hx : l.getD j default = l[j] := by simp [List.getD_eq_getElem?_getD, hj]
    have e : l.take (j + 1) = l.take j ++ [l[j]] := by rw [List.take_append_getElem]
    rw [ix_nat default hj, Option.bind_some, hx, e, List.foldl_append]
    simp only [List.foldl_cons, List.foldl_nil]
    generalize (l.take j).foldl updF (fun _ _ => 0) = f
    have hwj := hw _ (List.getElem_mem hj)
    generalize l[j] = w at hwj
    by_cases h0 : w.fr = 0 ∨ w.dst = 0
    · have e2 : (if w.fr = 0 then some false else some (!decide (w.dst = 0))) = some false := by
        by_cases h1 : w.fr = 0
        · rw [if_pos h1]
        · rw [if_neg h1, decide_eq_true (h0.resolve_left h1)]; rfl
      rw [e2, Option.bind_some, if_neg (by simp), Option.bind_some, addc_eq (by omega), Option.bind_some]
      unfold updF
      rw [if_pos h0]; rfl
    · rcases hwj with h | h | ⟨t, k, ht, hk, hh⟩
      · exact absurd (.inl h) h0
      · exact absurd (.inr h) h0
      · obtain ⟨a1, a2⟩ := hh
        have e2 : (if w.fr = 0 then some false else some (!decide (w.dst = 0))) = some true := by
          rw [if_neg (fun h => h0 (.inl h)), decide_eq_false (fun h => h0 (.inr h))]; rfl
        rw [e2, Option.bind_some, if_pos rfl, subc_eq (by omega), Option.bind_some, subc_eq (by omega), Option.bind_some, show w.dst - 1 - 6 = (t : Int) by omega, mat_row ht, Option.bind_some, subc_eq (by omega), Option.bind_some, show w.fr - 1 = (k : Int) by omega, range_ix hk, Option.bind_some, Option.bind_some, Option.bind_some, Option.bind_some, addc_eq (by omega), Option.bind_some, show Int.toNat (t : Int) = t by omega, show Int.toNat (k : Int) = k by omega, mat_set]
        have e3 : updF f w = fun t' k' => if t' = t ∧ k' = k then w.goes else f t' k' := by
          unfold updF
          rw [if_neg h0]
          funext t' k'
          by_cases hc : t' = t ∧ k' = k
          · rw [if_pos hc, if_pos (by omega)]
          · rw [if_neg hc, if_neg (by omega)]
        rw [e3]; rfl
  · unfold yM
    simp
theorem laidG_mem {S T : Nat} {g h : Nat → Span} {R : Nat → Nat → Bool} {c : Nat → Nat → Int} {gs : Nat → Int} {ys : Nat → Nat → Int} {zs : Nat → Int} {w : Wy} :
    w ∈ laidG S g h R c gs ys zs T ↔ (∃ k, k < S ∧ w = { stripW g k with goes := gs k }) ∨ (∃ t k, t < T ∧ k < S ∧ R t k = true ∧ w = { innerW c t k with goes := ys t k }) ∨ (∃ t, t < T ∧ w = { tenW h t with goes := zs t }) := by
  unfold laidG
  rw [List.mem_append, List.mem_map, List.mem_flatMap]
  constructor
  · rintro (⟨k, hk, rfl⟩ | ⟨t, ht, hw⟩)
    · exact .inl ⟨k, by simpa using hk, rfl⟩
    · rcases List.mem_append.1 hw with hw | hw
      · obtain ⟨k, hk, rfl⟩ := List.mem_map.1 hw
        obtain ⟨h1, h2⟩ := List.mem_filter.1 hk
        exact .inr (.inl ⟨t, k, by simpa using ht, by simpa using h1, h2, rfl⟩)
      · rw [List.mem_singleton] at hw
        exact .inr (.inr ⟨t, by simpa using ht, hw⟩)
  · rintro (⟨k, hk, rfl⟩ | ⟨t, k, ht, hk, hr, rfl⟩ | ⟨t, ht, rfl⟩)
    · exact .inl ⟨k, by simpa using hk, rfl⟩
    · exact .inr ⟨t, by simpa using ht, List.mem_append_left _ (List.mem_map.2 ⟨k, List.mem_filter.2 ⟨by simpa using hk, hr⟩, rfl⟩)⟩
    · exact .inr ⟨t, by simpa using ht, List.mem_append_right _ (by simp)⟩
theorem Q4 {st : List Strip} {ca : List Span} (h6 : st.length ≤ 6) (h5 : ca.length ≤ 5) {g h : Nat → Span} {R : Nat → Nat → Bool} {c : Nat → Nat → Int} {gs : Nat → Int} {ys : Nat → Nat → Int} {zs : Nat → Int} (hl : (laidG st.length g h R c gs ys zs ca.length).length ≤ 1000) :
    qZ (laidG st.length g h R c gs ys zs ca.length) st ca = some (mat ca.length st.length (Yr R ys)) := by
  rw [YJ h6 h5 hl]
  · congr 1
    unfold mat
    refine List.map_congr_left fun t ht => List.map_congr_left fun k hk => ?_
    have ht' := List.mem_range.1 ht
    have hk' := List.mem_range.1 hk
    have hall : ∀ w, w ∈ laidG st.length g h R c gs ys zs ca.length → Hits w t k → R t k = true ∧ w.goes = ys t k := fun w hw hh => by
      unfold Hits at hh
      rcases laidG_mem.1 hw with ⟨k', hk', rfl⟩ | ⟨t', k', ht', hk', hr, rfl⟩ | ⟨t', ht', rfl⟩
      · simp only [stripW] at hh; omega
      · simp only [innerW] at hh
        have e1 : k' = k := by omega
        have e2 : t' = t := by omega
        subst e1; subst e2
        exact ⟨hr, rfl⟩
      · simp only [tenW] at hh; omega
    unfold Yr
    split
    · rename_i hr
      refine foldU_hit (fun w hw hh => (hall w hw hh).2) ⟨_, laidG_mem.2 (.inr (.inl ⟨t, k, ht', hk', hr, rfl⟩)), ?_⟩
      unfold Hits innerW
      exact ⟨rfl, rfl⟩
    · rename_i hr
      exact foldU_same (fun w hw hh => absurd (hall w hw hh).1 hr) rfl
  · intro w hw
    rcases laidG_mem.1 hw with ⟨k', hk', rfl⟩ | ⟨t', k', ht', hk', hr, rfl⟩ | ⟨t', ht', rfl⟩
    · exact .inl rfl
    · exact .inr (.inr ⟨t', k', ht', hk', rfl, rfl⟩)
    · exact .inr (.inl rfl)
structure FitsS (s : Scalps) (y : Nat → Nat → Int) : Prop where
  pos : ∀ t k, t < s.carried.length → k < s.strips.length → 0 ≤ y t k ∧ (0 < y t k → reachB s.strips t k = true)
  ten : ∀ t, t < s.carried.length → (hOf s.carried t).lo ≤ sumTo (fun k => y t k) s.strips.length ∧ sumTo (fun k => y t k) s.strips.length ≤ (hOf s.carried t).hi
  str : ∀ k, k < s.strips.length → (gOf s.strips k).lo ≤ sumTo (fun t => y t k) s.carried.length ∧ sumTo (fun t => y t k) s.carried.length ≤ (gOf s.strips k).hi
theorem fitsY_iff {s : Scalps} {mp : List (Pair × Bool)} (hm : MapOK s.strips mp) {y : Nat → Nat → Int} : FitsY s.strips s.carried mp y ↔ FitsS s y := by
  constructor
  · intro h
    exact ⟨fun t k ht hk => by rw [← rOf_reach hm hk]; exact h.pos t k ht hk, h.ten, h.str⟩
  · intro h
    exact ⟨fun t k ht hk => by rw [rOf_reach hm hk]; exact h.pos t k ht hk, h.ten, h.str⟩
def countS (s : Scalps) (c y : Nat → Nat → Int) : Int := countY s.strips s.carried c y
theorem filled_min {s : Scalps} (h : Right s) {mp : List (Pair × Bool)} (hm : MapOK s.strips mp) {cf : Pair → Option Int} (hc : CfOK s.strips s.carried cf) :
    (∃ l y, jW s.strips s.carried mp cf = some (.inr ⟨⟨false, []⟩, l⟩) ∧ (∃ π : Int → Int, PotB π l) ∧ Good (laidS s.strips s.carried mp cf) l ∧ Within l ∧ yE l = some (countS s (cOf cf) y) ∧ qZ l s.strips s.carried = some (mat s.carried.length s.strips.length y) ∧ FitsS s y ∧ ∀ y', FitsS s y' → countS s (cOf cf) y ≤ countS s (cOf cf) y') ∨
    (∃ w met, jW s.strips s.carried mp cf = some (.inl (lackP s.strips s.carried w met)) ∧ Lk (laidS s.strips s.carried mp cf) w met ∧ ∀ y, ¬ FitsS s y) := by
  rcases Yd h.net (mp := mp) hc with ⟨l, h1, hg, hw, π, hp⟩ | ⟨w, met, h1, hlk⟩
  · left
    obtain ⟨gs, ys, zs, e, hf, hcost⟩ := net_shares h.net hg hw
    refine ⟨l, _, h1, ⟨π, hp⟩, hg, hw, ?_, ?_, (fitsY_iff hm).1 hf, fun y' hy' => ?_⟩
    · rw [QE hg.ok, hcost]; rfl
    · have hlen := hg.ok.1
      rw [e]
      rw [e] at hlen
      exact Q4 h.net.s6 h.net.c5 (by omega)
    · have := net_least h.net hg hp.1 ((fitsY_iff hm).2 hy')
      rw [hcost] at this
      exact this
  · right
    exact ⟨w, met, h1, hlk, fun y hy => lk_none h.net hlk ((fitsY_iff hm).2 hy)⟩
end Go.Proofs.Ws

namespace Go.Proofs.Ws
open Go Go.Fw Go.Gx Go.Sp
def CfIs (s : Scalps) (cf : Pair → Option Int) (c : Nat → Nat → Int) : Prop := ∀ t k : Nat, t < s.carried.length → k < s.strips.length → cf ⟨(t : Int), (k : Int)⟩ = some (c t k) ∧ -1 ≤ c t k ∧ c t k ≤ 1
theorem CfIs.ok {s : Scalps} {cf : Pair → Option Int} {c : Nat → Nat → Int} (h : CfIs s cf c) : CfOK s.strips s.carried cf := fun t k ht hk => ⟨c t k, h t k ht hk⟩
theorem CfIs.count {s : Scalps} {cf : Pair → Option Int} {c : Nat → Nat → Int} (h : CfIs s cf c) (y : Nat → Nat → Int) : countS s (cOf cf) y = countS s c y := by
  unfold countS countY
  refine sumTo_congr fun t ht => sumTo_congr fun k hk => ?_
  have : cOf cf t k = c t k := by unfold cOf; rw [(h t k ht hk).1]; rfl
  rw [this]
theorem countS_neg {s : Scalps} {c y : Nat → Nat → Int} : countS s (fun t k => - c t k) y = - countS s c y := by
  unfold countS countY
  rw [← Int.neg_one_mul, ← sumTo_mul]
  refine sumTo_congr fun t ht => ?_
  rw [← sumTo_mul]
  refine sumTo_congr fun k hk => ?_
  rw [Int.neg_one_mul, Int.neg_mul]
theorem CfIs.neg {s : Scalps} {cf cf' : Pair → Option Int} {c : Nat → Nat → Int} (h : CfIs s cf c) (h' : ∀ p, cf' p = (cf p).bind fun t => (negc t).bind fun x => some x) : CfIs s cf' fun t k => - c t k := fun t k ht hk => by
  obtain ⟨a, b, d⟩ := h t k ht hk
  refine ⟨?_, (by omega : -1 ≤ - c t k), (by omega : - c t k ≤ 1)⟩
  rw [h', a, Option.bind_some, negc_eq (by omega)]; rfl
def cnt (b : Bool) : Int := if b = true then 1 else 0
theorem cnt_range (b : Bool) : -1 ≤ cnt b ∧ cnt b ≤ 1 ∧ 0 ≤ cnt b := by unfold cnt; split <;> omega
def othB (s : Scalps) (t k : Nat) : Bool := !decide ((s.strips.getD k default).tenant = (t : Int))
def thC (s : Scalps) (t k : Nat) : Int := cnt (othB s t k)
theorem YZ {s : Scalps} {t k : Nat} (hk : k < s.strips.length) : Je s.strips s.carried ⟨(t : Int), (k : Int)⟩ = some (othB s t k) := by
  unfold Je othB
  rw [ix_nat default hk, Option.bind_some]
theorem cf_theft (s : Scalps) : CfIs s (fun p => jI p s.strips s.carried) (thC s) := fun t k _ hk => by
  refine ⟨?_, (cnt_range _).1, (cnt_range _).2.1⟩
  unfold jI thC cnt
  simp only
  rw [YZ hk, Option.bind_some]
  split <;> rfl
def IsRange (s : Scalps) (c : Nat → Nat → Int) (lo hi : Int) : Prop := (∃ y, FitsS s y ∧ countS s c y = lo) ∧ (∃ y, FitsS s y ∧ countS s c y = hi) ∧ ∀ y, FitsS s y → lo ≤ countS s c y ∧ countS s c y ≤ hi
def NoFit (s : Scalps) : Prop := ∀ y, ¬ FitsS s y
theorem IsRange.uniq {s : Scalps} {c : Nat → Nat → Int} {a b a' b' : Int} (h : IsRange s c a b) (h' : IsRange s c a' b') : a = a' ∧ b = b' := by
  obtain ⟨⟨y1, f1, e1⟩, ⟨y2, f2, e2⟩, h3⟩ := h
  obtain ⟨⟨z1, g1, d1⟩, ⟨z2, g2, d2⟩, h4⟩ := h'
  have := h3 _ g1; have := h3 _ g2; have := h4 _ f1; have := h4 _ f2
  omega
theorem spread_spec {s : Scalps} (h : Right s) {mp : List (Pair × Bool)} (hm : MapOK s.strips mp) {cf : Pair → Option Int} {c : Nat → Nat → Int} (hc : CfIs s cf c) :
    (∃ lo hi, qr s.strips s.carried mp cf = some ⟨⟨lo, hi⟩, 0⟩ ∧ IsRange s c lo hi) ∨ (qr s.strips s.carried mp cf = some ⟨⟨0, 0⟩, 7⟩ ∧ NoFit s) := by
  have hc2 : CfIs s (fun p : Pair => jO p cf) fun t k => - c t k := hc.neg fun p => rfl
  unfold qr
  rcases filled_min h hm hc.ok with ⟨l, y, h1, _, hg, _, h2, _, h3, h4⟩ | ⟨w, met, h1, _, h3⟩
  · left
    rcases filled_min h hm hc2.ok with ⟨l', y', g1, _, hg', _, g2, _, g3, g4⟩ | ⟨w, met, _, _, g3⟩
    · rw [h1, Option.bind_some, oc_inr, g1, Option.bind_some, oc_inr]
      simp only
      rw [hc.count] at h2
      rw [hc2.count, countS_neg] at g2
      have hb := costs_bound hg'.ok.2
      have hln := hg'.ok.1
      have e : costs l' = - countS s c y' := by
        have := QE hg'.ok
        rw [this] at g2
        exact Option.some.inj g2
      rw [h2, Option.bind_some, g2, Option.bind_some, negc_eq (by omega), Option.bind_some, Int.neg_neg]
      refine ⟨_, _, rfl, ⟨y, h3, rfl⟩, ⟨y', g3, rfl⟩, fun z hz => ?_⟩
      have a := h4 z hz
      have b := g4 z hz
      rw [hc.count, hc.count] at a
      rw [hc2.count, hc2.count, countS_neg, countS_neg] at b
      omega
    · exact absurd h3 (g3 y)
  · right
    rcases filled_min h hm hc2.ok with ⟨l', y', g1, _, _, _, _, _, g3, _⟩ | ⟨w', met', g1, _, _⟩
    · exact absurd g3 (h3 y')
    · rw [h1, Option.bind_some, oc_inl, g1, Option.bind_some, oc_inl]
      exact ⟨rfl, h3⟩
theorem K9 (st : List Strip) (ca : List Span) : Jj st ca = some () := rfl
theorem Least_spec {s : Scalps} (h : Right s) : (∃ lo hi y, yc s = some ⟨lo, 0, mat s.carried.length s.strips.length y⟩ ∧ FitsS s y ∧ countS s (thC s) y = lo ∧ IsRange s (thC s) lo hi) ∨ (yc s = some ⟨0, 7, []⟩ ∧ NoFit s) := by
  obtain ⟨mp, hmp, hm⟩ := yL h
  have hc := cf_theft s
  unfold yc
  rw [hmp, Option.bind_some, oc_inr, K9, Option.bind_some]
  rcases filled_min h hm hc.ok with ⟨l, y, h1, _, hg, _, h2, h2', h3, h4⟩ | ⟨w, met, h1, _, h3⟩
  · left
    rw [h1, Option.bind_some, oc_inr]
    simp only
    rw [h2', Option.bind_some, h2, Option.bind_some, hc.count]
    rcases spread_spec h hm hc with ⟨lo, hi, _, hr⟩ | ⟨_, hn⟩
    · refine ⟨_, hi, y, rfl, h3, rfl, ?_⟩
      have : countS s (thC s) y = lo := by
        obtain ⟨⟨y1, f1, e1⟩, _, b⟩ := hr
        have a1 := h4 _ f1
        rw [hc.count, hc.count] at a1
        have := b _ h3
        omega
      rw [this]; exact hr
    · exact absurd h3 (hn y)
  · right
    rw [h1, Option.bind_some, oc_inl]
    exact ⟨rfl, h3⟩
theorem Most_spec {s : Scalps} (h : Right s) : (∃ lo hi y, zA s = some ⟨hi, 0, mat s.carried.length s.strips.length y⟩ ∧ FitsS s y ∧ countS s (thC s) y = hi ∧ IsRange s (thC s) lo hi) ∨ (zA s = some ⟨0, 7, []⟩ ∧ NoFit s) := by
  obtain ⟨mp, hmp, hm⟩ := yL h
  have hc := cf_theft s
  have hc2 : CfIs s (fun p : Pair => yS p (fun p_1 : Pair => jI p_1 s.strips s.carried)) fun t k => - thC s t k := hc.neg fun p => rfl
  unfold zA
  rw [hmp, Option.bind_some, oc_inr, K9, Option.bind_some]
  rcases filled_min h hm hc2.ok with ⟨l, y, h1, _, hg, _, h2, h2', h3, h4⟩ | ⟨w, met, h1, _, h3⟩
  · left
    rw [h1, Option.bind_some, oc_inr]
    simp only
    rw [hc2.count, countS_neg] at h2
    have hb := costs_bound hg.ok.2
    have hln := hg.ok.1
    have e : costs l = - countS s (thC s) y := by
      have := QE hg.ok
      rw [this] at h2
      exact Option.some.inj h2
    rw [h2', Option.bind_some, h2, Option.bind_some, negc_eq (by omega), Option.bind_some, Int.neg_neg]
    rcases spread_spec h hm hc with ⟨lo, hi, _, hr⟩ | ⟨_, hn⟩
    · refine ⟨lo, _, y, rfl, h3, rfl, ?_⟩
      have : countS s (thC s) y = hi := by
        obtain ⟨_, ⟨y1, f1, e1⟩, b⟩ := hr
        have a1 := h4 _ f1
        rw [hc2.count, hc2.count, countS_neg, countS_neg] at a1
        have := b _ h3
        omega
      rw [this]; exact hr
    · exact absurd h3 (hn y)
  · right
    rw [h1, Option.bind_some, oc_inl]
    exact ⟨rfl, h3⟩
end Go.Proofs.Ws

namespace Go.Proofs.Ws
open Go Go.Fw Go.Gx Go.Sp
def gtI (l : List Int) (j : Nat) : Int := l.getD j 0
def ascB (l : List Int) : Bool := (List.range (l.length - 1)).all fun j => decide (gtI l j < gtI l (j + 1))
def hasZ (l : List Int) (v : Nat) : Bool := l.any fun x => decide ((v : Int) = x)
def reI (mp : List (Pair × Bool)) (t k : Int) : Bool := (aget mp ⟨t, k⟩).getD false
def needT (s : Scalps) (l : List Int) (t : Nat) : Int := if hasZ l t = true then (hOf s.carried t).lo else 0
def canT (s : Scalps) (mp : List (Pair × Bool)) (l : List Int) (k : Nat) : Int := if (l.any fun t => reI mp t (k : Int)) = true then (gOf s.strips k).hi else 0
def needK (s : Scalps) (l : List Int) (k : Nat) : Int := if hasZ l k = true then (gOf s.strips k).lo else 0
def canK (s : Scalps) (mp : List (Pair × Bool)) (l : List Int) (t : Nat) : Int := if (l.any fun k => reI mp (t : Int) k) = true then (hOf s.carried t).hi else 0
def lackV (s : Scalps) (mp : List (Pair × Bool)) (l : Lack) : Int :=
  if l.tenants = true then sumTo (needT s l.of_) s.carried.length - sumTo (canT s mp l.of_) s.strips.length
  else sumTo (needK s l.of_) s.strips.length - sumTo (canK s mp l.of_) s.carried.length
theorem sumTo_bound {f : Nat → Int} {b : Int} : ∀ {n : Nat}, (∀ j, j < n → 0 ≤ f j ∧ f j ≤ b) → 0 ≤ sumTo f n ∧ sumTo f n ≤ b * (n : Int)
  | 0, _ => by simp [sumTo]
  | n + 1, h => by
    have ih := sumTo_bound (n := n) (fun j hj => h j (by omega))
    have := h n (by omega)
    simp only [sumTo]
    rw [show ((n + 1 : Nat) : Int) = (n : Int) + 1 by omega, Int.mul_add, Int.mul_one]
    omega
end Go.Proofs.Ws

namespace Go.Proofs.Ws
set_option maxHeartbeats 4000000
set_option maxRecDepth 100000
open Go Go.Fw Go.Gx Go.Sp
open Try
set_option linter.unusedVariables false
def qV (l0 : (List Strip)) : Option (List Strip) :=
 (makec 56 (⟨0, (⟨0, 0⟩ : Span), (⟨0, 0⟩ : Span), (⟨0, 0⟩ : Span)⟩ : Strip) 0 (l0.length : Int)).bind fun t5 =>
 (appc 56 t5 l0).bind fun t7 =>
 some t7
theorem KS (l0 : (List Strip)) (qa0 : Option Addr) (na0 ca0 : Nat) (w : World) (hw : HV w (keys [] []) [] [] [(aB qa0, aO qa0, RSt.enc l0)] w) (hna0 : l0.length = na0) (hqa0 : AOK na0 qa0) (hla0 : na0 ≤ ca0) {res : (List Strip)} (hm : qV l0 = some res) :
    Calls Try.prog 78 #[.slice qa0 na0 ca0] w (fun en w' => ∃ l : VL, en = .returned (sL l) ∧ (VOK 7 l.n l.cap (RSt.enc res) l.sp l.q) ∧ HV w (keys [] []) [] [vL 77 l (RSt.enc res)] [] w') := by
  unfold qV at hm
  refine kl func78 Y ntmps78 Y (e := [(0, _)]) Y hw (jp (jb Y Y Y (fun _ _ => qf Y) (jV (je Y Y (jb Y Y Y (fun w _ => jR hna0 (runUnderlying25 w) Y) ?_)))))
  obtain ⟨t5, h2, hm⟩ := bindO hm
  refine JE RSt (⟨0, (⟨0, 0⟩ : Span), (⟨0, 0⟩ : Span), (⟨0, 0⟩ : Span)⟩ : Strip) h2 underlying25 Yc Y Y Y Y Y (fun L h3 => ?_)
  refine je Y Y ?_
  obtain ⟨t7, h4, hm⟩ := bindO hm
  refine yT RSt 0 h4 underlying25 Yc Y Y Y Y Y h3 Y Y hna0 hqa0 (fun w hh => (hh.seg 0 Y)) Y (fun L_1 h5 h5n => ?_)
  refine jH (S' := []) (vs' := [_]) [] [0] 0 Y Y Y Y (jl Y Y (jo (ju ?_)))
  obtain rfl := sj hm
  refine jm Y (fun w hh => (.tmp Y .nil)) (fun w hh => ⟨L_1, rfl, h5, hh.se [] [0] 1 Y Y Y rfl⟩)
def ze (l0 : (List Span)) : Option (List Span) :=
 (makec 16 (⟨0, 0⟩ : Span) 0 (l0.length : Int)).bind fun t5 =>
 (appc 16 t5 l0).bind fun t7 =>
 some t7
theorem Qy (l0 : (List Span)) (qa0 : Option Addr) (na0 ca0 : Nat) (w : World) (hw : HV w (keys [] []) [] [] [(aB qa0, aO qa0, RSp.enc l0)] w) (hna0 : l0.length = na0) (hqa0 : AOK na0 qa0) (hla0 : na0 ≤ ca0) {res : (List Span)} (hm : ze l0 = some res) :
    Calls Try.prog 79 #[.slice qa0 na0 ca0] w (fun en w' => ∃ l : VL, en = .returned (sL l) ∧ (VOK 2 l.n l.cap (RSp.enc res) l.sp l.q) ∧ HV w (keys [] []) [] [vL 37 l (RSp.enc res)] [] w') := by
  unfold ze at hm
  refine kl func79 Y ntmps79 Y (e := [(0, _)]) Y hw (jp (jb Y Y Y (fun _ _ => qf Y) (jV (je Y Y (jb Y Y Y (fun w _ => jR hna0 (runUnderlying26 w) Y) ?_)))))
  obtain ⟨t5, h2, hm⟩ := bindO hm
  refine JE RSp (⟨0, 0⟩ : Span) h2 underlying26 JD Y Y Y Y Y (fun L h3 => ?_)
  refine je Y Y ?_
  obtain ⟨t7, h4, hm⟩ := bindO hm
  refine yT RSp 0 h4 underlying26 JD Y Y Y Y Y h3 Y Y hna0 hqa0 (fun w hh => (hh.seg 0 Y)) Y (fun L_1 h5 h5n => ?_)
  refine jH (S' := []) (vs' := [_]) [] [0] 0 Y Y Y Y (jl Y Y (jo (ju ?_)))
  obtain rfl := sj hm
  refine jm Y (fun w hh => (.tmp Y .nil)) (fun w hh => ⟨L_1, rfl, h5, hh.se [] [0] 1 Y Y Y rfl⟩)
def QK (s0 : Scalps) : Option Scalps :=
 (qV s0.strips).bind fun t5 =>
 (ze s0.carried).bind fun t8 =>
 some (⟨t5, t8⟩ : Scalps)
theorem jab (s0 : Scalps) (qa0 : Option Addr) (na0 ca0 : Nat) (qa1 : Option Addr) (na1 ca1 : Nat) (w : World) (hw : HV w (keys [] []) [] [] [(aB qa0, aO qa0, RSt.enc s0.strips), (aB qa1, aO qa1, RSp.enc s0.carried)] w) (hna0 : s0.strips.length = na0) (hqa0 : AOK na0 qa0) (hla0 : na0 ≤ ca0) (hna1 : s0.carried.length = na1) (hqa1 : AOK na1 qa1) (hla1 : na1 ≤ ca1) {res : Scalps} (hm : QK s0 = some res) :
    Calls Try.prog 22 #[.agg #[.slice qa0 na0 ca0, .slice qa1 na1 ca1]] w (fun en w' => ∃ l : VL × VL, en = .returned (.agg #[sL l.1, sL l.2]) ∧ (VOK 7 l.1.n l.1.cap (RSt.enc res.strips) l.1.sp l.1.q ∧ VOK 2 l.2.n l.2.cap (RSp.enc res.carried) l.2.sp l.2.q) ∧ HV w (keys [] []) [] [vL 77 l.1 (RSt.enc res.strips), vL 37 l.2 (RSp.enc res.carried)] [] w') := by
  unfold QK at hm
  refine kl func22 Y ntmps22 Y (e := [(0, _)]) Y hw (jp ?_)
  refine jF Y Y (fun b h3 => ?_)
  refine jq (fun w => zeroValue28 w) Y (fun b_1 h4 => ?_)
  refine jo (jk ?_)
  refine j4 none (.free 0 (.hoist 1 (.free 3 (.hoist 4 (.one 2 (.one 5 (.free 6 (.one 7 .done)))))))) (HV _ _ [kc b #[.slice qa0 na0 ca0, .slice qa1 na1 ca1] 28] [] _) Y (by decide +kernel) (fun w k hh => hh.draw k) (hsE [1] [] 0 Y Y Y Y) ?_
  refine qo 0 runUnderlying28 sizeOf25 Y Y Y Y (qW 0 isAgg25 Y Y Y Y Y (qo 1 runUnderlying28 sizeOf26 Y Y Y Y (qW 0 isAgg26 Y Y Y Y Y (jK Y ?_))))
  obtain ⟨t5, h5, hm⟩ := bindO hm
  refine jd [] [] Y Y Y Y Y Y Y call78 (fun w hh => KS s0.strips qa0 na0 ca0 w (HV.callee (S0 := []) (vs0 := []) hh (roR hh 0 Y roN)) hna0 hqa0 hla0 h5) (fun l h6 => ?_)
  have h7 := h6
  refine jH (S' := [_, _]) (vs' := [_]) [0, 1] [0] 0 Y Y Y Y (jv (hsE [1] [] 0 Y Y Y Y) (jK Y ?_))
  obtain ⟨t8, h8, hm⟩ := bindO hm
  refine jd [] [] Y Y Y Y Y Y Y call79 (fun w hh => Qy s0.carried qa1 na1 ca1 w (HV.callee (S0 := []) (vs0 := []) hh (roR hh 1 Y roN)) hna1 hqa1 hla1 h8) (fun l_1 h9 => ?_)
  have h10 := h9
  refine jH (S' := [_, _]) (vs' := [_, _]) [0, 1] [0, 1] 0 Y Y Y Y (jv (hsE [1] [] 0 Y Y Y Y) (jg Y Y Y Y (fun _ _ => jA (vs := [(0, _), (1, _)]) (cells := [_, _]) Y Y) (jK Y (jB (us := #[_, _]) (cs' := [_, _]) (S' := [_, _]) 0 (fun w => sizeOf28 w) Y Y Y Y Y Y Y (jv (hsE [1] [] 0 Y Y Y Y) (jN (ja ?_)))))))
  refine ju ?_
  obtain rfl := sj hm
  refine jm Y (fun w hh => (.cell Y (loadVar_agg (vs := [_, _]) (isAgg28 _) (sizeOf28 _) (hh.cells 0 Y Y)) .nil)) (fun w hh => ⟨(l, l_1), rfl, ⟨h7, h10⟩, hh.se [] [1, 0] 2 Y Y Y rfl⟩)
end Go.Proofs.Ws

namespace Go.Proofs.Ws
set_option maxHeartbeats 4000000
set_option maxRecDepth 100000
open Go Go.Fw Go.Gx Go.Sp
open Try
set_option linter.unusedVariables false
structure Jk where
  r0 : Lack
  r1 : Int
def zg (s0 : Scalps) : Option Jk :=
 (kM s0).bind fun t10 =>
 oc t10 (fun t10a => some (⟨(⟨false, []⟩ : Lack), t10a⟩ : Jk)) (fun t10b => (Jj s0.strips s0.carried).bind fun t20 =>
 (jW s0.strips s0.carried t10b (fun p : Pair => jI p s0.strips s0.carried)).bind fun t21 =>
 oc t21 (fun t21a => some (⟨t21a, 0⟩ : Jk)) (fun t21b => some (⟨(⟨false, []⟩ : Lack), 6⟩ : Jk)))
theorem Yh (s0 : Scalps) (qa0 : Option Addr) (na0 ca0 : Nat) (qa1 : Option Addr) (na1 ca1 : Nat) (w : World) (hw : HV w (keys [] []) [] [] [(aB qa0, aO qa0, RSt.enc s0.strips), (aB qa1, aO qa1, RSp.enc s0.carried)] w) (hna0 : s0.strips.length = na0) (hqa0 : AOK na0 qa0) (hla0 : na0 ≤ ca0) (hna1 : s0.carried.length = na1) (hqa1 : AOK na1 qa1) (hla1 : na1 ≤ ca1) {res : Jk} (hm : zg s0 = some res) :
    Calls Try.prog 28 #[.agg #[.slice qa0 na0 ca0, .slice qa1 na1 ca1]] w (fun en w' => ∃ l : VL, en = .returned (.tuple #[.agg #[.bool res.r0.tenants, sL l], .int .i64 res.r1]) ∧ (VOK 1 l.n l.cap (RI.enc res.r0.of_) l.sp l.q) ∧ HV w (keys [] []) [] [vL 3 l (RI.enc res.r0.of_)] [] w') := by
  unfold zg at hm
  refine kl func28 Y ntmps28 Y (e := [(0, _)]) Y hw (jp ?_)
  refine jF Y Y (fun b h2 => ?_)
  refine jq (fun w => zeroValue61 w) Y (fun b_1 h3 => ?_)
  refine jl Y Y (jV (qX [_, _] 1 isAgg28 sizeOf28 Y Y Y Y ?_))
  obtain ⟨t10, h4, hm⟩ := bindO hm
  rcases t10 with t10a | t10b
  ·replace hm := ocL hm
   refine jd [] [] Y Y Y Y Y Y Y call65 (fun w hh => kn s0 qa0 na0 ca0 qa1 na1 ca1 w (HV.callee (S0 := []) (vs0 := []) hh (roR hh 0 Y (roR hh 1 Y roN))) hna0 hqa0 hla0 hna1 hqa1 hla1 h4) (fun l h5 => ?_)
   have h6 := h5
   refine je Y Y (ka Y Y Y (ka Y Y Y (jl Y Y (jl Y Y (jo (jk (jp ?_)))))))
   refine je Y Y (jb Y Y Y (fun _ _ => Qk h6 Y Y) (jo (y8 Y Y (jp (jb Y Y Y (fun _ _ => jA (vs := []) (cells := [_, _]) Y Y) (je Y Y (jB (us := #[_, _]) (cs' := [_, _]) (S' := [_, _]) 0 (fun w => sizeOf61 w) Y Y Y Y Y Y Y ?_)))))))
   refine jl Y Y (jo (ju (jf (kG 3 ?_))))
   obtain rfl := sj hm
   refine jm Y (fun w hh => (.cell Y (loadVar_agg (vs := [_, _]) (isAgg61 _) (sizeOf61 _) (hh.cells 0 Y Y)) (.tmp Y .nil))) (fun w hh => ⟨⟨none, 0, 0, []⟩, rfl, VOK.nil, hh.se [] [0] 2 Y Y Y rfl⟩)
  replace hm := ocR hm
  refine jd [] [] Y Y Y Y Y Y Y call65 (fun w hh => kn s0 qa0 na0 ca0 qa1 na1 ca1 w (HV.callee (S0 := []) (vs0 := []) hh (roR hh 0 Y (roR hh 1 Y roN))) hna0 hqa0 hla0 hna1 hqa1 hla1 h4) (fun l_1 h7 => ?_)
  refine jH (S' := [_, _, _, _]) (vs' := []) [0, 1, 2, 3] [] 0 Y Y Y Y (je Y Y (ka Y Y Y (ka Y Y Y (jl Y Y (jl Y Y (jo (jk ?_)))))))
  refine jp (je Y Y (jb Y Y Y (fun _ _ => q5 Y Y) (jo (qS Y Y (js (ja (jp ?_)))))))
  refine je Y Y (je Y Y ?_)
  obtain ⟨t20, h8, hm⟩ := bindO hm
  refine jd [] [] Y Y Y Y Y Y Y call67 (fun w hh => K0 s0.strips s0.carried l_1.1 qa0 na0 ca0 qa1 na1 ca1 (.map (some l_1.2)) w (HV.callee (S0 := []) (vs0 := []) hh (roC (bsep (hh.bseg 0 Y)) (roR hh 0 Y (roR hh 1 Y roN)))) hna0 hqa0 hla0 hna1 hqa1 hla1 h8) (fun l_2 h9 => ?_)
  refine jH (S' := [_, _, _, _, _]) (vs' := []) [0, 1, 2, 3, 4] [] 0 Y Y Y Y ?_
  obtain ⟨t21, h10, hm⟩ := bindO hm
  rcases t21 with t21a | t21b
  ·replace hm := ocL hm
   refine jH (S' := [_, _, _, _, _]) (vs' := []) [2, 0, 1, 3, 4] [] 0 Y Y Y Y ?_
   refine jd [_] [] Y Y Y Y Y Y Y call66 (fun w hh => j2 s0.strips s0.carried t10b (fun p : Pair => jI p s0.strips s0.carried) l_1.1 qa0 na0 ca0 qa1 na1 ca1 l_1.2 122 (#[]) (#[ptr l_2 0]) ([(l_2, 0, [.func (.func 97) #[ptr l_1.1 0] #[]]), (l_1.1, 0, [.slice qa0 na0 ca0, .slice qa1 na1 ca1, .map (some l_1.2)]), (aB qa0, aO qa0, RSt.enc s0.strips), (aB qa1, aO qa1, RSp.enc s0.carried)]) w (HV.callee (S0 := [_]) (vs0 := []) hh (roA (roC (hh.bsepH 1 Y) (roR hh 0 Y (roR hh 1 Y roN))) (roC (hh.bsepH 0 Y) (roC (hh.bsepH 1 Y) (roR hh 0 Y (roR hh 1 Y roN)))))) hna0 hqa0 hla0 hna1 hqa1 hla1 (⟨fun a w => call122 a w, (fun p r hr w hT => clRet (zy p s0.strips s0.carried l_2 l_1.1 qa0 na0 ca0 qa1 na1 ca1 (.map (some l_1.2)) w (HVstart hT) hna0 hqa0 hla0 hna1 hqa1 hla1 hr))⟩ : ClOK Try.prog 122 #[] #[ptr l_2 0] ([(l_2, 0, [.func (.func 97) #[ptr l_1.1 0] #[]]), (l_1.1, 0, [.slice qa0 na0 ca0, .slice qa1 na1 ca1, .map (some l_1.2)]), (aB qa0, aO qa0, RSt.enc s0.strips), (aB qa1, aO qa1, RSp.enc s0.carried)]) (fun x : Pair => [.agg #[.int .i64 x.tenant, .int .i64 x.strip]]) (fun x : Int => .int .i64 x) (fun p : Pair => jI p s0.strips s0.carried)) h10) (fun l_3 h11 => ?_)
   have h12 := h11
   refine jH (S' := [_, _, _, _, _]) (vs' := [_]) [0, 1, 2, 3, 4] [0] 0 Y Y Y Y (je Y Y (ka Y Y Y (ka Y Y Y ?_)))
   refine jq (fun w => zeroValue61 w) Y (fun b_2 h13 => ?_)
   refine jl Y Y (jB (us := #[_, _]) (cs' := [_, _]) (S' := [_, _, _, _, _, _]) 0 (fun w => sizeOf61 w) Y Y Y Y Y Y Y (jo (jk (jp (je Y Y (jb Y Y Y (fun w _ => YQ (runUnderlying118 w) Y Y) (jo ?_)))))))
   refine qS Y Y (js (ja (jp (qX [_, _] 0 isAgg61 sizeOf61 Y Y Y Y (jB (us := #[_, _]) (cs' := [_, _]) (S' := [_, _, _, _, _, _]) 4 (fun w => sizeOf61 w) Y Y Y Y Y Y Y (jl Y Y (jo ?_)))))))
   refine ju ?_
   obtain rfl := sj hm
   refine jm Y (fun w hh => (.cell Y (loadVar_agg (vs := [_, _]) (isAgg61 _) (sizeOf61 _) (hh.cells 4 Y Y)) (.tmp Y .nil))) (fun w hh => ⟨l_3, rfl, h12, hh.se [] [0] 2 Y Y Y rfl⟩)
  replace hm := ocR hm
  refine jH (S' := [_, _, _, _, _]) (vs' := []) [2, 0, 1, 3, 4] [] 0 Y Y Y Y ?_
  refine jd [_] [] Y Y Y Y Y Y Y call66 (fun w hh => j2 s0.strips s0.carried t10b (fun p : Pair => jI p s0.strips s0.carried) l_1.1 qa0 na0 ca0 qa1 na1 ca1 l_1.2 122 (#[]) (#[ptr l_2 0]) ([(l_2, 0, [.func (.func 97) #[ptr l_1.1 0] #[]]), (l_1.1, 0, [.slice qa0 na0 ca0, .slice qa1 na1 ca1, .map (some l_1.2)]), (aB qa0, aO qa0, RSt.enc s0.strips), (aB qa1, aO qa1, RSp.enc s0.carried)]) w (HV.callee (S0 := [_]) (vs0 := []) hh (roA (roC (hh.bsepH 1 Y) (roR hh 0 Y (roR hh 1 Y roN))) (roC (hh.bsepH 0 Y) (roC (hh.bsepH 1 Y) (roR hh 0 Y (roR hh 1 Y roN)))))) hna0 hqa0 hla0 hna1 hqa1 hla1 (⟨fun a w => call122 a w, (fun p r hr w hT => clRet (zy p s0.strips s0.carried l_2 l_1.1 qa0 na0 ca0 qa1 na1 ca1 (.map (some l_1.2)) w (HVstart hT) hna0 hqa0 hla0 hna1 hqa1 hla1 hr))⟩ : ClOK Try.prog 122 #[] #[ptr l_2 0] ([(l_2, 0, [.func (.func 97) #[ptr l_1.1 0] #[]]), (l_1.1, 0, [.slice qa0 na0 ca0, .slice qa1 na1 ca1, .map (some l_1.2)]), (aB qa0, aO qa0, RSt.enc s0.strips), (aB qa1, aO qa1, RSp.enc s0.carried)]) (fun x : Pair => [.agg #[.int .i64 x.tenant, .int .i64 x.strip]]) (fun x : Int => .int .i64 x) (fun p : Pair => jI p s0.strips s0.carried)) h10) (fun l_4 h14 => ?_)
  obtain ⟨h15, h16⟩ := h14
  refine jH (S' := [_, _, _, _, _, _]) (vs' := [_, _]) [0, 1, 2, 3, 4, 5] [0, 1] 0 Y Y Y Y (je Y Y (ka Y Y Y (ka Y Y Y ?_)))
  refine jq (fun w => zeroValue61 w) Y (fun b_3 h17 => ?_)
  refine jl Y Y (jB (us := #[_, _]) (cs' := [_, _]) (S' := [_, _, _, _, _, _, _]) 0 (fun w => sizeOf61 w) Y Y Y Y Y Y Y (jo (jk (jp (je Y Y (jb Y Y Y (fun w _ => YQ (runUnderlying118 w) Y Y) (jo ?_)))))))
  refine y8 Y Y (jp (jb Y Y Y (fun _ _ => jA (vs := []) (cells := [_, _]) Y Y) (jB (us := #[_, _]) (cs' := [_, _]) (S' := [_, _, _, _, _, _, _]) 5 (fun w => sizeOf61 w) Y Y Y Y Y Y Y (jl Y Y (jo (ju (jf ?_)))))))
  refine kG 3 ?_
  obtain rfl := sj hm
  refine jm Y (fun w hh => (.cell Y (loadVar_agg (vs := [_, _]) (isAgg61 _) (sizeOf61 _) (hh.cells 5 Y Y)) (.tmp Y .nil))) (fun w hh => ⟨⟨none, 0, 0, []⟩, rfl, VOK.nil, hh.se [] [0] 2 Y Y Y rfl⟩)
end Go.Proofs.Ws

namespace Go.Proofs.Ws
set_option maxHeartbeats 4000000
set_option maxRecDepth 100000
open Go Go.Fw Go.Gx Go.Sp
open Try
set_option linter.unusedVariables false

structure K8 where
  t5_1 : Int
  t5_2 : Int
def KT (shells0 : (List Int)) : Option K8 :=
 some (⟨0, 0⟩ : K8)
theorem YP (shells0 : (List Int)) (qa0 : Option Addr) (na0 ca0 : Nat) (w : World) (hw : HV w (keys [] []) [] [] [(aB qa0, aO qa0, RU8.enc shells0)] w) (hna0 : shells0.length = na0) (hqa0 : AOK na0 qa0) (hla0 : na0 ≤ ca0) {res : K8} (hm : KT shells0 = some res) :
    Calls Try.prog 12 #[.slice qa0 na0 ca0] w (fun en w' => ∃ l : Nat, en = .returned (ptr l 0) ∧ (True) ∧ HV w (keys [] []) [kc l #[.slice qa0 na0 ca0, .int .i64 res.t5_1, .int .u32 res.t5_2] 105] [] [] w') := by
  unfold KT at hm
  refine kl func12 Y ntmps12 Y (e := [(0, _)]) Y hw (jp (jl Y Y (jV (je Y Y (jb Y Y Y (fun _ _ => jA (vs := [(0, _)]) (cells := [_, _, _]) Y Y) ?_)))))
  refine jF Y Y (fun b h1 => ?_)
  refine jl Y Y (jo (ju ?_))
  obtain rfl := sj hm
  refine jm Y (fun w hh => (.tmp Y .nil)) (fun w hh => ⟨b, rfl, trivial, hh.se [0] [] 1 Y Y Y rfl⟩)
structure zn where
  r0 : Int
  h0_1 : Int
  h0_2 : Int
structure Jx where
  h0_1 : Int
  h0_2 : Int
def q4 (h00 : (List Int)) (h01 : Int) (h02 : Int) : Option zn :=
 (if h01 < (h00.length : Int) then
 ((ix h00 h01).bind fun t29 =>
 some (IntKind.u32.wrap ((IntKind.u32.wrap (40503 * (IntKind.u32.wrap (h02 + 1)))) + (IntKind.u32.wrap (331 * (IntKind.u32.wrap t29)))))) else
 (some (IntKind.u32.wrap (40503 * (IntKind.u32.wrap (h02 + 1)))))).bind fun o =>
 ((addc h01 1).bind fun t38 =>
 if (h00.length : Int) ≤ t38 then
 (some (⟨0, (IntKind.u32.wrap (h02 + 1))⟩ : Jx)) else
 (some (⟨t38, h02⟩ : Jx))).bind fun o_1 =>
 some (⟨(IntKind.i64.wrap (IntKind.u32.wrap (BitVec.ofInt IntKind.u32.bits (IntKind.u32.wrap (BitVec.ofInt IntKind.u32.bits o ^^^ BitVec.ofInt IntKind.u32.bits (Int.fdiv o (2 ^ min (Int.toNat 9) IntKind.u32.bits))).toNat) &&& BitVec.ofInt IntKind.u32.bits 32767).toNat)), o_1.h0_1, o_1.h0_2⟩ : zn)
theorem QJ (h00 : (List Int)) (h01 : Int) (h02 : Int) (pb : Nat) (qa0 : Option Addr) (na0 ca0 : Nat) (w : World) (hw : HV w (keys [kc pb #[.slice qa0 na0 ca0, .int .i64 h01, .int .u32 h02] 105] []) [kc pb #[.slice qa0 na0 ca0, .int .i64 h01, .int .u32 h02] 105] [] [(aB qa0, aO qa0, RU8.enc h00)] w) (hna0 : h00.length = na0) (hqa0 : AOK na0 qa0) (hla0 : na0 ≤ ca0) {res : zn} (hm : q4 h00 h01 h02 = some res) :
    Calls Try.prog 90 #[ptr pb 0] w (fun en w' => ∃ l : Unit, en = .returned (.int .i64 res.r0) ∧ (True) ∧ HV w (keys [kc pb #[.slice qa0 na0 ca0, .int .i64 h01, .int .u32 h02] 105] []) [kc pb #[.slice qa0 na0 ca0, .int .i64 res.h0_1, .int .u32 res.h0_2] 105] [] [] w') := by
  unfold q4 at hm
  refine kl func90 Y ntmps90 Y (e := [(0, _)]) Y hw (jp (jl Y Y (jV (je Y Y (jb Y Y Y (fun _ _ => jw Y) (j7 2 runUnderlying105 Y sizeOf103 Y Y (kx 0 isAgg103 Y Y Y Y ?_)))))))
  refine jb Y Y Y (fun _ _ => Zg Y Y) (jb Y Y Y (fun _ _ => ZJ Y Y) (jl Y Y (jo (jk ?_))))
  obtain ⟨o, h1, h2⟩ := bindO hm
  refine jM (ι := Unit) (fun l => True) (fun l => [(0, ptr pb 0), (3, .int .u32 o)]) (fun l => [kc pb #[.slice qa0 na0 ca0, .int .i64 h01, .int .u32 h02] 105]) (fun l => []) ?_ ?_
  ·replace hm := h1
   refine jk ?_
   refine j4 none (.free 0 (.free 1 (.free 2 (.hoist 3 (.free 4 (.free 5 (.free 6 (.hoist 7 (.free 8 (.free 9 .done)))))))))) _ Y (by decide +kernel) (fun w k hh => hh.draw k) (fun w hh => hh) ?_
   refine kU Y Y Y (jg Y Y Y Y (fun _ _ => jw Y) (qo 1 runUnderlying105 sizeOf3 Y Y Y Y (qW 0 isAgg3 Y Y Y Y Y (kU Y Y Y (jg Y Y Y Y (fun _ _ => jw Y) (qo 0 runUnderlying105 sizeOf22 Y Y Y Y (qW 0 isAgg22 Y Y Y Y Y ?_)))))))
   refine jg Y Y Y Y (fun w _ => jR hna0 (runUnderlying22 w) Y) (jg Y Y Y Y (fun _ _ => YN Y Y) (jN (ja ?_)))
   refine jr Y (fun h3 => ?_) (fun h3 => ?_)
   ·replace hm := ifD h3 hm
    refine j4 none (.free 0 (.free 1 (.free 2 (.free 3 (.hoist 4 (.free 5 (.free 6 (.free 7 (.hoist 8 (.free 9 (.hoist 10 (.free 11 (.free 12 (.free 13 (.free 14 .done))))))))))))))) _ Y (by decide +kernel) (fun w k hh => hh.draw k) (fun w hh => hh) ?_
    refine kU Y Y Y (kU Y Y Y (jg Y Y Y Y (fun _ _ => jw Y) (qo 0 runUnderlying105 sizeOf22 Y Y Y Y (qW 0 isAgg22 Y Y Y Y Y (kU Y Y Y (jg Y Y Y Y (fun _ _ => jw Y) (qo 1 runUnderlying105 sizeOf3 Y Y Y Y ?_)))))))
    refine qW 0 isAgg3 Y Y Y Y Y ?_
    obtain ⟨t29, h4, hm⟩ := bindO hm
    refine jg Y Y Y Y (fun w _ => q7 h4 (runUnderlying22 w) (sizeOf5 w) Y Y hna0 hqa0) (jG Y Y Y Y (fun w hh => qx RU8 0 h4 (isAgg5 w) Y (hh.seg 0 Y) Y (Nat.add_zero _).symm) (jg Y Y Y Y (fun w _ => YT (runUnderlying5 w) (runUnderlying103 w) Y) (jg Y Y Y Y (fun _ _ => ZJ Y Y) (jg Y Y Y Y (fun _ _ => Zg Y Y) (jg Y Y Y Y (fun _ _ => jU Y) (jN ?_))))))
    obtain rfl := sj hm
    exact jn () (trivial) (sE Y) (fun w hh => hh)
   replace hm := ifE h3 hm
   refine js ?_
   obtain rfl := sj hm
   exact jn () (trivial) (sE Y) (fun w hh => hh)
  intro l hj
  replace hm := h2
  refine ja (jk ?_)
  obtain ⟨o_1, h5, h6⟩ := bindO hm
  refine jM (ι := Unit) (fun l_1 => True) (fun l_1 => [(3, .int .u32 o)]) (fun l_1 => [kc pb #[.slice qa0 na0 ca0, .int .i64 o_1.h0_1, .int .u32 o_1.h0_2] 105]) (fun l_1 => []) ?_ ?_
  ·replace hm := h5
   refine jp (je Y Y (jb Y Y Y (fun _ _ => jw Y) (j7 1 runUnderlying105 Y sizeOf3 Y Y (kx 0 isAgg3 Y Y Y Y ?_))))
   obtain ⟨t38, h7, hm⟩ := bindO hm
   refine yA h7 Y Y Y (jb Y Y Y (fun _ _ => jw Y) (j7 1 runUnderlying105 Y sizeOf3 Y Y (yo (cs' := #[_, _, _]) (S' := [_]) 0 (fun w => sizeOf3 w) Y Y Y Y Y Y Y (jo (jk ?_)))))
   refine j4 none (.free 0 (.free 1 (.free 2 (.hoist 3 (.free 4 (.free 5 (.free 6 (.hoist 7 (.free 8 (.free 9 .done)))))))))) _ Y (by decide +kernel) (fun w k hh => hh.draw k) (fun w hh => hh) ?_
   refine kU Y Y Y (jg Y Y Y Y (fun _ _ => jw Y) (qo 1 runUnderlying105 sizeOf3 Y Y Y Y (qW 0 isAgg3 Y Y Y Y Y (kU Y Y Y (jg Y Y Y Y (fun _ _ => jw Y) (qo 0 runUnderlying105 sizeOf22 Y Y Y Y (qW 0 isAgg22 Y Y Y Y Y ?_)))))))
   refine jg Y Y Y Y (fun w _ => jR hna0 (runUnderlying22 w) Y) (jg Y Y Y Y (fun _ _ => K4 Y Y) (jN (ja ?_)))
   refine jr Y (fun h8 => ?_) (fun h8 => ?_)
   ·replace hm := ifD h8 hm
    refine jh (je Y Y (je Y Y (je Y Y (jb Y Y Y (fun _ _ => jw Y) (j7 2 runUnderlying105 Y sizeOf103 Y Y (kx 0 isAgg103 Y Y Y Y (jb Y Y Y (fun _ _ => Zg Y Y) ?_)))))))
    refine jb Y Y Y (fun _ _ => jw Y) (j7 1 runUnderlying105 Y sizeOf3 Y Y (yo (cs' := #[_, _, _]) (S' := [_]) 0 (fun w => sizeOf3 w) Y Y Y Y Y Y Y (jb Y Y Y (fun _ _ => jw Y) (j7 2 runUnderlying105 Y sizeOf103 Y Y (yo (cs' := #[_, _, _]) (S' := [_]) 0 (fun w => sizeOf103 w) Y Y Y Y Y Y Y (jx ?_))))))
    obtain rfl := sj hm
    exact jn () (trivial) (sE Y) (fun w hh => hh)
   replace hm := ifE h8 hm
   refine js ?_
   obtain rfl := sj hm
   exact jn () (trivial) (sE Y) (fun w hh => hh)
  intro l_1 hj
  replace hm := h6
  refine ja (jp (je Y Y (je Y Y (jb Y Y Y (fun _ _ => jak Y Y (by decide)) (jb Y Y Y (fun _ _ => ZP Y Y Y) (jb Y Y Y (fun _ _ => ZP Y Y Y) (jb Y Y Y (fun w _ => YT (runUnderlying103 w) (runUnderlying3 w) Y) ?_)))))))
  refine jl Y Y (jo (ju ?_))
  obtain rfl := sj hm
  refine jm Y (fun w hh => (.tmp Y .nil)) (fun w hh => ⟨(), rfl, trivial, hh.se [0] [] 1 Y Y Y rfl⟩)
structure zu where
  r0 : Int
  h0_1 : Int
  h0_2 : Int
def jL (h00 : (List Int)) (h01 : Int) (h02 : Int) (n1 : Int) : Option zu :=
 (q4 h00 h01 h02).bind fun t6 =>
 (addc n1 1).bind fun t8 =>
 (remc t6.r0 (max 1 t8)).bind fun t10 =>
 some (⟨t10, t6.h0_1, t6.h0_2⟩ : zu)
theorem kd (h00 : (List Int)) (h01 : Int) (h02 : Int) (n1 : Int) (pb : Nat) (qa0 : Option Addr) (na0 ca0 : Nat) (w : World) (hw : HV w (keys [kc pb #[.slice qa0 na0 ca0, .int .i64 h01, .int .u32 h02] 105] []) [kc pb #[.slice qa0 na0 ca0, .int .i64 h01, .int .u32 h02] 105] [] [(aB qa0, aO qa0, RU8.enc h00)] w) (hna0 : h00.length = na0) (hqa0 : AOK na0 qa0) (hla0 : na0 ≤ ca0) {res : zu} (hm : jL h00 h01 h02 n1 = some res) :
    Calls Try.prog 33 #[ptr pb 0, .int .i64 n1] w (fun en w' => ∃ l : Unit, en = .returned (.int .i64 res.r0) ∧ (True) ∧ HV w (keys [kc pb #[.slice qa0 na0 ca0, .int .i64 h01, .int .u32 h02] 105] []) [kc pb #[.slice qa0 na0 ca0, .int .i64 res.h0_1, .int .u32 res.h0_2] 105] [] [] w') := by
  unfold jL at hm
  refine kl func33 Y ntmps33 Y (e := [(0, _), (1, _)]) Y hw (jp (jl Y Y (jV (je Y Y ?_))))
  obtain ⟨t6, h1, hm⟩ := bindO hm
  refine jd [_] [] Y Y Y Y Y Y Y call90 (fun w hh => QJ h00 h01 h02 pb qa0 na0 ca0 w (HV.callee (S0 := [_]) (vs0 := []) hh (roR hh 0 Y roN)) hna0 hqa0 hla0 h1) (fun l h2 => ?_)
  refine jH (S' := [_]) (vs' := []) [0] [] 0 Y Y Y Y (je Y Y ?_)
  obtain ⟨t8, h3, hm⟩ := bindO hm
  refine yA h3 Y Y Y (jb Y Y Y (fun _ _ => Y7 Y Y) ?_)
  obtain ⟨t10, h4, hm⟩ := bindO hm
  refine jb Y Y Y (fun _ _ => YU h4 Y Y) (jl Y Y (jo (ju ?_)))
  obtain rfl := sj hm
  refine jm Y (fun w hh => (.tmp Y .nil)) (fun w hh => ⟨(), rfl, trivial, hh.se [0] [] 1 Y Y Y rfl⟩)
structure jJ where
  r0 : Int
  h0_1 : Int
  h0_2 : Int
def qe (h00 : (List Int)) (h01 : Int) (h02 : Int) (lo1 : Int) (hi2 : Int) : Option jJ :=
 (subc hi2 lo1).bind fun t11 =>
 (jL h00 h01 h02 t11).bind fun t12 =>
 (addc lo1 t12.r0).bind fun t13 =>
 some (⟨t13, t12.h0_1, t12.h0_2⟩ : jJ)
theorem Kx (h00 : (List Int)) (h01 : Int) (h02 : Int) (lo1 : Int) (hi2 : Int) (pb : Nat) (qa0 : Option Addr) (na0 ca0 : Nat) (w : World) (hw : HV w (keys [kc pb #[.slice qa0 na0 ca0, .int .i64 h01, .int .u32 h02] 105] []) [kc pb #[.slice qa0 na0 ca0, .int .i64 h01, .int .u32 h02] 105] [] [(aB qa0, aO qa0, RU8.enc h00)] w) (hna0 : h00.length = na0) (hqa0 : AOK na0 qa0) (hla0 : na0 ≤ ca0) {res : jJ} (hm : qe h00 h01 h02 lo1 hi2 = some res) :
    Calls Try.prog 42 #[ptr pb 0, .int .i64 lo1, .int .i64 hi2] w (fun en w' => ∃ l : Unit, en = .returned (.int .i64 res.r0) ∧ (True) ∧ HV w (keys [kc pb #[.slice qa0 na0 ca0, .int .i64 h01, .int .u32 h02] 105] []) [kc pb #[.slice qa0 na0 ca0, .int .i64 res.h0_1, .int .u32 res.h0_2] 105] [] [] w') := by
  unfold qe at hm
  refine kl func42 Y ntmps42 Y (e := [(0, _), (1, _), (2, _)]) Y hw (jp (jl Y Y (jV (je Y Y (je Y Y (je Y Y (je Y Y ?_)))))))
  obtain ⟨t11, h1, hm⟩ := bindO hm
  refine jb Y Y Y (fun _ _ => qc h1 Y Y) ?_
  obtain ⟨t12, h2, hm⟩ := bindO hm
  refine jd [_] [] Y Y Y Y Y Y Y call33 (fun w hh => kd h00 h01 h02 t11 pb qa0 na0 ca0 w (HV.callee (S0 := [_]) (vs0 := []) hh (roR hh 0 Y roN)) hna0 hqa0 hla0 h2) (fun l h3 => ?_)
  refine jH (S' := [_]) (vs' := []) [0] [] 0 Y Y Y Y ?_
  obtain ⟨t13, h4, hm⟩ := bindO hm
  refine yA h4 Y Y Y (jl Y Y (jo (ju ?_)))
  obtain rfl := sj hm
  refine jm Y (fun w hh => (.tmp Y .nil)) (fun w hh => ⟨(), rfl, trivial, hh.se [0] [] 1 Y Y Y rfl⟩)
def yC (s0 : Scalps) (tenant1 : Int) (which2 : Int) (s : Int) : Option (Int ⊕ (Unit ⊕ Bool)) :=
 if s < (s0.strips.length : Int) then
 ((ix s0.strips s).bind fun t15 =>
 (if t15.tenant = tenant1 then
 ((subc s which2).bind fun t24 =>
 (subc which2 s).bind fun t27 =>
 some (decide ((max t24 t27) < 2))) else
 (some false)).bind fun o_1 =>
 if o_1 = true then
 (some (.inr (.inr true))) else
 ((addc s 1).bind fun t31 =>
 some (.inl t31))) else
 (some (.inr (.inl ())))
def Ji (s0 : Scalps) (tenant1 : Int) (which2 : Int) : Option Bool :=
 (iterM FU (yC s0 tenant1 which2) 0).bind fun o =>
 oc o (fun j => some false) (fun r_1 => some r_1)
theorem YO (s0 : Scalps) (tenant1 : Int) (which2 : Int) (qa0 : Option Addr) (na0 ca0 : Nat) (qa1 : Option Addr) (na1 ca1 : Nat) (w : World) (hw : HV w (keys [] []) [] [] [(aB qa0, aO qa0, RSt.enc s0.strips), (aB qa1, aO qa1, RSp.enc s0.carried)] w) (hna0 : s0.strips.length = na0) (hqa0 : AOK na0 qa0) (hla0 : na0 ≤ ca0) (hna1 : s0.carried.length = na1) (hqa1 : AOK na1 qa1) (hla1 : na1 ≤ ca1) {res : Bool} (hm : Ji s0 tenant1 which2 = some res) :
    Calls Try.prog 43 #[.agg #[.slice qa0 na0 ca0, .slice qa1 na1 ca1], .int .i64 tenant1, .int .i64 which2] w (fun en w' => ∃ l : Unit, en = .returned (.bool res) ∧ (True) ∧ HV w (keys [] []) [] [] [] w') := by
  unfold Ji at hm
  refine kl func43 Y ntmps43 Y (e := [(0, _), (1, _), (2, _)]) Y hw (jp ?_)
  refine jF Y Y (fun b h1 => ?_)
  refine jl Y Y (jo (jk (jp (j7 0 runUnderlying28 Y sizeOf25 Y Y (kx 0 isAgg25 Y Y Y Y (jb Y Y Y (fun w _ => jR hna0 (runUnderlying25 w) Y) (je Y Y ?_)))))))
  refine jo ?_
  obtain ⟨o, h2, h3⟩ := bindO hm
  refine jM (ι := Unit) (fun j => o = .inl j) (fun j => []) (fun j => [kc b #[.slice qa0 na0 ca0, .slice qa1 na1 ca1] 28]) (fun j => []) ?_ ?_
  ·replace hm := h2
   refine jj ?_
   refine jD (ι := Unit) hm (fun s l => True) (fun s l => [(1, .int .i64 tenant1), (2, .int .i64 which2), (10, .slice qa0 na0 ca0), (11, .int .i64 (s0.strips.length : Int)), (12, .int .i64 s)]) (fun s l => [kc b #[.slice qa0 na0 ca0, .slice qa1 na1 ca1] 28]) (fun s l => []) () (trivial) (sE Y) (fun w hh => hh) (fun s l r hpl hm h4 => ?_)
   unfold yC at hm
   refine jp (zK Y Y Y (jo (jk ?_)))
   refine jr Y (fun h5 => ?_) (fun h5 => ?_)
   ·replace hm := ifD h5 hm
    refine js (ja (jk (jj (jp (je Y Y ?_)))))
    obtain ⟨t15, h6, hm⟩ := bindO hm
    refine jb Y Y Y (fun w _ => q7 h6 (runUnderlying25 w) (sizeOf77 w) Y Y hna0 hqa0) ?_
    refine jb Y Y Y (fun w hh => kT RSt 0 [.int .i64 t15.tenant, .int .i64 t15.lay.lo, .int .i64 t15.lay.hi, .int .i64 t15.seeded.lo, .int .i64 t15.seeded.hi, .int .i64 t15.left.lo, .int .i64 t15.left.hi] h6 (isAgg77 w) (sizeOf77 w) Y (hh.seg 0 Y) Y (Nat.add_zero _).symm) ?_
    refine jq (fun w => zeroValue77 w) Y (fun b_1 h7 => ?_)
    refine jl Y Y (jB (us := #[_, _, _, _, _, _, _]) (cs' := [_, _, _, _, _, _, _]) (S' := [_, _]) 0 (fun w => sizeOf77 w) Y Y Y Y Y Y Y (jo (jk ?_)))
    obtain ⟨o_1, h8, h9⟩ := bindO hm
    refine jM (ι := Unit) (fun l_1 => True) (fun l_1 => [(1, .int .i64 tenant1), (2, .int .i64 which2), (10, .slice qa0 na0 ca0), (11, .int .i64 (s0.strips.length : Int)), (12, .int .i64 s), (30, .bool o_1)]) (fun l_1 => [kc b_1 #[.int .i64 t15.tenant, .int .i64 t15.lay.lo, .int .i64 t15.lay.hi, .int .i64 t15.seeded.lo, .int .i64 t15.seeded.hi, .int .i64 t15.left.lo, .int .i64 t15.left.hi] 77, kc b #[.slice qa0 na0 ca0, .slice qa1 na1 ca1] 28]) (fun l_1 => []) ?_ ?_
    ·replace hm := h8
     refine jh (j7 0 runUnderlying77 Y sizeOf3 Y Y (kx 0 isAgg3 Y Y Y Y (je Y Y (jb Y Y Y (fun _ _ => JT Y Y) (je Y Y ?_)))))
     refine jZ 21 Y (fun h10 => ?_) (fun h10 => ?_)
     ·replace hm := ifD h10 hm
      refine jc Y Y (je Y Y (jc Y Y (je Y Y (jc Y Y ?_))))
      obtain ⟨t24, h11, hm⟩ := bindO hm
      refine jb Y Y Y (fun _ _ => qc h11 Y Y) (jc Y Y (je Y Y (jc Y Y (je Y Y (jc Y Y ?_)))))
      obtain ⟨t27, h12, hm⟩ := bindO hm
      refine jb Y Y Y (fun _ _ => qc h12 Y Y) (jc Y Y (jb Y Y Y (fun _ _ => Y7 Y Y) (jc Y Y (zK Y Y Y (qO Y Y Y (jx ?_))))))
      obtain rfl := sj hm
      exact jn () (trivial) (sE Y) (fun w hh => hh)
     replace hm := ifE h10 hm
     refine g_k Y Y Y Y (g_k Y Y Y Y (g_k Y Y Y Y (g_k Y Y Y Y (g_k Y Y Y Y (g_k Y Y Y Y (g_k Y Y Y Y (g_k Y Y Y Y ?_)))))))
     refine yW Y Y Y (jx ?_)
     obtain rfl := sj hm
     exact jn () (trivial) (sE Y) (fun w hh => hh)
    intro l_1 hj
    replace hm := h9
    refine ja ?_
    refine jr Y (fun h13 => ?_) (fun h13 => ?_)
    ·replace hm := ifT (h13) hm
     refine jp (jl Y Y (jo (ju (jy (jf (jf (jy ?_)))))))
     obtain rfl := sj hm
     have hbo := h4 _ Y
     subst hbo
     refine jf ?_
     replace hm := ocR h3
     refine jf ?_
     obtain rfl := sj hm
     refine jm Y (fun w hh => (.tmp Y .nil)) (fun w hh => ⟨(), rfl, trivial, hh.se [] [] 2 Y Y Y rfl⟩)
    replace hm := ifN h13 hm
    refine js (jt (ja (jh ?_)))
    obtain ⟨t31, h14, hm⟩ := bindO hm
    refine yA h14 Y Y Y (je Y Y (jx ?_))
    obtain rfl := sj hm
    refine ja ?_
    exact jz _ () Y (trivial) (sE Y) (hsE [1] [] 0 Y Y Y Y)
   replace hm := ifE h5 hm
   refine jP (ji (ji (jC ?_)))
   obtain rfl := sj hm
   have hbo := h4 _ Y
   subst hbo
   exact jn () (Y) (.nil) (fun w hh => hh)
  intro j hj
  have h15 := hj
  subst h15
  replace hm := ocL h3
  refine ja (jp (jl Y Y (jo (ju ?_))))
  obtain rfl := sj hm
  refine jm Y (fun w hh => (.tmp Y .nil)) (fun w hh => ⟨(), rfl, trivial, hh.se [] [] 2 Y Y Y rfl⟩)
structure zp where
  r0 : Bool
  h0_1 : Int
  h0_2 : Int
def kA (h00 : (List Int)) (h01 : Int) (h02 : Int) (n1 : Int) : Option zp :=
 (subc n1 1).bind fun t7 =>
 (jL h00 h01 h02 t7).bind fun t8 =>
 some (⟨(decide (t8.r0 = 0)), t8.h0_1, t8.h0_2⟩ : zp)
theorem QA (h00 : (List Int)) (h01 : Int) (h02 : Int) (n1 : Int) (pb : Nat) (qa0 : Option Addr) (na0 ca0 : Nat) (w : World) (hw : HV w (keys [kc pb #[.slice qa0 na0 ca0, .int .i64 h01, .int .u32 h02] 105] []) [kc pb #[.slice qa0 na0 ca0, .int .i64 h01, .int .u32 h02] 105] [] [(aB qa0, aO qa0, RU8.enc h00)] w) (hna0 : h00.length = na0) (hqa0 : AOK na0 qa0) (hla0 : na0 ≤ ca0) {res : zp} (hm : kA h00 h01 h02 n1 = some res) :
    Calls Try.prog 34 #[ptr pb 0, .int .i64 n1] w (fun en w' => ∃ l : Unit, en = .returned (.bool res.r0) ∧ (True) ∧ HV w (keys [kc pb #[.slice qa0 na0 ca0, .int .i64 h01, .int .u32 h02] 105] []) [kc pb #[.slice qa0 na0 ca0, .int .i64 res.h0_1, .int .u32 res.h0_2] 105] [] [] w') := by
  unfold kA at hm
  refine kl func34 Y ntmps34 Y (e := [(0, _), (1, _)]) Y hw (jp (jl Y Y (jV (je Y Y (je Y Y ?_)))))
  obtain ⟨t7, h1, hm⟩ := bindO hm
  refine jb Y Y Y (fun _ _ => qc h1 Y Y) ?_
  obtain ⟨t8, h2, hm⟩ := bindO hm
  refine jd [_] [] Y Y Y Y Y Y Y call33 (fun w hh => kd h00 h01 h02 t7 pb qa0 na0 ca0 w (HV.callee (S0 := [_]) (vs0 := []) hh (roR hh 0 Y roN)) hna0 hqa0 hla0 h2) (fun l h3 => ?_)
  refine jH (S' := [_]) (vs' := []) [0] [] 0 Y Y Y Y (jb Y Y Y (fun _ _ => JT Y Y) (jl Y Y (jo (ju ?_))))
  obtain rfl := sj hm
  refine jm Y (fun w hh => (.tmp Y .nil)) (fun w hh => ⟨(), rfl, trivial, hh.se [0] [] 1 Y Y Y rfl⟩)
structure JF where
  r0 : Span
  b0_1 : Int
  b0_2 : Int
def kw (b00 : (List Int)) (b01 : Int) (b02 : Int) (n1 : Int) (wider2 : Int) : Option JF :=
 (jL b00 b01 b02 wider2).bind fun t10 =>
 (subc n1 t10.r0).bind fun t11 =>
 (jL b00 t10.h0_1 t10.h0_2 wider2).bind fun t16 =>
 (addc n1 t16.r0).bind fun t17 =>
 some (⟨(⟨(max 0 t11), (min 30 t17)⟩ : Span), t16.h0_1, t16.h0_2⟩ : JF)
theorem zM (b00 : (List Int)) (b01 : Int) (b02 : Int) (n1 : Int) (wider2 : Int) (pb : Nat) (qa0 : Option Addr) (na0 ca0 : Nat) (w : World) (hw : HV w (keys [kc pb #[.slice qa0 na0 ca0, .int .i64 b01, .int .u32 b02] 105] []) [kc pb #[.slice qa0 na0 ca0, .int .i64 b01, .int .u32 b02] 105] [] [(aB qa0, aO qa0, RU8.enc b00)] w) (hna0 : b00.length = na0) (hqa0 : AOK na0 qa0) (hla0 : na0 ≤ ca0) {res : JF} (hm : kw b00 b01 b02 n1 wider2 = some res) :
    Calls Try.prog 35 #[ptr pb 0, .int .i64 n1, .int .i64 wider2] w (fun en w' => ∃ l : Unit, en = .returned (.agg #[.int .i64 res.r0.lo, .int .i64 res.r0.hi]) ∧ (True) ∧ HV w (keys [kc pb #[.slice qa0 na0 ca0, .int .i64 b01, .int .u32 b02] 105] []) [kc pb #[.slice qa0 na0 ca0, .int .i64 res.b0_1, .int .u32 res.b0_2] 105] [] [] w') := by
  unfold kw at hm
  refine kl func35 Y ntmps35 Y (e := [(0, _), (1, _), (2, _)]) Y hw (jp ?_)
  refine jq (fun w => zeroValue37 w) Y (fun b h1 => ?_)
  refine jV (je Y Y (je Y Y (je Y Y ?_)))
  obtain ⟨t10, h2, hm⟩ := bindO hm
  refine jH (S' := [_, _]) (vs' := []) [1, 0] [] 0 Y Y Y Y ?_
  refine jd [_] [] Y Y Y Y Y Y Y call33 (fun w hh => kd b00 b01 b02 wider2 pb qa0 na0 ca0 w (HV.callee (S0 := [_]) (vs0 := []) hh (roR hh 0 Y roN)) hna0 hqa0 hla0 h2) (fun l h3 => ?_)
  refine jH (S' := [_, _]) (vs' := []) [0, 1] [] 0 Y Y Y Y ?_
  obtain ⟨t11, h4, hm⟩ := bindO hm
  refine jb Y Y Y (fun _ _ => qc h4 Y Y) (jb Y Y Y (fun _ _ => Y7 Y Y) (je Y Y (je Y Y (je Y Y ?_))))
  obtain ⟨t16, h5, hm⟩ := bindO hm
  refine jd [_] [] Y Y Y Y Y Y Y call33 (fun w hh => kd b00 t10.h0_1 t10.h0_2 wider2 pb qa0 na0 ca0 w (HV.callee (S0 := [_]) (vs0 := []) hh (roR hh 0 Y roN)) hna0 hqa0 hla0 h5) (fun l_1 h6 => ?_)
  refine jH (S' := [_, _]) (vs' := []) [0, 1] [] 0 Y Y Y Y ?_
  obtain ⟨t17, h7, hm⟩ := bindO hm
  refine yA h7 Y Y Y (jb Y Y Y (fun _ _ => Z6 Y Y) (jb Y Y Y (fun _ _ => jA (vs := [(0, _), (1, _)]) (cells := [_, _]) Y Y) (jB (us := #[_, _]) (cs' := [_, _]) (S' := [_, _]) 1 (fun w => sizeOf37 w) Y Y Y Y Y Y Y (jo (ju ?_)))))
  obtain rfl := sj hm
  refine jm Y (fun w hh => (.cell Y (loadVar_agg (vs := [_, _]) (isAgg37 _) (sizeOf37 _) (hh.cells 1 Y Y)) .nil)) (fun w hh => ⟨(), rfl, trivial, hh.se [0] [] 1 Y Y Y rfl⟩)
structure yV where
  r0 : Scalps
  b0_1 : Int
  b0_2 : Int
  r1 : (List (List Int))
structure yt where
  b0_1 : Int
  b0_2 : Int
  s8_strips : (List Strip)
structure Jb where
  t29 : Int
  b0_1 : Int
  b0_2 : Int
  s8_strips : (List Strip)
def y3 (t24 : jJ) (t27 : jJ) (b00 : (List Int)) (s : Jb) : Option (Jb ⊕ yt) :=
 if s.t29 < t24.r0 then
 ((subc t27.r0 1).bind fun t35 =>
 (jL b00 s.b0_1 s.b0_2 t35).bind fun t36 =>
 (appc 56 s.s8_strips [(⟨t36.r0, (⟨0, 0⟩ : Span), (⟨0, 0⟩ : Span), (⟨0, 0⟩ : Span)⟩ : Strip)]).bind fun t39 =>
 (addc s.t29 1).bind fun t41 =>
 some (.inl (⟨t41, t36.h0_1, t36.h0_2, t39⟩ : Jb))) else
 (some (.inr (⟨s.b0_1, s.b0_2, s.s8_strips⟩ : yt)))
structure yj where
  b0_1 : Int
  b0_2 : Int
  real11 : (List (List Int))
  s8_carried : (List Span)
structure yn where
  t46 : Int
  b0_1 : Int
  b0_2 : Int
  real11 : (List (List Int))
  s8_carried : (List Span)
structure KX where
  sum13 : Int
  b0_1 : Int
  b0_2 : Int
  real11 : (List (List Int))
structure Jd where
  sum13 : Int
  t50 : Int
  b0_1 : Int
  b0_2 : Int
  real11 : (List (List Int))
structure y7 where
  n15 : Int
  b0_1 : Int
  b0_2 : Int
structure kv where
  t70 : Bool
  b0_1 : Int
  b0_2 : Int
def yY (t24 : jJ) (o : yt) (s_1 : yn) (b00 : (List Int)) (s_2 : Jd) : Option (Jd ⊕ KX) :=
 if s_2.t50 < t24.r0 then
 ((((Ji (⟨o.s8_strips, s_1.s8_carried⟩ : Scalps) s_1.t46 s_2.t50).bind fun t56 =>
 if t56 = true then
 ((ix o.s8_strips s_2.t50).bind fun t61 =>
 if t61.tenant = s_1.t46 then
 (some (⟨true, s_2.b0_1, s_2.b0_2⟩ : kv)) else
 ((kA b00 s_2.b0_1 s_2.b0_2 4).bind fun t68 =>
 some (⟨t68.r0, t68.h0_1, t68.h0_2⟩ : kv))) else
 (some (⟨false, s_2.b0_1, s_2.b0_2⟩ : kv))).bind fun o_4 =>
 if o_4.t70 = true then
 ((jL b00 o_4.b0_1 o_4.b0_2 4).bind fun t72 =>
 some (⟨t72.r0, t72.h0_1, t72.h0_2⟩ : y7)) else
 (some (⟨0, o_4.b0_1, o_4.b0_2⟩ : y7))).bind fun o_3 =>
 (ix s_2.real11 s_1.t46).bind fun t77 =>
 (appc 8 t77 [o_3.n15]).bind fun t81 =>
 (addc s_2.sum13 o_3.n15).bind fun t84 =>
 (ix s_2.real11 s_1.t46).bind fun t85 =>
 (some (s_2.real11.set (Int.toNat s_1.t46) t81)).bind fun real11 =>
 (addc s_2.t50 1).bind fun t86 =>
 some (.inl (⟨t84, t86, o_3.b0_1, o_3.b0_2, real11⟩ : Jd))) else
 (some (.inr (⟨s_2.sum13, s_2.b0_1, s_2.b0_2, s_2.real11⟩ : KX)))
def yZ (t43 : (List (List Int))) (t24 : jJ) (o : yt) (b00 : (List Int)) (s_1 : yn) : Option (yn ⊕ yj) :=
 if s_1.t46 < (t43.length : Int) then
 ((iterM FU (yY t24 o s_1 b00) (⟨0, 0, s_1.b0_1, s_1.b0_2, s_1.real11⟩ : Jd)).bind fun o_2 =>
 (kw b00 o_2.b0_1 o_2.b0_2 o_2.sum13 2).bind fun t91 =>
 (appc 16 s_1.s8_carried [t91.r0]).bind fun t93 =>
 (addc s_1.t46 1).bind fun t95 =>
 some (.inl (⟨t95, t91.b0_1, t91.b0_2, o_2.real11, t93⟩ : yn))) else
 (some (.inr (⟨s_1.b0_1, s_1.b0_2, s_1.real11, s_1.s8_carried⟩ : yj)))
structure K2 where
  b0_1 : Int
  b0_2 : Int
  s8_strips : (List Strip)
structure yg where
  t97 : Int
  b0_1 : Int
  b0_2 : Int
  s8_strips : (List Strip)
structure z7 where
  gone17 : Int
  t102 : Int
def yu (o_1 : yj) (s_3 : yg) (s_4 : z7) : Option (z7 ⊕ Int) :=
 if s_4.t102 < (o_1.real11.length : Int) then
 ((ix o_1.real11 s_4.t102).bind fun t108 =>
 (ix t108 s_3.t97).bind fun t111 =>
 (addc s_4.gone17 t111).bind fun t113 =>
 (addc s_4.t102 1).bind fun t114 =>
 some (.inl (⟨t113, t114⟩ : z7))) else
 (some (.inr s_4.gone17))
def yX (t24 : jJ) (o_1 : yj) (b00 : (List Int)) (s_3 : yg) : Option (yg ⊕ K2) :=
 if s_3.t97 < t24.r0 then
 ((iterM FU (yu o_1 s_3) (⟨0, 0⟩ : z7)).bind fun o_6 =>
 (jL b00 s_3.b0_1 s_3.b0_2 3).bind fun t116 =>
 (jL b00 t116.h0_1 t116.h0_2 2).bind fun t118 =>
 (addc o_6 t116.r0).bind fun t121 =>
 (ix s_3.s8_strips s_3.t97).bind fun t126 =>
 (addc o_6 t116.r0).bind fun t133 =>
 (subc t133 (min t118.r0 t121)).bind fun t135 =>
 (kw b00 t118.h0_1 t118.h0_2 t135 1).bind fun t136 =>
 (kw b00 t136.b0_1 t136.b0_2 (min t118.r0 t121) 1).bind fun t139 =>
 (kw b00 t139.b0_1 t139.b0_2 t116.r0 1).bind fun t142 =>
 (some (s_3.s8_strips.set (Int.toNat s_3.t97) (⟨t126.tenant, t136.r0, t126.seeded, t126.left⟩ : Strip))).bind fun s8_strips =>
 (ix s8_strips s_3.t97).bind fun x =>
 (some (s8_strips.set (Int.toNat s_3.t97) (⟨x.tenant, x.lay, t139.r0, x.left⟩ : Strip))).bind fun s8_strips_1 =>
 (ix s8_strips_1 s_3.t97).bind fun x_1 =>
 (some (s8_strips_1.set (Int.toNat s_3.t97) (⟨x_1.tenant, x_1.lay, x_1.seeded, t142.r0⟩ : Strip))).bind fun s8_strips_2 =>
 (addc s_3.t97 1).bind fun t149 =>
 some (.inl (⟨t149, t142.b0_1, t142.b0_2, s8_strips_2⟩ : yg))) else
 (some (.inr (⟨s_3.b0_1, s_3.b0_2, s_3.s8_strips⟩ : K2)))
def JN (b00 : (List Int)) (b01 : Int) (b02 : Int) (strips1 : Int) (tenants2 : Int) : Option yV :=
 (qe b00 b01 b02 1 strips1).bind fun t24 =>
 (qe b00 t24.h0_1 t24.h0_2 1 tenants2).bind fun t27 =>
 (iterM FU (y3 t24 t27 b00) (⟨0, t27.h0_1, t27.h0_2, []⟩ : Jb)).bind fun o =>
 (makec 24 ([] : (List Int)) t27.r0 t27.r0).bind fun t43 =>
 (iterM FU (yZ t43 t24 o b00) (⟨0, o.b0_1, o.b0_2, t43, []⟩ : yn)).bind fun o_1 =>
 (iterM FU (yX t24 o_1 b00) (⟨0, o_1.b0_1, o_1.b0_2, o.s8_strips⟩ : yg)).bind fun o_5 =>
 some (⟨(⟨o_5.s8_strips, o_1.s8_carried⟩ : Scalps), o_5.b0_1, o_5.b0_2, o_1.real11⟩ : yV)
theorem Y3 (b00 : (List Int)) (b01 : Int) (b02 : Int) (strips1 : Int) (tenants2 : Int) (pb : Nat) (qa0 : Option Addr) (na0 ca0 : Nat) (w : World) (hw : HV w (keys [kc pb #[.slice qa0 na0 ca0, .int .i64 b01, .int .u32 b02] 105] []) [kc pb #[.slice qa0 na0 ca0, .int .i64 b01, .int .u32 b02] 105] [] [(aB qa0, aO qa0, RU8.enc b00)] w) (hna0 : b00.length = na0) (hqa0 : AOK na0 qa0) (hla0 : na0 ≤ ca0) {res : yV} (hm : JN b00 b01 b02 strips1 tenants2 = some res) :
    Calls Try.prog 13 #[ptr pb 0, .int .i64 strips1, .int .i64 tenants2] w (fun en w' => ∃ l : VL × VL × DL, en = .returned (.tuple #[.agg #[sL l.1, sL l.2.1], sL l.2.2.v]) ∧ (VOK 7 l.1.n l.1.cap (RSt.enc res.r0.strips) l.1.sp l.1.q ∧ VOK 2 l.2.1.n l.2.1.cap (RSp.enc res.r0.carried) l.2.1.sp l.2.1.q ∧ VOK 1 l.2.2.v.n l.2.2.v.cap (RwH.enc l.2.2.rs) l.2.2.v.sp l.2.2.v.q ∧ DOK RI res.r1 l.2.2.rs) ∧ HV w (keys [kc pb #[.slice qa0 na0 ca0, .int .i64 b01, .int .u32 b02] 105] []) [kc pb #[.slice qa0 na0 ca0, .int .i64 res.b0_1, .int .u32 res.b0_2] 105] [vL 77 l.1 (RSt.enc res.r0.strips), vL 37 l.2.1 (RSp.enc res.r0.carried), ⟨32, RwH.enc l.2.2.rs, l.2.2.v.sp, l.2.2.v.q, dbl 3 RI res.r1 l.2.2.rs⟩] [] w') := by
  unfold JN at hm
  refine kl func13 Y ntmps13 Y (e := [(0, _), (1, _), (2, _)]) Y hw (jp ?_)
  refine jq (fun w => zeroValue28 w) Y (fun b h5 => ?_)
  refine jb Y Y Y (fun _ _ => qf Y) (jV ?_)
  refine jq (fun w => zeroValue28 w) Y (fun b_1 h6 => ?_)
  refine jV (je Y Y (je Y Y ?_))
  obtain ⟨t24, h7, hm⟩ := bindO hm
  refine jH (S' := [_, _, _]) (vs' := []) [2, 0, 1] [] 0 Y Y Y Y ?_
  refine jd [_] [] Y Y Y Y Y Y Y call42 (fun w hh => Kx b00 b01 b02 1 strips1 pb qa0 na0 ca0 w (HV.callee (S0 := [_]) (vs0 := []) hh (roR hh 0 Y roN)) hna0 hqa0 hla0 h7) (fun l h8 => ?_)
  refine jH (S' := [_, _, _]) (vs' := []) [0, 1, 2] [] 0 Y Y Y Y (je Y Y (je Y Y ?_))
  obtain ⟨t27, h9, hm⟩ := bindO hm
  refine jd [_] [] Y Y Y Y Y Y Y call42 (fun w hh => Kx b00 t24.h0_1 t24.h0_2 1 tenants2 pb qa0 na0 ca0 w (HV.callee (S0 := [_]) (vs0 := []) hh (roR hh 0 Y roN)) hna0 hqa0 hla0 h9) (fun l_1 h10 => ?_)
  refine jH (S' := [_, _, _]) (vs' := []) [0, 1, 2] [] 0 Y Y Y Y (jl Y Y (jl Y Y (jo (jk (jp (je Y Y (je Y Y ?_)))))))
  refine jo (kG 77 ?_)
  obtain ⟨o, h11, h12⟩ := bindO hm
  refine jM (ι := VL) (fun l_2 => VOK 7 l_2.n l_2.cap (RSt.enc o.s8_strips) l_2.sp l_2.q) (fun l_2 => [(0, ptr pb 0), (6, ptr b 0), (8, ptr b_1 0), (9, .int .i64 t24.r0), (10, .int .i64 t27.r0)]) (fun l_2 => [kc pb #[.slice qa0 na0 ca0, .int .i64 o.b0_1, .int .u32 o.b0_2] 105, kc b_1 #[sL l_2, slv none 0 0] 28, kc b #[slv none 0 0, slv none 0 0] 28]) (fun l_2 => [vL 77 l_2 (RSt.enc o.s8_strips)]) ?_ ?_
  ·replace hm := h11
   refine jj ?_
   refine jD (ι := VL) hm (fun s l_3 => VOK 7 l_3.n l_3.cap (RSt.enc s.s8_strips) l_3.sp l_3.q) (fun s l_3 => [(0, ptr pb 0), (6, ptr b 0), (8, ptr b_1 0), (9, .int .i64 t24.r0), (10, .int .i64 t27.r0), (28, .int .i64 t24.r0), (29, .int .i64 s.t29)]) (fun s l_3 => [kc pb #[.slice qa0 na0 ca0, .int .i64 s.b0_1, .int .u32 s.b0_2] 105, kc b_1 #[sL l_3, slv none 0 0] 28, kc b #[slv none 0 0, slv none 0 0] 28]) (fun s l_3 => [vL 77 l_3 (RSt.enc s.s8_strips)]) ⟨none, 0, 0, []⟩ (VOK.nil) (sE Y) (fun w hh => hh) (fun s l_3 r hpl hm h15 => ?_)
   have h14 := hpl
   unfold y3 at hm
   refine jp (zK Y Y Y (jo (jk ?_)))
   refine jr Y (fun h16 => ?_) (fun h16 => ?_)
   ·replace hm := ifD h16 hm
    refine js (ja (jk (jj ?_)))
    refine j4 (some 10) (.free 0 (.hoist 1 (.free 2 (.free 3 (.free 4 (.one 5 (.free 6 (.one 7 (.one 8 (.free 9 (.last 10 .done))))))))))) (HV _ _ [kc b_1 #[sL l_3, slv none 0 0] 28, kc b #[slv none 0 0, slv none 0 0] 28] [] _) Y (by decide +kernel) (fun w k hh => hh.draw k) (hsE [1, 2] [] 0 Y Y Y Y) ?_
    refine qo 0 runUnderlying28 sizeOf25 Y Y Y Y (qW 0 isAgg25 Y Y Y Y Y (kU Y Y Y (kU Y Y Y ?_)))
    obtain ⟨t35, h17, hm⟩ := bindO hm
    refine jg Y Y Y Y (fun _ _ => qc h17 Y Y) (jK Y ?_)
    obtain ⟨t36, h18, hm⟩ := bindO hm
    refine jd [_] [] Y Y Y Y Y Y Y call33 (fun w hh => kd b00 s.b0_1 s.b0_2 t35 pb qa0 na0 ca0 w (HV.callee (S0 := [_]) (vs0 := []) hh (roR hh 0 Y roN)) hna0 hqa0 hla0 h18) (fun l_4 h19 => ?_)
    refine jH (S' := [_, _, _]) (vs' := [_]) [0, 1, 2] [0] 0 Y Y Y Y (jv (hsE [1, 2] [] 0 Y Y Y Y) (jg Y Y Y Y (fun _ _ => jA (vs := [(0, _)]) (cells := [_, _, _, _, _, _, _]) Y Y) (jK Y ?_)))
    refine kS RSt [(⟨t36.r0, (⟨0, 0⟩ : Span), (⟨0, 0⟩ : Span), (⟨0, 0⟩ : Span)⟩ : Strip)] (ps := [(0, _)]) (cells := [_, _, _, _, _, _, _]) (fun w => runUnderlying25 w) (fun w => sizeOf77 w) (fun w => zeroValue77 w) Y Y Y Y Y Y Y Y (fun L h20 => ?_)
    refine jv (hsE [1, 2] [] 0 Y Y Y Y) (jK Y ?_)
    obtain ⟨t39, h21, hm⟩ := bindO hm
    refine yT RSt 1 h21 underlying25 Yc Y Y Y Y Y h14 Y Y (vlen RSt h20 Y) (AOK.q (vne h20)) (fun w hh => (hh.vsegA 0 Y h20)) Y (fun L_1 h22 h22n => ?_)
    refine jH (S' := [_, _, _]) (vs' := [_, _]) [0, 1, 2] [0, 1] 0 Y Y Y Y (jv (hsE [1, 2] [] 0 Y Y Y Y) (qo 0 runUnderlying28 sizeOf25 Y Y Y Y (Ko Y (yo (cs' := #[_, _]) (S' := [_, _, _]) 1 (fun w => sizeOf25 w) Y Y Y Y Y Y Y (Jp (jN (jt ?_)))))))
    refine ja (jh ?_)
    obtain ⟨t41, h23, hm⟩ := bindO hm
    refine yA h23 Y Y Y (je Y Y (jx ?_))
    obtain rfl := sj hm
    refine ja ?_
    exact jz _ L_1 Y (h22) (sE Y) (hsE [0, 1, 2] [1] 0 Y Y Y Y)
   replace hm := ifE h16 hm
   refine jP (ji (ji (jC ?_)))
   obtain rfl := sj hm
   have hbo := h15 _ Y
   subst hbo
   exact jn l_3 (h14) (sE Y) (fun w hh => hh)
  intro l_2 hj
  have h13 := hj
  replace hm := h12
  refine ja (jp (je Y Y ?_))
  obtain ⟨t43, h24, hm⟩ := bindO hm
  refine JE RwH vl0 (makecL vl0 h24) underlying29 Zi Y Y Y Y Y (fun L_2 h25 => ?_)
  refine ZR (E2 := 3) RI (Int.toNat t27.r0) (makecO h24).1.symm (fun h26 => ?_)
  refine jl Y Y (jo (jk (jp (je Y Y (jb Y Y Y (fun w _ => zQ (Eq.trans (h26).len (vlen RwH h25 Y)) (runUnderlying29 w) Y) (je Y Y (jo ?_)))))))
  refine kG 37 ?_
  obtain ⟨o_1, h27, h28⟩ := bindO hm
  refine jM (ι := DL × VL) (fun l_5 => VOK 1 l_5.1.v.n l_5.1.v.cap (RwH.enc l_5.1.rs) l_5.1.v.sp l_5.1.v.q ∧ DOK RI o_1.real11 l_5.1.rs ∧ VOK 2 l_5.2.n l_5.2.cap (RSp.enc o_1.s8_carried) l_5.2.sp l_5.2.q) (fun l_5 => [(0, ptr pb 0), (6, ptr b 0), (8, ptr b_1 0), (9, .int .i64 t24.r0), (11, sL l_5.1.v)]) (fun l_5 => [kc pb #[.slice qa0 na0 ca0, .int .i64 o_1.b0_1, .int .u32 o_1.b0_2] 105, kc b_1 #[sL l_2, sL l_5.2] 28, kc b #[slv none 0 0, slv none 0 0] 28]) (fun l_5 => [⟨32, RwH.enc l_5.1.rs, l_5.1.v.sp, l_5.1.v.q, dbl 3 RI o_1.real11 l_5.1.rs⟩, vL 77 l_2 (RSt.enc o.s8_strips), vL 37 l_5.2 (RSp.enc o_1.s8_carried)]) ?_ ?_
  ·replace hm := h27
   refine jj ?_
   refine jD (ι := DL × VL) hm (fun s_1 l_6 => VOK 1 l_6.1.v.n l_6.1.v.cap (RwH.enc l_6.1.rs) l_6.1.v.sp l_6.1.v.q ∧ DOK RI s_1.real11 l_6.1.rs ∧ VOK 2 l_6.2.n l_6.2.cap (RSp.enc s_1.s8_carried) l_6.2.sp l_6.2.q) (fun s_1 l_6 => [(0, ptr pb 0), (6, ptr b 0), (8, ptr b_1 0), (9, .int .i64 t24.r0), (11, sL l_6.1.v), (45, .int .i64 (t43.length : Int)), (46, .int .i64 s_1.t46)]) (fun s_1 l_6 => [kc pb #[.slice qa0 na0 ca0, .int .i64 s_1.b0_1, .int .u32 s_1.b0_2] 105, kc b_1 #[sL l_2, sL l_6.2] 28, kc b #[slv none 0 0, slv none 0 0] 28]) (fun s_1 l_6 => [⟨32, RwH.enc l_6.1.rs, l_6.1.v.sp, l_6.1.v.q, dbl 3 RI s_1.real11 l_6.1.rs⟩, vL 77 l_2 (RSt.enc o.s8_strips), vL 37 l_6.2 (RSp.enc s_1.s8_carried)]) (⟨⟨L_2.q, L_2.n, L_2.cap, L_2.sp⟩, (List.replicate (Int.toNat t27.r0) vl0)⟩, ⟨none, 0, 0, []⟩) (⟨h25, h26, VOK.nil⟩) (sE Y) (hsE [0, 1, 2] [1, 2, 0] 0 Y Y Y Y) (fun s_1 l_6 r_1 hpl hm h35 => ?_)
   obtain ⟨h32, h33, h34⟩ := hpl
   unfold yZ at hm
   refine jp (zK Y Y Y (jo (jk ?_)))
   refine jr Y (fun h36 => ?_) (fun h36 => ?_)
   ·replace hm := ifD h36 hm
    refine js (ja (jk (jj (jp (je Y Y (jl Y Y (jV ?_)))))))
    refine jl Y Y (jo (jk (jp (je Y Y (je Y Y (jo ?_))))))
    obtain ⟨o_2, h37, h38⟩ := bindO hm
    refine jM (ι := DL) (fun l_7 => VOK 1 l_7.v.n l_7.v.cap (RwH.enc l_7.rs) l_7.v.sp l_7.v.q ∧ DOK RI o_2.real11 l_7.rs) (fun l_7 => [(0, ptr pb 0), (6, ptr b 0), (8, ptr b_1 0), (9, .int .i64 t24.r0), (11, sL l_7.v), (13, .int .i64 o_2.sum13), (45, .int .i64 (t43.length : Int)), (46, .int .i64 s_1.t46)]) (fun l_7 => [kc pb #[.slice qa0 na0 ca0, .int .i64 o_2.b0_1, .int .u32 o_2.b0_2] 105, kc b_1 #[sL l_2, sL l_6.2] 28, kc b #[slv none 0 0, slv none 0 0] 28]) (fun l_7 => [⟨32, RwH.enc l_7.rs, l_7.v.sp, l_7.v.q, dbl 3 RI o_2.real11 l_7.rs⟩, vL 77 l_2 (RSt.enc o.s8_strips), vL 37 l_6.2 (RSp.enc s_1.s8_carried)]) ?_ ?_
    ·replace hm := h37
     refine jj ?_
     refine jD (ι := DL) hm (fun s_2 l_8 => VOK 1 l_8.v.n l_8.v.cap (RwH.enc l_8.rs) l_8.v.sp l_8.v.q ∧ DOK RI s_2.real11 l_8.rs) (fun s_2 l_8 => [(0, ptr pb 0), (6, ptr b 0), (8, ptr b_1 0), (9, .int .i64 t24.r0), (11, sL l_8.v), (12, .int .i64 s_1.t46), (13, .int .i64 s_2.sum13), (45, .int .i64 (t43.length : Int)), (46, .int .i64 s_1.t46), (49, .int .i64 t24.r0), (50, .int .i64 s_2.t50)]) (fun s_2 l_8 => [kc pb #[.slice qa0 na0 ca0, .int .i64 s_2.b0_1, .int .u32 s_2.b0_2] 105, kc b_1 #[sL l_2, sL l_6.2] 28, kc b #[slv none 0 0, slv none 0 0] 28]) (fun s_2 l_8 => [⟨32, RwH.enc l_8.rs, l_8.v.sp, l_8.v.q, dbl 3 RI s_2.real11 l_8.rs⟩, vL 77 l_2 (RSt.enc o.s8_strips), vL 37 l_6.2 (RSp.enc s_1.s8_carried)]) l_6.1 (⟨h32, h33⟩) (sE Y) (fun w hh => hh) (fun s_2 l_8 r_2 hpl hm h43 => ?_)
     obtain ⟨h41, h42⟩ := hpl
     unfold yY at hm
     refine jp (zK Y Y Y (jo (jk ?_)))
     refine jr Y (fun h44 => ?_) (fun h44 => ?_)
     ·replace hm := ifD h44 hm
      refine js (ja (jk (jj (jp (je Y Y (jl Y Y (jV ?_)))))))
      refine jl Y Y (jo (jk ?_))
      obtain ⟨o_3, h45, h46⟩ := bindO hm
      refine jM (ι := Unit) (fun l_9 => True) (fun l_9 => [(0, ptr pb 0), (6, ptr b 0), (8, ptr b_1 0), (9, .int .i64 t24.r0), (11, sL l_8.v), (12, .int .i64 s_1.t46), (13, .int .i64 s_2.sum13), (15, .int .i64 o_3.n15), (45, .int .i64 (t43.length : Int)), (46, .int .i64 s_1.t46), (49, .int .i64 t24.r0), (50, .int .i64 s_2.t50)]) (fun l_9 => [kc pb #[.slice qa0 na0 ca0, .int .i64 o_3.b0_1, .int .u32 o_3.b0_2] 105, kc b_1 #[sL l_2, sL l_6.2] 28, kc b #[slv none 0 0, slv none 0 0] 28]) (fun l_9 => [⟨32, RwH.enc l_8.rs, l_8.v.sp, l_8.v.q, dbl 3 RI s_2.real11 l_8.rs⟩, vL 77 l_2 (RSt.enc o.s8_strips), vL 37 l_6.2 (RSp.enc s_1.s8_carried)]) ?_ ?_
      ·replace hm := h45
       refine jk ?_
       obtain ⟨o_4, h47, h48⟩ := bindO hm
       refine jM (ι := Unit) (fun l_10 => True) (fun l_10 => [(0, ptr pb 0), (6, ptr b 0), (8, ptr b_1 0), (9, .int .i64 t24.r0), (11, sL l_8.v), (12, .int .i64 s_1.t46), (13, .int .i64 s_2.sum13), (15, .int .i64 0), (45, .int .i64 (t43.length : Int)), (46, .int .i64 s_1.t46), (49, .int .i64 t24.r0), (50, .int .i64 s_2.t50), (70, .bool o_4.t70)]) (fun l_10 => [kc pb #[.slice qa0 na0 ca0, .int .i64 o_4.b0_1, .int .u32 o_4.b0_2] 105, kc b_1 #[sL l_2, sL l_6.2] 28, kc b #[slv none 0 0, slv none 0 0] 28]) (fun l_10 => [⟨32, RwH.enc l_8.rs, l_8.v.sp, l_8.v.q, dbl 3 RI s_2.real11 l_8.rs⟩, vL 77 l_2 (RSt.enc o.s8_strips), vL 37 l_6.2 (RSp.enc s_1.s8_carried)]) ?_ ?_
       ·replace hm := h47
        refine jh (qX [_, _] 1 isAgg28 sizeOf28 Y Y Y Y (je Y Y (je Y Y ?_)))
        obtain ⟨t56, h49, hm⟩ := bindO hm
        refine jd [] [] Y Y Y Y Y Y Y call43 (fun w hh => YO (⟨o.s8_strips, s_1.s8_carried⟩ : Scalps) s_1.t46 s_2.t50 (qA l_2.q) l_2.n l_2.cap (qA l_6.2.q) l_6.2.n l_6.2.cap w (HV.callee (S0 := []) (vs0 := []) hh (roC (hh.vsepA 1 Y h13) (roC (hh.vsepA 2 Y h34) roN))) (vlen RSt h13 Y) (AOK.q (vne h13)) (h13).hle (vlen RSp h34 Y) (AOK.q (vne h34)) (h34).hle h49) (fun l_11 h50 => ?_)
        refine je Y Y ?_
        refine jZ 57 Y (fun h51 => ?_) (fun h51 => ?_)
        ·replace hm := ifT (h51) hm
         refine jc Y Y (j7 0 runUnderlying28 Y sizeOf25 Y Y (jc Y Y (kx 1 isAgg25 Y Y Y Y (jc Y Y (je Y Y (jc Y Y ?_))))))
         obtain ⟨t61, h52, hm⟩ := bindO hm
         refine jb Y Y Y (fun w _ => yJ h52 (runUnderlying25 w) (sizeOf77 w) Y Y (vlen RSt h13 Y) (vne h13)) (jc Y Y (j7 0 runUnderlying77 Y sizeOf3 Y Y (jc Y Y (jb Y Y Y (fun w hh => qx RSt 0 h52 (isAgg3 w) Y (hh.vseg 1 Y h13) Y Y) (jc Y Y (je Y Y (jc Y Y ?_)))))))
         refine jb Y Y Y (fun _ _ => JT Y Y) (jc Y Y (je Y Y ?_))
         refine jZ 66 Y (fun h53 => ?_) (fun h53 => ?_)
         ·replace hm := ifD h53 hm
          refine g_k Y Y Y Y (g_k Y Y Y Y (jc Y Y (qO Y Y Y (qO Y Y Y (jx ?_)))))
          obtain rfl := sj hm
          exact jn () (trivial) (sE Y) (fun w hh => hh)
         replace hm := ifE h53 hm
         refine jc Y Y (je Y Y (jc Y Y ?_))
         obtain ⟨t68, h54, hm⟩ := bindO hm
         refine jd [_] [] Y Y Y Y Y Y Y call34 (fun w hh => QA b00 s_2.b0_1 s_2.b0_2 4 pb qa0 na0 ca0 w (HV.callee (S0 := [_]) (vs0 := []) hh (roR hh 0 Y roN)) hna0 hqa0 hla0 h54) (fun l_12 h55 => ?_)
         refine jH (S' := [_, _, _]) (vs' := [_, _, _]) [0, 1, 2] [0, 1, 2] 0 Y Y Y Y (jc Y Y (yW Y Y Y (qO Y Y Y (jx ?_))))
         obtain rfl := sj hm
         exact jn () (trivial) (sE Y) (fun w hh => hh)
        replace hm := ifN h51 hm
        refine g_k Y Y Y Y (g_k Y Y Y Y (g_k Y Y Y Y (g_k Y Y Y Y (g_k Y Y Y Y (g_k Y Y Y Y (g_k Y Y Y Y (g_k Y Y Y Y ?_)))))))
        refine g_k Y Y Y Y ?_
        refine YX Y Y Y Y Y ?_
        refine YX Y Y Y Y Y ?_
        refine g_k Y Y Y Y (yW Y Y Y (jx ?_))
        obtain rfl := sj hm
        exact jn () (trivial) (sE Y) (fun w hh => hh)
       intro l_10 hj
       replace hm := h48
       refine ja ?_
       refine jr Y (fun h56 => ?_) (fun h56 => ?_)
       ·replace hm := ifT (h56) hm
        refine jh (je Y Y ?_)
        obtain ⟨t72, h57, hm⟩ := bindO hm
        refine jd [_] [] Y Y Y Y Y Y Y call33 (fun w hh => kd b00 o_4.b0_1 o_4.b0_2 4 pb qa0 na0 ca0 w (HV.callee (S0 := [_]) (vs0 := []) hh (roR hh 0 Y roN)) hna0 hqa0 hla0 h57) (fun l_13 h58 => ?_)
        refine jH (S' := [_, _, _]) (vs' := [_, _, _]) [0, 1, 2] [0, 1, 2] 0 Y Y Y Y (jl Y Y (jx ?_))
        obtain rfl := sj hm
        exact jn () (trivial) (sE Y) (fun w hh => hh)
       replace hm := ifN h56 hm
       refine js ?_
       obtain rfl := sj hm
       exact jn () (trivial) (sE Y) (fun w hh => hh)
      intro l_9 hj
      replace hm := h46
      refine ja (jh (je Y Y (je Y Y (je Y Y (je Y Y ?_)))))
      obtain ⟨t77, h59, hm⟩ := bindO hm
      obtain ⟨L_3, h60, h61⟩ := (h42).row h59
      refine jb Y Y Y (fun w _ => yJ h60 (runUnderlying29 w) (sizeOf32 w) Y Y (vlen RwH h41 Y) (vne h41)) (jb Y Y Y (fun w hh => qx RwH 0 h60 (isAgg32 w) Y (hh.vseg 0 Y h41) Y (Nat.add_zero _).symm) (je Y Y ?_))
      refine kS RI [o_3.n15] (ps := [(0, _)]) (cells := [_]) (fun w => runUnderlying32 w) (fun w => sizeOf3 w) (fun w => zeroValue3 w) Y Y Y Y Y Y Y Y (fun L_4 h62 => ?_)
      refine jH (S' := [_, _, _]) (vs' := [_, _, _, _]) [0, 1, 2] [1, 0, 2, 3] 0 Y Y Y Y ?_
      refine Zt RI s_1.t46 h42 h59 h60 (fun _ => ?_)
      obtain ⟨t81, h63, hm⟩ := bindO hm
      refine yT RI 1 h63 underlying32 Yp Y Y Y Y Y h61 Y Y (vlen RI h62 Y) (AOK.q (vne h62)) (fun w hh => (hh.vsegA 2 Y h62)) Y (fun L_5 h64 h64n => ?_)
      refine jH (S' := [_, _, _]) (vs' := [_, _, _, _, _]) [0, 1, 2] [0, 1, 2, 3, 4] 0 Y Y Y Y (je Y Y (je Y Y ?_))
      obtain ⟨t84, h65, hm⟩ := bindO hm
      refine yA h65 Y Y Y ?_
      obtain ⟨t85, h66, hm⟩ := bindO hm
      obtain ⟨L_6, h67, h68⟩ := (h42).row h66
      refine jb Y Y Y (fun w _ => yJ h67 (runUnderlying29 w) (sizeOf32 w) Y Y (vlen RwH h41 Y) (vne h41)) ?_
      obtain ⟨real11, hreal11, hm⟩ := bindO hm
      refine Y5 RwH 0 0 (⟨L_5.q, L_5.n, L_5.cap, L_5.sp⟩ : VL) (fun w => sizeOf32 w) Y Y Y Y h41 Y (Nat.add_zero _).symm Y h60 Y Y Y (fun h69 => ?_)
      refine jH (S' := [_, _, _]) (vs' := [_, _, _, _, _]) [0, 1, 2] [0, 1, 2, 3, 4] 0 Y Y Y Y (jH (S' := [_, _, _]) (vs' := [_, _, _, _, _]) [0, 1, 2] [0, 1, 2, 3, 4] 0 Y Y Y Y ?_)
      refine Zx RI s_1.t46 L_5.n L_5.cap h42 h59 h60 h64 (Option.some.inj hreal11) (fun h70 => ?_)
      refine jl Y Y (jx (jt (ja (jh ?_))))
      obtain ⟨t86, h71, hm⟩ := bindO hm
      refine yA h71 Y Y Y (je Y Y (jx ?_))
      obtain rfl := sj hm
      refine ja ?_
      exact jz _ (⟨⟨l_8.v.q, l_8.v.n, l_8.v.cap, l_8.v.sp⟩, (l_8.rs.set (Int.toNat s_1.t46) (⟨L_5.q, L_5.n, L_5.cap, L_5.sp⟩ : VL))⟩) Y (⟨h69, h70⟩) (sE Y) (hsE [0, 1, 2] [0, 2, 3] 0 Y Y Y Y)
     replace hm := ifE h44 hm
     refine jP (ji (ji (jC ?_)))
     obtain rfl := sj hm
     have hbo := h43 _ Y
     subst hbo
     exact jn l_8 (⟨h41, h42⟩) (sE Y) (fun w hh => hh)
    intro l_7 hj
    obtain ⟨h39, h40⟩ := hj
    replace hm := h38
    refine ja ?_
    refine j4 (some 8) (.free 0 (.hoist 1 (.free 2 (.free 3 (.one 4 (.one 5 (.one 6 (.free 7 (.last 8 .done))))))))) (HV _ _ [kc b_1 #[sL l_2, sL l_6.2] 28, kc b #[slv none 0 0, slv none 0 0] 28] [⟨32, RwH.enc l_7.rs, l_7.v.sp, l_7.v.q, dbl 3 RI o_2.real11 l_7.rs⟩, vL 77 l_2 (RSt.enc o.s8_strips)] _) Y (by decide +kernel) (fun w k hh => hh.draw k) (hsE [1, 2] [0, 1] 0 Y Y Y Y) ?_
    refine qo 1 runUnderlying28 sizeOf26 Y Y Y Y (qW 0 isAgg26 Y Y Y Y Y (kU Y Y Y (kU Y Y Y (jK Y ?_))))
    obtain ⟨t91, h72, hm⟩ := bindO hm
    refine jd [_] [] Y Y Y Y Y Y Y call35 (fun w hh => zM b00 o_2.b0_1 o_2.b0_2 o_2.sum13 2 pb qa0 na0 ca0 w (HV.callee (S0 := [_]) (vs0 := []) hh (roR hh 0 Y roN)) hna0 hqa0 hla0 h72) (fun l_14 h73 => ?_)
    refine jH (S' := [_, _, _]) (vs' := [_, _, _]) [0, 1, 2] [0, 1, 2] 0 Y Y Y Y (jv (hsE [1, 2] [0, 1] 0 Y Y Y Y) (jK Y ?_))
    refine kS RSp [t91.r0] (ps := [(0, _)]) (cells := [_, _]) (fun w => runUnderlying26 w) (fun w => sizeOf37 w) (fun w => zeroValue37 w) Y Y Y Y Y Y Y Y (fun L_7 h74 => ?_)
    refine jv (hsE [1, 2] [1, 2] 0 Y Y Y Y) (jK Y ?_)
    obtain ⟨t93, h75, hm⟩ := bindO hm
    refine yT RSp 3 h75 underlying26 JD Y Y Y Y Y h34 Y Y (vlen RSp h74 Y) (AOK.q (vne h74)) (fun w hh => (hh.vsegA 0 Y h74)) Y (fun L_8 h76 h76n => ?_)
    refine jH (S' := [_, _, _]) (vs' := [_, _, _, _]) [0, 1, 2] [0, 1, 2, 3] 0 Y Y Y Y (jv (hsE [1, 2] [1, 2] 0 Y Y Y Y) (qo 1 runUnderlying28 sizeOf26 Y Y Y Y (Ko Y (yo (cs' := #[_, _]) (S' := [_, _, _]) 1 (fun w => sizeOf26 w) Y Y Y Y Y Y Y (Jp (jN (jt ?_)))))))
    refine ja (jh ?_)
    obtain ⟨t95, h77, hm⟩ := bindO hm
    refine yA h77 Y Y Y (je Y Y (jx ?_))
    obtain rfl := sj hm
    refine ja ?_
    exact jz _ (l_7, L_8) Y (⟨h39, h40, h76⟩) (sE Y) (hsE [0, 1, 2] [1, 2, 3] 0 Y Y Y Y)
   replace hm := ifE h36 hm
   refine jP (ji (ji (jC ?_)))
   obtain rfl := sj hm
   have hbo := h35 _ Y
   subst hbo
   exact jn (l_6.1, l_6.2) (⟨h32, h33, h34⟩) (sE Y) (fun w hh => hh)
  intro l_5 hj
  obtain ⟨h29, h30, h31⟩ := hj
  replace hm := h28
  refine ja (jk (jp (je Y Y (je Y Y (jo ?_)))))
  obtain ⟨o_5, h78, h79⟩ := bindO hm
  refine jM (ι := Unit) (fun l_15 => VOK 7 l_2.n l_2.cap (RSt.enc o_5.s8_strips) l_2.sp l_2.q) (fun l_15 => [(6, ptr b 0), (8, ptr b_1 0), (11, sL l_5.1.v)]) (fun l_15 => [kc pb #[.slice qa0 na0 ca0, .int .i64 o_5.b0_1, .int .u32 o_5.b0_2] 105, kc b_1 #[sL l_2, sL l_5.2] 28, kc b #[slv none 0 0, slv none 0 0] 28]) (fun l_15 => [⟨32, RwH.enc l_5.1.rs, l_5.1.v.sp, l_5.1.v.q, dbl 3 RI o_1.real11 l_5.1.rs⟩, vL 77 l_2 (RSt.enc o_5.s8_strips), vL 37 l_5.2 (RSp.enc o_1.s8_carried)]) ?_ ?_
  ·replace hm := h78
   refine jj ?_
   refine jD (ι := Unit) hm (fun s_3 l_16 => VOK 7 l_2.n l_2.cap (RSt.enc s_3.s8_strips) l_2.sp l_2.q) (fun s_3 l_16 => [(0, ptr pb 0), (6, ptr b 0), (8, ptr b_1 0), (11, sL l_5.1.v), (96, .int .i64 t24.r0), (97, .int .i64 s_3.t97)]) (fun s_3 l_16 => [kc pb #[.slice qa0 na0 ca0, .int .i64 s_3.b0_1, .int .u32 s_3.b0_2] 105, kc b_1 #[sL l_2, sL l_5.2] 28, kc b #[slv none 0 0, slv none 0 0] 28]) (fun s_3 l_16 => [⟨32, RwH.enc l_5.1.rs, l_5.1.v.sp, l_5.1.v.q, dbl 3 RI o_1.real11 l_5.1.rs⟩, vL 77 l_2 (RSt.enc s_3.s8_strips), vL 37 l_5.2 (RSp.enc o_1.s8_carried)]) () (h13) (sE Y) (fun w hh => hh) (fun s_3 l_16 r_3 hpl hm h82 => ?_)
   have h81 := hpl
   unfold yX at hm
   refine jp (zK Y Y Y (jo (jk ?_)))
   refine jr Y (fun h83 => ?_) (fun h83 => ?_)
   ·replace hm := ifD h83 hm
    refine js (ja (jk (jj (jp (je Y Y (jl Y Y (jV ?_)))))))
    refine jl Y Y (jo (jk (jp (je Y Y (jb Y Y Y (fun w _ => zQ (Eq.trans (h30).len (vlen RwH h29 Y)) (runUnderlying29 w) Y) (je Y Y (jo ?_)))))))
    obtain ⟨o_6, h84, h85⟩ := bindO hm
    refine jM (ι := Unit) (fun l_17 => True) (fun l_17 => [(0, ptr pb 0), (6, ptr b 0), (8, ptr b_1 0), (11, sL l_5.1.v), (16, .int .i64 s_3.t97), (17, .int .i64 o_6), (96, .int .i64 t24.r0), (97, .int .i64 s_3.t97)]) (fun l_17 => [kc pb #[.slice qa0 na0 ca0, .int .i64 s_3.b0_1, .int .u32 s_3.b0_2] 105, kc b_1 #[sL l_2, sL l_5.2] 28, kc b #[slv none 0 0, slv none 0 0] 28]) (fun l_17 => [⟨32, RwH.enc l_5.1.rs, l_5.1.v.sp, l_5.1.v.q, dbl 3 RI o_1.real11 l_5.1.rs⟩, vL 77 l_2 (RSt.enc s_3.s8_strips), vL 37 l_5.2 (RSp.enc o_1.s8_carried)]) ?_ ?_
    ·replace hm := h84
     refine jj ?_
     refine jD (ι := Unit) hm (fun s_4 l_18 => True) (fun s_4 l_18 => [(0, ptr pb 0), (6, ptr b 0), (8, ptr b_1 0), (11, sL l_5.1.v), (16, .int .i64 s_3.t97), (17, .int .i64 s_4.gone17), (96, .int .i64 t24.r0), (97, .int .i64 s_3.t97), (101, .int .i64 (o_1.real11.length : Int)), (102, .int .i64 s_4.t102)]) (fun s_4 l_18 => [kc pb #[.slice qa0 na0 ca0, .int .i64 s_3.b0_1, .int .u32 s_3.b0_2] 105, kc b_1 #[sL l_2, sL l_5.2] 28, kc b #[slv none 0 0, slv none 0 0] 28]) (fun s_4 l_18 => [⟨32, RwH.enc l_5.1.rs, l_5.1.v.sp, l_5.1.v.q, dbl 3 RI o_1.real11 l_5.1.rs⟩, vL 77 l_2 (RSt.enc s_3.s8_strips), vL 37 l_5.2 (RSp.enc o_1.s8_carried)]) () (trivial) (sE Y) (fun w hh => hh) (fun s_4 l_18 r_4 hpl hm h86 => ?_)
     unfold yu at hm
     refine jp (zK Y Y Y (jo (jk ?_)))
     refine jr Y (fun h87 => ?_) (fun h87 => ?_)
     ·replace hm := ifD h87 hm
      refine js (ja (jk (jj (jp (je Y Y (jl Y Y (jo ?_)))))))
      refine jh (je Y Y (je Y Y (je Y Y ?_)))
      obtain ⟨t108, h88, hm⟩ := bindO hm
      obtain ⟨L_9, h89, h90⟩ := (h30).row h88
      refine jb Y Y Y (fun w _ => yJ h89 (runUnderlying29 w) (sizeOf32 w) Y Y (vlen RwH h29 Y) (vne h29)) (jb Y Y Y (fun w hh => qx RwH 0 h89 (isAgg32 w) Y (hh.vseg 0 Y h29) Y (Nat.add_zero _).symm) (je Y Y ?_))
      obtain ⟨t111, h91, hm⟩ := bindO hm
      refine jb Y Y Y (fun w _ => yJ h91 (runUnderlying32 w) (sizeOf3 w) Y Y (vlen RI h90 Y) (vne h90)) (jb Y Y Y (fun w hh => qx RI 0 h91 (isAgg3 w) Y (hh.dseg 0 Y h88 h89 h90) Y (Nat.add_zero _).symm) ?_)
      obtain ⟨t113, h92, hm⟩ := bindO hm
      refine yA h92 Y Y Y (jl Y Y (jx (jt (ja (jh ?_)))))
      obtain ⟨t114, h93, hm⟩ := bindO hm
      refine yA h93 Y Y Y (je Y Y (jx ?_))
      obtain rfl := sj hm
      refine ja ?_
      exact jz _ () Y (trivial) (sE Y) (fun w hh => hh)
     replace hm := ifE h87 hm
     refine jP (ji (ji (jC ?_)))
     obtain rfl := sj hm
     have hbo := h86 _ Y
     subst hbo
     exact jn () (trivial) (sE Y) (fun w hh => hh)
    intro l_17 hj
    replace hm := h85
    refine ja (jp (je Y Y ?_))
    obtain ⟨t116, h94, hm⟩ := bindO hm
    refine jd [_] [] Y Y Y Y Y Y Y call33 (fun w hh => kd b00 s_3.b0_1 s_3.b0_2 3 pb qa0 na0 ca0 w (HV.callee (S0 := [_]) (vs0 := []) hh (roR hh 0 Y roN)) hna0 hqa0 hla0 h94) (fun l_19 h95 => ?_)
    refine jH (S' := [_, _, _]) (vs' := [_, _, _]) [0, 1, 2] [0, 1, 2] 0 Y Y Y Y (jl Y Y (jV (je Y Y ?_)))
    obtain ⟨t118, h96, hm⟩ := bindO hm
    refine jd [_] [] Y Y Y Y Y Y Y call33 (fun w hh => kd b00 t116.h0_1 t116.h0_2 2 pb qa0 na0 ca0 w (HV.callee (S0 := [_]) (vs0 := []) hh (roR hh 0 Y roN)) hna0 hqa0 hla0 h96) (fun l_20 h97 => ?_)
    refine jH (S' := [_, _, _]) (vs' := [_, _, _]) [0, 1, 2] [0, 1, 2] 0 Y Y Y Y (je Y Y (je Y Y ?_))
    obtain ⟨t121, h98, hm⟩ := bindO hm
    refine yA h98 Y Y Y (jb Y Y Y (fun _ _ => Z6 Y Y) (jl Y Y (jV (j7 0 runUnderlying28 Y sizeOf25 Y Y (kx 1 isAgg25 Y Y Y Y (je Y Y ?_))))))
    obtain ⟨t126, h99, hm⟩ := bindO hm
    refine jb Y Y Y (fun w _ => yJ h99 (runUnderlying25 w) (sizeOf77 w) Y Y (vlen RSt h81 Y) (vne h81)) (jl Y Y (jo (jh (je Y Y (je Y Y (je Y Y (je Y Y ?_)))))))
    refine je Y Y (je Y Y ?_)
    obtain ⟨t133, h100, hm⟩ := bindO hm
    refine yA h100 Y Y Y (je Y Y ?_)
    obtain ⟨t135, h101, hm⟩ := bindO hm
    refine jb Y Y Y (fun _ _ => qc h101 Y Y) ?_
    obtain ⟨t136, h102, hm⟩ := bindO hm
    refine jd [_] [] Y Y Y Y Y Y Y call35 (fun w hh => zM b00 t118.h0_1 t118.h0_2 t135 1 pb qa0 na0 ca0 w (HV.callee (S0 := [_]) (vs0 := []) hh (roR hh 0 Y roN)) hna0 hqa0 hla0 h102) (fun l_21 h103 => ?_)
    refine jH (S' := [_, _, _]) (vs' := [_, _, _]) [0, 1, 2] [0, 1, 2] 0 Y Y Y Y (je Y Y (je Y Y ?_))
    obtain ⟨t139, h104, hm⟩ := bindO hm
    refine jd [_] [] Y Y Y Y Y Y Y call35 (fun w hh => zM b00 t136.b0_1 t136.b0_2 (min t118.r0 t121) 1 pb qa0 na0 ca0 w (HV.callee (S0 := [_]) (vs0 := []) hh (roR hh 0 Y roN)) hna0 hqa0 hla0 h104) (fun l_22 h105 => ?_)
    refine jH (S' := [_, _, _]) (vs' := [_, _, _]) [0, 1, 2] [0, 1, 2] 0 Y Y Y Y (je Y Y (je Y Y ?_))
    obtain ⟨t142, h106, hm⟩ := bindO hm
    refine jd [_] [] Y Y Y Y Y Y Y call35 (fun w hh => zM b00 t139.b0_1 t139.b0_2 t116.r0 1 pb qa0 na0 ca0 w (HV.callee (S0 := [_]) (vs0 := []) hh (roR hh 0 Y roN)) hna0 hqa0 hla0 h106) (fun l_23 h107 => ?_)
    refine jH (S' := [_, _, _]) (vs' := [_, _, _]) [0, 1, 2] [0, 1, 2] 0 Y Y Y Y (jb Y Y Y (fun _ _ => jw Y) (j7 1 runUnderlying77 Y sizeOf37 Y Y ?_))
    obtain ⟨s8_strips, hs8_strips, hm⟩ := bindO hm
    refine Zh (us := #[_, _]) RSt 1 1 (⟨t126.tenant, t136.r0, t126.seeded, t126.left⟩ : Strip) (fun w => sizeOf37 w) Y Y Y h81 Y Y Y Y Y Y h99 Y (Option.some.inj hs8_strips) (fun h108 => ?_)
    refine jH (S' := [_, _, _]) (vs' := [_, _, _]) [0, 1, 2] [0, 1, 2] 0 Y Y Y Y (jb Y Y Y (fun _ _ => jw Y) (j7 3 runUnderlying77 Y sizeOf37 Y Y ?_))
    obtain ⟨x, h109, hm⟩ := bindO hm
    obtain ⟨s8_strips_1, hs8_strips_1, hm⟩ := bindO hm
    refine Zh (us := #[_, _]) RSt 1 3 (⟨x.tenant, x.lay, t139.r0, x.left⟩ : Strip) (fun w => sizeOf37 w) Y Y Y h108 Y Y Y Y Y Y h109 Y (Option.some.inj hs8_strips_1) (fun h110 => ?_)
    refine jH (S' := [_, _, _]) (vs' := [_, _, _]) [0, 1, 2] [0, 1, 2] 0 Y Y Y Y (jb Y Y Y (fun _ _ => jw Y) (j7 5 runUnderlying77 Y sizeOf37 Y Y ?_))
    obtain ⟨x_1, h111, hm⟩ := bindO hm
    obtain ⟨s8_strips_2, hs8_strips_2, hm⟩ := bindO hm
    refine Zh (us := #[_, _]) RSt 1 5 (⟨x_1.tenant, x_1.lay, x_1.seeded, t142.r0⟩ : Strip) (fun w => sizeOf37 w) Y Y Y h110 Y Y Y Y Y Y h111 Y (Option.some.inj hs8_strips_2) (fun h112 => ?_)
    refine jH (S' := [_, _, _]) (vs' := [_, _, _]) [0, 1, 2] [0, 1, 2] 0 Y Y Y Y (jx (jt (ja (jh ?_))))
    obtain ⟨t149, h113, hm⟩ := bindO hm
    refine yA h113 Y Y Y (je Y Y (jx ?_))
    obtain rfl := sj hm
    refine ja ?_
    exact jz _ () Y (h112) (sE Y) (fun w hh => hh)
   replace hm := ifE h83 hm
   refine jP (ji (ji (jC ?_)))
   obtain rfl := sj hm
   have hbo := h82 _ Y
   subst hbo
   exact jn () (h81) (sE Y) (fun w hh => hh)
  intro l_15 hj
  have h80 := hj
  replace hm := h79
  refine ja (jp (qX [_, _] 1 isAgg28 sizeOf28 Y Y Y Y (je Y Y (jB (us := #[_, _]) (cs' := [_, _]) (S' := [_, _, _]) 2 (fun w => sizeOf28 w) Y Y Y Y Y Y Y (jl Y Y (jo (ju ?_)))))))
  obtain rfl := sj hm
  refine jm Y (fun w hh => (.cell Y (loadVar_agg (vs := [_, _]) (isAgg28 _) (sizeOf28 _) (hh.cells 2 Y Y)) (.tmp Y .nil))) (fun w hh => ⟨(l_2, l_5.2, l_5.1), rfl, ⟨h80, h31, h29, h30⟩, hh.se [0] [1, 2, 0] 1 Y Y Y rfl⟩)
end Go.Proofs.Ws

namespace Go.Proofs.Ws
set_option maxHeartbeats 4000000
set_option maxRecDepth 100000
open Go Go.Fw Go.Gx Go.Sp
open Try
set_option linter.unusedVariables false
def KD (holds0_c0 : Int) (holds0_c1 : Int) : Option Unit :=
 some ()
theorem Y8 (holds0_c0 : Int) (holds0_c1 : Int) (rb : Nat) (rb_1 : Nat) (w : World) (hw : HV w (keys [] []) [] [] [(rb, 0, [.int .i64 holds0_c0]), (rb_1, 0, [.int .i64 holds0_c1])] w)   {res : Unit} (hm : KD holds0_c0 holds0_c1 = some res) :
    Calls Try.prog 73 #[.func (.func 74) #[] #[ptr rb 0, ptr rb_1 0]] w (fun en w' => ∃ l : Nat, en = .returned (.agg #[.func (.func 122) #[] #[ptr l 0]]) ∧ (True) ∧ HV w (keys [] []) [kc l #[.func (.func 74) #[] #[ptr rb 0, ptr rb_1 0]] 131] [] [] w') := by
  unfold KD at hm
  refine kl func73 Y ntmps73 Y (e := [(0, _)]) Y hw (jp ?_)
  refine jF Y Y (fun b h1 => ?_)
  refine jq (fun w => zeroValue123 w) Y (fun b_1 h2 => ?_)
  refine jV (jb Y Y Y (fun _ _ => jE (u := #[]) (u' := #[_]) Y Y) (jb Y Y Y (fun _ _ => jA (vs := [(0, _)]) (cells := [_]) Y Y) (jB (us := #[_]) (cs' := [_]) (S' := [_, _]) 0 (fun w => sizeOf123 w) Y Y Y Y Y Y Y (jo (ju ?_)))))
  obtain rfl := sj hm
  refine jm Y (fun w hh => (.cell Y (loadVar_agg (vs := [_]) (isAgg123 _) (sizeOf123 _) (hh.cells 0 Y Y)) .nil)) (fun w hh => ⟨b, rfl, trivial, hh.se [1] [] 2 Y Y Y rfl⟩)
def J2 (p0 : Pair) (a11 : Int) (a22 : Int) : Option Bool :=
 some (decide (p0 = (⟨a11, a22⟩ : Pair)))
theorem YH (p0 : Pair) (a11 : Int) (a22 : Int) (rb : Nat) (rb_1 : Nat) (w : World) (hw : HV w (keys [] []) [] [] [(rb, 0, [.int .i64 a11]), (rb_1, 0, [.int .i64 a22])] w)   {res : Bool} (hm : J2 p0 a11 a22 = some res) :
    Calls Try.prog 74 #[.agg #[.int .i64 p0.tenant, .int .i64 p0.strip], ptr rb 0, ptr rb_1 0] w (fun en w' => ∃ l : Unit, en = .returned (.bool res) ∧ (True) ∧ HV w (keys [] []) [] [] [] w') := by
  unfold J2 at hm
  refine kl func74 Y ntmps74 Y (e := [(0, _), (1, _), (2, _)]) Y hw (jp ?_)
  refine jF Y Y (fun b h1 => ?_)
  refine jl Y Y (jV (qX [_, _] 0 isAgg128 sizeOf128 Y Y Y Y (jb Y Y Y (fun w hh => jQ (isAgg3 w) Y (segCell (hh.seg 0 Y) 0 Y)) (jb Y Y Y (fun w hh => jQ (isAgg3 w) Y (segCell (hh.seg 1 Y) 0 Y)) (jb Y Y Y (fun _ _ => jA (vs := [(0, _), (1, _)]) (cells := [_, _]) Y Y) (jb Y Y Y (fun w _ => Q6 (Zl p0 (⟨a11, a22⟩ : Pair) w) ZC Y Y) (jl Y Y ?_)))))))
  refine jo (ju ?_)
  obtain rfl := sj hm
  refine jm Y (fun w hh => (.tmp Y .nil)) (fun w hh => ⟨(), rfl, trivial, hh.se [] [] 2 Y Y Y rfl⟩)
def qY (p0 : Pair) (a11_c0 : Int) (a11_c1 : Int) : Option Int :=
 (J2 p0 a11_c0 a11_c1).bind fun t6 =>
 if t6 = true then
 (some 1) else
 (some 0)
theorem Yw (p0 : Pair) (a11_c0 : Int) (a11_c1 : Int) (rb : Nat) (rb_1 : Nat) (rb_2 : Nat) (w : World) (hw : HV w (keys [] []) [] [] [(rb, 0, [.func (.func 74) #[] #[ptr rb_1 0, ptr rb_2 0]]), (rb_1, 0, [.int .i64 a11_c0]), (rb_2, 0, [.int .i64 a11_c1])] w)    {res : Int} (hm : qY p0 a11_c0 a11_c1 = some res) :
    Calls Try.prog 122 #[.agg #[.int .i64 p0.tenant, .int .i64 p0.strip], ptr rb 0] w (fun en w' => ∃ l : Unit, en = .returned (.int .i64 res) ∧ (True) ∧ HV w (keys [] []) [] [] [] w') := by
  unfold qY at hm
  refine kl func122 Y ntmps122 Y (e := [(0, _), (1, _)]) Y hw (jp ?_)
  refine jF Y Y (fun b h1 => ?_)
  refine jl Y Y (jo (jk (jp (jb Y Y Y (fun w hh => jQ (isAgg131 w) Y (segCell (hh.seg 0 Y) 0 Y)) (qX [_, _] 0 isAgg128 sizeOf128 Y Y Y Y ?_)))))
  obtain ⟨t6, h2, hm⟩ := bindO hm
  refine jd [] [] Y Y Y Y Y Y Y call74 (fun w hh => YH p0 a11_c0 a11_c1 rb_1 rb_2 w (HV.callee (S0 := []) (vs0 := []) hh (roR hh 1 Y (roR hh 2 Y roN)))  h2) (fun l h3 => ?_)
  refine jo ?_
  refine jr Y (fun h4 => ?_) (fun h4 => ?_)
  ·replace hm := ifT (h4) hm
   refine jp (jl Y Y (jo (ju (jf ?_))))
   obtain rfl := sj hm
   refine jm Y (fun w hh => (.tmp Y .nil)) (fun w hh => ⟨(), rfl, trivial, hh.se [] [] 3 Y Y Y rfl⟩)
  replace hm := ifN h4 hm
  refine js (ja (jp (jl Y Y (jo (ju ?_)))))
  obtain rfl := sj hm
  refine jm Y (fun w hh => (.tmp Y .nil)) (fun w hh => ⟨(), rfl, trivial, hh.se [] [] 3 Y Y Y rfl⟩)
structure Js where
  r0 : Span
  r1 : Int
def Jg (s0 : Scalps) (tenant1 : Int) (strip2 : Int) : Option Js :=
 (kM s0).bind fun t12 =>
 oc t12 (fun t12a => some (⟨(⟨0, 0⟩ : Span), t12a⟩ : Js)) (fun t12b => ((j8 s0 tenant1).bind fun t23 =>
 if (!t23) = true then
 (some true) else
 ((kq s0 strip2).bind fun t28 =>
 some (!t28))).bind fun o =>
 if o = true then
 (some (⟨(⟨0, 0⟩ : Span), 1⟩ : Js)) else
 ((KD tenant1 strip2).bind fun t34 =>
 (qr s0.strips s0.carried t12b (fun p_1 : Pair => qY p_1 tenant1 strip2)).bind fun t35 =>
 some (⟨t35.r0, t35.r1⟩ : Js)))
theorem QH (s0 : Scalps) (tenant1 : Int) (strip2 : Int) (qa0 : Option Addr) (na0 ca0 : Nat) (qa1 : Option Addr) (na1 ca1 : Nat) (w : World) (hw : HV w (keys [] []) [] [] [(aB qa0, aO qa0, RSt.enc s0.strips), (aB qa1, aO qa1, RSp.enc s0.carried)] w) (hna0 : s0.strips.length = na0) (hqa0 : AOK na0 qa0) (hla0 : na0 ≤ ca0) (hna1 : s0.carried.length = na1) (hqa1 : AOK na1 qa1) (hla1 : na1 ≤ ca1) {res : Js} (hm : Jg s0 tenant1 strip2 = some res) :
    Calls Try.prog 19 #[.agg #[.slice qa0 na0 ca0, .slice qa1 na1 ca1], .int .i64 tenant1, .int .i64 strip2] w (fun en w' => ∃ l : Unit, en = .returned (.tuple #[.agg #[.int .i64 res.r0.lo, .int .i64 res.r0.hi], .int .i64 res.r1]) ∧ (True) ∧ HV w (keys [] []) [] [] [] w') := by
  unfold Jg at hm
  refine kl func19 Y ntmps19 Y (e := [(0, _), (1, _), (2, _)]) Y hw (jp ?_)
  refine jF Y Y (fun b h1 => ?_)
  refine jF Y Y (fun b_1 h2 => ?_)
  refine jF Y Y (fun b_2 h3 => ?_)
  refine jq (fun w => zeroValue37 w) Y (fun b_3 h4 => ?_)
  refine jl Y Y (jV (qX [_, _] 3 isAgg28 sizeOf28 Y Y Y Y ?_))
  obtain ⟨t12, h5, hm⟩ := bindO hm
  rcases t12 with t12a | t12b
  ·replace hm := ocL hm
   refine jd [] [] Y Y Y Y Y Y Y call65 (fun w hh => kn s0 qa0 na0 ca0 qa1 na1 ca1 w (HV.callee (S0 := []) (vs0 := []) hh (roR hh 0 Y (roR hh 1 Y roN))) hna0 hqa0 hla0 hna1 hqa1 hla1 h5) (fun l h6 => ?_)
   have h7 := h6
   refine je Y Y (ka Y Y Y (ka Y Y Y (jl Y Y (jl Y Y (jo (jk (jj ?_)))))))
   refine jp (je Y Y (jb Y Y Y (fun _ _ => Qk h7 Y Y) (jl Y Y (jo (y8 Y Y (jp (jb Y Y Y (fun _ _ => jA (vs := []) (cells := [_, _]) Y Y) ?_)))))))
   refine je Y Y (jB (us := #[_, _]) (cs' := [_, _]) (S' := [_, _, _, _]) 0 (fun w => sizeOf37 w) Y Y Y Y Y Y Y (jl Y Y (jo (ju (jy (jf ?_))))))
   obtain rfl := sj hm
   refine jm Y (fun w hh => (.cell Y (loadVar_agg (vs := [_, _]) (isAgg37 _) (sizeOf37 _) (hh.cells 0 Y Y)) (.tmp Y .nil))) (fun w hh => ⟨(), rfl, trivial, hh.se [] [] 2 Y Y Y rfl⟩)
  replace hm := ocR hm
  refine jd [] [] Y Y Y Y Y Y Y call65 (fun w hh => kn s0 qa0 na0 ca0 qa1 na1 ca1 w (HV.callee (S0 := []) (vs0 := []) hh (roR hh 0 Y (roR hh 1 Y roN))) hna0 hqa0 hla0 hna1 hqa1 hla1 h5) (fun l_1 h8 => ?_)
  refine jH (S' := [_, _, _, _, _, _]) (vs' := []) [0, 1, 2, 3, 4, 5] [] 0 Y Y Y Y (je Y Y (ka Y Y Y (ka Y Y Y (jl Y Y (jl Y Y (jo (jk ?_)))))))
  refine jj (jp (je Y Y (jb Y Y Y (fun _ _ => q5 Y Y) (jl Y Y (jo (qS Y Y (jk ?_)))))))
  obtain ⟨o, h9, h10⟩ := bindO hm
  refine jM (ι := Unit) (fun l_2 => True) (fun l_2 => [(4, ptr b_1 0), (5, ptr b_2 0), (6, ptr b_3 0), (8, ptr l_1.1 0), (20, .bool o)]) (fun l_2 => [kc l_1.1 #[.slice qa0 na0 ca0, .slice qa1 na1 ca1, .map (some l_1.2)] 163, (l_1.2, gobj (kR RPr) kB t12b), kc b_3 #[.int .i64 0, .int .i64 0] 37, kc b_2 #[.int .i64 strip2] 3, kc b_1 #[.int .i64 tenant1] 3, kc b #[.slice qa0 na0 ca0, .slice qa1 na1 ca1] 28]) (fun l_2 => []) ?_ ?_
  ·replace hm := h9
   refine jh (qX [_, _] 5 isAgg28 sizeOf28 Y Y Y Y (kx 4 isAgg3 Y Y Y Y ?_))
   obtain ⟨t23, h11, hm⟩ := bindO hm
   refine jd [] [] Y Y Y Y Y Y Y call53 (fun w hh => yr s0 tenant1 qa0 na0 ca0 qa1 na1 ca1 w (HV.callee (S0 := []) (vs0 := []) hh (roR hh 0 Y (roR hh 1 Y roN))) hna0 hqa0 hla0 hna1 hqa1 hla1 h11) (fun l_3 h12 => ?_)
   refine jb Y Y Y (fun _ _ => qv Y) (je Y Y ?_)
   refine jZ 25 Y (fun h13 => ?_) (fun h13 => ?_)
   ·replace hm := ifT (h13) hm
    refine g_k Y Y Y Y (g_k Y Y Y Y (g_k Y Y Y Y (g_k Y Y Y Y (qO Y Y Y (jl Y Y (jx ?_))))))
    obtain rfl := sj hm
    exact jn () (trivial) (sE Y) (fun w hh => hh)
   replace hm := ifN h13 hm
   refine jc Y Y (qX [_, _] 5 isAgg28 sizeOf28 Y Y Y Y (jc Y Y (kx 3 isAgg3 Y Y Y Y (jc Y Y ?_))))
   obtain ⟨t28, h14, hm⟩ := bindO hm
   refine jd [] [] Y Y Y Y Y Y Y call71 (fun w hh => zU s0 strip2 qa0 na0 ca0 qa1 na1 ca1 w (HV.callee (S0 := []) (vs0 := []) hh (roR hh 0 Y (roR hh 1 Y roN))) hna0 hqa0 hla0 hna1 hqa1 hla1 h14) (fun l_4 h15 => ?_)
   refine jc Y Y (jb Y Y Y (fun _ _ => qv Y) (yW Y Y Y (jl Y Y (jx ?_))))
   obtain rfl := sj hm
   exact jn () (trivial) (sE Y) (fun w hh => hh)
  intro l_2 hj
  replace hm := h10
  refine ja ?_
  refine jr Y (fun h16 => ?_) (fun h16 => ?_)
  ·replace hm := ifT (h16) hm
   refine jp (jb Y Y Y (fun _ _ => jA (vs := []) (cells := [_, _]) Y Y) (jB (us := #[_, _]) (cs' := [_, _]) (S' := [_, _, _, _, _, _]) 2 (fun w => sizeOf37 w) Y Y Y Y Y Y Y (jl Y Y (jo (ju (jy (jf ?_)))))))
   obtain rfl := sj hm
   refine jm Y (fun w hh => (.cell Y (loadVar_agg (vs := [_, _]) (isAgg37 _) (sizeOf37 _) (hh.cells 2 Y Y)) (.tmp Y .nil))) (fun w hh => ⟨(), rfl, trivial, hh.se [] [] 2 Y Y Y rfl⟩)
  replace hm := ifN h16 hm
  refine js (jt (ja (jp (je Y Y (jb Y Y Y (fun _ _ => jE (u := #[]) (u' := #[_, _]) Y Y) ?_)))))
  obtain ⟨t34, h17, hm⟩ := bindO hm
  refine jd [] [] Y Y Y Y Y Y Y call73 (fun w hh => Y8 tenant1 strip2 b_1 b_2 w (HV.callee (S0 := []) (vs0 := []) hh (roC (bsep (hh.bseg 4 Y)) (roC (bsep (hh.bseg 3 Y)) roN)))  h17) (fun l_5 h18 => ?_)
  refine jH (S' := [_, _, _, _, _, _, _]) (vs' := []) [0, 1, 2, 3, 4, 5, 6] [] 0 Y Y Y Y ?_
  obtain ⟨t35, h19, hm⟩ := bindO hm
  refine jH (S' := [_, _, _, _, _, _, _]) (vs' := []) [2, 0, 1, 3, 4, 5, 6] [] 0 Y Y Y Y ?_
  refine jd [_] [] Y Y Y Y Y Y Y call72 (fun w hh => z6 s0.strips s0.carried t12b (fun p_1 : Pair => qY p_1 tenant1 strip2) l_1.1 qa0 na0 ca0 qa1 na1 ca1 l_1.2 122 (#[]) (#[ptr l_5 0]) ([(l_5, 0, [.func (.func 74) #[] #[ptr b_1 0, ptr b_2 0]]), (b_1, 0, [.int .i64 tenant1]), (b_2, 0, [.int .i64 strip2])]) w (HV.callee (S0 := [_]) (vs0 := []) hh (roA (roC (hh.bsepH 1 Y) (roR hh 0 Y (roR hh 1 Y roN))) (roC (hh.bsepH 0 Y) (roC (hh.bsepH 4 Y) (roC (hh.bsepH 3 Y) roN))))) hna0 hqa0 hla0 hna1 hqa1 hla1 (⟨fun a w => call122 a w, (fun p_1 r hr w hT => clRet (Yw p_1 tenant1 strip2 l_5 b_1 b_2 w (HVstart hT)  hr))⟩ : ClOK Try.prog 122 #[] #[ptr l_5 0] ([(l_5, 0, [.func (.func 74) #[] #[ptr b_1 0, ptr b_2 0]]), (b_1, 0, [.int .i64 tenant1]), (b_2, 0, [.int .i64 strip2])]) (fun x : Pair => [.agg #[.int .i64 x.tenant, .int .i64 x.strip]]) (fun x : Int => .int .i64 x) (fun p_1 : Pair => qY p_1 tenant1 strip2)) h19) (fun l_6 h20 => ?_)
  refine jH (S' := [_, _, _, _, _, _, _]) (vs' := []) [0, 1, 2, 3, 4, 5, 6] [] 0 Y Y Y Y (ka Y Y Y (ka Y Y Y (jB (us := #[_, _]) (cs' := [_, _]) (S' := [_, _, _, _, _, _, _]) 3 (fun w => sizeOf37 w) Y Y Y Y Y Y Y (jl Y Y (jo (ju ?_))))))
  obtain rfl := sj hm
  refine jm Y (fun w hh => (.cell Y (loadVar_agg (vs := [_, _]) (isAgg37 _) (sizeOf37 _) (hh.cells 3 Y Y)) (.tmp Y .nil))) (fun w hh => ⟨(), rfl, trivial, hh.se [] [] 2 Y Y Y rfl⟩)
end Go.Proofs.Ws

