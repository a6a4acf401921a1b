/- What the functions that the law StripMarks reaches come to, and why it holds: part 5. -/
import Derived.Test.YtnkphlgohnlooaaGreatStripMarks4
namespace Go.Sp
theorem exists_least {P : Nat → Prop} (h : ∃ n, P n) : ∃ n, P n ∧ ∀ m, m < n → ¬ P m := by
  obtain ⟨n, hn⟩ := h
  induction n using Nat.strongRecOn with
  | _ n ih =>
    by_cases hs : ∃ m, m < n ∧ P m
    · obtain ⟨m, hm, hpm⟩ := hs
      exact ih m hm hpm
    · exact ⟨n, hn, fun m hm hpm => hs ⟨m, hm, hpm⟩⟩
theorem pig : ∀ (n : Nat) (l : List Int), l.Nodup → (∀ x, x ∈ l → 0 ≤ x ∧ x < (n : Int)) → l.length ≤ n
  | 0, l, _, h => by
    cases l with
    | nil => simp
    | cons x l => have := h x (by simp); omega
  | n + 1, l, hn, h => by
    have h1 : ∀ x, x ∈ l.erase (n : Int) → 0 ≤ x ∧ x < (n : Int) := fun x hx => by
      have hx2 := (hn.mem_erase_iff).1 hx
      have := h x hx2.2
      have := hx2.1
      omega
    have h2 := pig n (l.erase (n : Int)) (hn.erase _) h1
    by_cases hm : (n : Int) ∈ l
    · rw [List.length_erase_of_mem hm] at h2
      omega
    · rw [List.erase_of_not_mem hm] at h2
      omega
theorem pig_fun {n : Nat} (f : Nat → Int) (h : ∀ j, j ≤ n → 0 ≤ f j ∧ f j < (n : Int)) : ∃ i j, i < j ∧ j ≤ n ∧ f i = f j := by
  by_cases hx : ∃ i j, i < j ∧ j ≤ n ∧ f i = f j
  · exact hx
  · exfalso
    have hn : ((List.range (n + 1)).map f).Nodup := by
      unfold List.Nodup
      rw [List.pairwise_map, List.pairwise_iff_getElem]
      intro i j hi hj hij e
      simp only [List.getElem_range] at e
      simp only [List.length_range] at hj
      exact hx ⟨i, j, hij, by omega, e⟩
    have := pig n _ hn (fun x hx => by
      obtain ⟨j, hj, rfl⟩ := List.mem_map.1 hx
      exact h j (by have := List.mem_range.1 hj; omega))
    simp at this
    omega
def sumTo (f : Nat → Int) : Nat → Int
  | 0 => 0
  | k + 1 => sumTo f k + f k
theorem sumTo_congr {f g : Nat → Int} : ∀ {k : Nat}, (∀ j, j < k → f j = g j) → sumTo f k = sumTo g k
  | 0, _ => rfl
  | k + 1, h => by simp only [sumTo]; rw [sumTo_congr (fun j hj => h j (by omega)), h k (by omega)]
theorem sumTo_tele (f : Nat → Int) : ∀ k, sumTo (fun j => f j - f (j + 1)) k = f 0 - f k
  | 0 => by simp [sumTo]
  | k + 1 => by simp only [sumTo]; rw [sumTo_tele f k]; omega
theorem sumTo_le {f g : Nat → Int} : ∀ {k : Nat}, (∀ j, j < k → f j ≤ g j) → sumTo f k ≤ sumTo g k
  | 0, _ => Int.le_refl _
  | k + 1, h => by have h1 := sumTo_le (k := k) (fun j hj => h j (by omega)); have := h k (by omega); simp only [sumTo]; omega
theorem sumTo_lt {f g : Nat → Int} : ∀ {k : Nat}, (∀ j, j < k → f j ≤ g j) → (∃ i, i < k ∧ f i < g i) → sumTo f k < sumTo g k
  | 0, _, ⟨i, hi, _⟩ => by omega
  | k + 1, h, ⟨i, hi, hlt⟩ => by
    simp only [sumTo]
    by_cases hik : i = k
    · subst hik
      have := sumTo_le (k := i) (fun j hj => h j (by omega)); omega
    · have := sumTo_lt (k := k) (fun j hj => h j (by omega)) ⟨i, by omega, hlt⟩
      have := h k (by omega); omega
section
variable {A B C : Change → Int}
theorem Inv.next {cs : List Change} {r : Nat} {rel : Int → Nat} {N : Nat} {s : BF} (h : Inv A B C cs r [] rel N s) : Inv A B C cs (r + 1) cs rel N { s with last := -1 } :=
  ⟨h.lo, h.hi, fun x => by have := h.le x; omega, h.pc, fun _ hc => .inl hc, fun c hc => by
    rcases h.done c hc with h1 | h1 | h1
    · cases h1
    · exact .inl h1
    · right; omega, h.strict, fun _ => ⟨fun x hx => by have := h.le x; omega, fun h0 => by simp at h0⟩⟩
theorem Inv.start {cs : List Change} (pre : Int → Change) : Inv A B C cs 0 [] (fun _ => 0) 0 ⟨fun _ => 0, pre, -1⟩ :=
  ⟨fun _ => by simp, fun _ => by simp, fun _ => Nat.le_refl _, fun _ h => by omega, fun _ _ => .inr (.inr (Nat.zero_le _)), fun _ _ => .inr (Nat.zero_le _),
   fun y k hk h _ => by have := h 0 hk; omega, fun h => by omega⟩
theorem Inv.fold {cs : List Change} (hne : ∀ c, c ∈ cs → A c ≠ B c) (hB : ∀ c, c ∈ cs → 0 ≤ B c) (hC : ∀ c, c ∈ cs → -1 ≤ C c) {r : Nat} (hr : 1 ≤ r) : ∀ (todo : List Change), (∀ c, c ∈ todo → c ∈ cs) → ∀ {rel : Int → Nat} {N : Nat} {s : BF}, Inv A B C cs r todo rel N s →
    ∃ rel', Inv A B C cs r [] rel' (N + todo.length) (todo.foldl (relax A B C) s)
  | [], _, rel, N, s, h => ⟨rel, h⟩
  | c :: todo, ht, rel, N, s, h => by
    obtain ⟨rel1, h1, _⟩ := h.step hne hB hC hr (ht c (by simp))
    obtain ⟨rel2, h2⟩ := Inv.fold hne hB hC hr todo (fun d hd => ht d (by simp [hd])) h1
    exact ⟨rel2, by rw [List.length_cons, show N + (todo.length + 1) = N + 1 + todo.length by omega]; exact h2⟩
def round (A B C : Change → Int) (cs : List Change) (s : BF) : BF := cs.foldl (relax A B C) { s with last := -1 }
def rounds (A B C : Change → Int) (cs : List Change) (pre : Int → Change) : Nat → BF
  | 0 => ⟨fun _ => 0, pre, -1⟩
  | k + 1 => round A B C cs (rounds A B C cs pre k)
theorem rounds_inv {cs : List Change} (hne : ∀ c, c ∈ cs → A c ≠ B c) (hB : ∀ c, c ∈ cs → 0 ≤ B c) (hC : ∀ c, c ∈ cs → -1 ≤ C c) (pre : Int → Change) : ∀ r, ∃ rel, Inv A B C cs r [] rel (r * cs.length) (rounds A B C cs pre r)
  | 0 => ⟨fun _ => 0, by rw [Nat.zero_mul]; exact Inv.start pre⟩
  | r + 1 => by
    obtain ⟨rel, h⟩ := rounds_inv hne hB hC pre r
    obtain ⟨rel', h'⟩ := Inv.fold hne hB hC (Nat.succ_pos r) cs (fun _ h => h) h.next
    exact ⟨rel', by rw [Nat.add_mul, Nat.one_mul]; exact h'⟩
theorem rounds_pot {cs : List Change} (hne : ∀ c, c ∈ cs → A c ≠ B c) (hB : ∀ c, c ∈ cs → 0 ≤ B c) (hC : ∀ c, c ∈ cs → -1 ≤ C c) (pre : Int → Change) {r : Nat} (hr : 1 ≤ r) (hl : (rounds A B C cs pre r).last < 0) :
    ∀ c, c ∈ cs → (rounds A B C cs pre r).far (B c) ≤ (rounds A B C cs pre r).far (A c) + C c := by
  obtain ⟨rel, h⟩ := rounds_inv hne hB hC pre r
  intro c hc
  rcases h.done c hc with h1 | h1 | h1
  · cases h1
  · exact h1
  · have h2 := h.le (A c)
    have := (h.lst hr).1 (A c) (by omega)
    omega
theorem rounds_loop {cs : List Change} {n : Nat} (hne : ∀ c, c ∈ cs → A c ≠ B c) (hA : ∀ c, c ∈ cs → 0 ≤ A c ∧ A c < (n : Int)) (hB : ∀ c, c ∈ cs → 0 ≤ B c ∧ B c < (n : Int)) (hC : ∀ c, c ∈ cs → -1 ≤ C c) (pre : Int → Change) (hl : 0 ≤ (rounds A B C cs pre (n + 1)).last) :
    let s := rounds A B C cs pre (n + 1)
    (∀ j, s.pre (iterP (pred A s) j s.last) ∈ cs ∧ B (s.pre (iterP (pred A s) j s.last)) = iterP (pred A s) j s.last) ∧
    ∃ k, 0 < k ∧ k ≤ n ∧ iterP (pred A s) k (iterP (pred A s) n s.last) = iterP (pred A s) n s.last ∧ (∀ j, 0 < j → j < k → iterP (pred A s) j (iterP (pred A s) n s.last) ≠ iterP (pred A s) n s.last) ∧
      sumTo (fun j => C (s.pre (iterP (pred A s) j (iterP (pred A s) n s.last)))) k < 0 := by
  intro s
  obtain ⟨rel, h⟩ := rounds_inv hne (fun c hc => (hB c hc).1) hC pre (n + 1)
  change Inv A B C cs (n + 1) [] rel _ s at h
  generalize hp : pred A s = p
  have hrl : rel s.last = n + 1 := (h.lst (by omega)).2 hl
  have hrel : ∀ j, j ≤ n → n + 1 - j ≤ rel (iterP p j s.last) := by
    intro j
    induction j with
    | zero => intro _; show _ ≤ rel s.last; omega
    | succ j ih =>
      intro hj
      have h1 := ih (by omega)
      obtain ⟨_, _, _, h2⟩ := h.pc (iterP p j s.last) (by omega)
      rw [iterP_succ, ← hp]
      show _ ≤ rel (A (s.pre _))
      rw [hp]
      omega
  have hin : ∀ j, j ≤ n → s.pre (iterP p j s.last) ∈ cs ∧ B (s.pre (iterP p j s.last)) = iterP p j s.last := fun j hj => by
    have h1 := hrel j hj
    obtain ⟨h2, h3, _, _⟩ := h.pc (iterP p j s.last) (by omega)
    exact ⟨h2, h3⟩
  obtain ⟨i, j, hij, hj, he⟩ := pig_fun (n := n) (fun j => iterP p j s.last) (fun j hj => by
    obtain ⟨h1, h2⟩ := hin j hj
    have := hB _ h1
    rw [h2] at this
    exact this)
  change iterP p i s.last = iterP p j s.last at he
  have hall : ∀ m, ∃ m', m' ≤ n ∧ iterP p m s.last = iterP p m' s.last := by
    intro m
    induction m using Nat.strongRecOn with
    | _ m ih =>
      by_cases hm : m ≤ n
      · exact ⟨m, hm, rfl⟩
      · obtain ⟨m', h1, h2⟩ := ih (m - (j - i)) (by omega)
        refine ⟨m', h1, ?_⟩
        rw [← h2]
        have e1 : m = (m - j) + j := by omega
        have e2 : m - (j - i) = (m - j) + i := by omega
        rw [e2, iterP_add, he, ← iterP_add, ← e1]
  have hrel' : ∀ m, 1 ≤ rel (iterP p m s.last) := fun m => by
    obtain ⟨m', h1, h2⟩ := hall m
    rw [h2]
    have := hrel m' h1
    omega
  have hin' : ∀ m, s.pre (iterP p m s.last) ∈ cs ∧ B (s.pre (iterP p m s.last)) = iterP p m s.last := fun m => by
    obtain ⟨m', h1, h2⟩ := hall m
    rw [h2]
    exact hin m' h1
  refine ⟨hin', ?_⟩
  have hper : iterP p (j - i) (iterP p n s.last) = iterP p n s.last := by
    rw [← iterP_add]
    have e1 : j - i + n = (n - i) + j := by omega
    have e2 : n = (n - i) + i := by omega
    rw [e1, iterP_add, ← he, ← iterP_add, ← e2]
  obtain ⟨k, ⟨hk0, hk1⟩, hk2⟩ := exists_least (P := fun k => 0 < k ∧ iterP p k (iterP p n s.last) = iterP p n s.last) ⟨j - i, by omega, hper⟩
  have hkle : k ≤ j - i := by
    by_cases hle : k ≤ j - i
    · exact hle
    · exact absurd ⟨by omega, hper⟩ (hk2 (j - i) (by omega))
  refine ⟨k, hk0, by omega, hk1, fun m hm hmk e => hk2 m hmk ⟨hm, e⟩, ?_⟩
  have hr2 : ∀ m, 1 ≤ rel (iterP p m (iterP p n s.last)) := fun m => by rw [← iterP_add]; exact hrel' _
  have hst := h.strict (iterP p n s.last) k hk0 (fun i _ => by rw [hp]; exact hr2 i) (by rw [hp]; exact hk1)
  rw [hp] at hst
  obtain ⟨z, hz, hlt⟩ := hst
  have := sumTo_lt (k := k) (f := fun j => C (s.pre (iterP p j (iterP p n s.last)))) (g := fun j => s.far (iterP p j (iterP p n s.last)) - s.far (iterP p (j + 1) (iterP p n s.last))) (fun m _ => by
    obtain ⟨_, _, h3, _⟩ := h.pc _ (hr2 m)
    have e : A (s.pre (iterP p m (iterP p n s.last))) = iterP p (m + 1) (iterP p n s.last) := by
      rw [iterP_succ, ← hp]; rfl
    rw [e] at h3
    omega) ⟨z, hz, by omega⟩
  rw [sumTo_tele (fun j => s.far (iterP p j (iterP p n s.last))), hk1] at this
  have e0 : iterP p 0 (iterP p n s.last) = iterP p n s.last := rfl
  rw [e0] at this
  omega
end
end Go.Sp

namespace Go.Sp
structure BS where
  met : Int → Bool
  pre : Int → Change
section
variable (A B : Change → Int)
def visit (s : BS) (c : Change) : BS := if s.met (A c) = true ∧ s.met (B c) = false then ⟨upd s.met (B c) true, upd s.pre (B c) c⟩ else s
structure BInv (cs : List Change) (src : Int) (d : Int → Nat) (N : Nat) (s : BS) : Prop where
  srcm : s.met src = true
  dle : ∀ x, d x ≤ N
  pc : ∀ x, s.met x = true → x ≠ src → s.pre x ∈ cs ∧ B (s.pre x) = x ∧ s.met (A (s.pre x)) = true ∧ d (A (s.pre x)) < d x
variable {A B}
theorem visit_mono (s : BS) (c : Change) : ∀ x, s.met x = true → (visit A B s c).met x = true := fun x hx => by
  unfold visit
  split
  · simp only [upd]; split <;> simp [hx]
  · exact hx
theorem visit_done (s : BS) (c : Change) (h : s.met (A c) = true) : (visit A B s c).met (B c) = true := by
  unfold visit
  split
  · simp [upd]
  · rename_i h2
    cases hb : s.met (B c) with
    | true => rfl
    | false => exact absurd ⟨h, hb⟩ h2
theorem BInv.step {cs : List Change} {src : Int} {d : Int → Nat} {N : Nat} {s : BS} (h : BInv A B cs src d N s) {c : Change} (hc : c ∈ cs) : ∃ d', BInv A B cs src d' (N + 1) (visit A B s c) := by
  unfold visit
  split
  · rename_i hif
    obtain ⟨h1, h2⟩ := hif
    have hsrc : src ≠ B c := fun e => by rw [← e, h.srcm] at h2; cases h2
    have hAB : A c ≠ B c := fun e => by rw [e, h2] at h1; cases h1
    refine ⟨fun x => if x = B c then d (A c) + 1 else d x, (by show upd s.met (B c) true src = true; rw [upd_ne hsrc]; exact h.srcm), fun x => ?_, fun x hx hxs => ?_⟩
    · have := h.dle (A c); have := h.dle x
      show (if x = B c then d (A c) + 1 else d x) ≤ N + 1
      split <;> omega
    · simp only at hx ⊢
      by_cases hxb : x = B c
      · subst hxb
        rw [upd_same, upd_ne hAB, if_neg hAB, if_pos rfl]
        exact ⟨hc, rfl, h1, Nat.lt_succ_self _⟩
      · rw [upd_ne hxb] at hx ⊢
        rw [if_neg hxb]
        obtain ⟨g1, g2, g3, g4⟩ := h.pc x hx hxs
        have hne : A (s.pre x) ≠ B c := fun e => by rw [e, h2] at g3; cases g3
        rw [upd_ne hne, if_neg hne]
        exact ⟨g1, g2, g3, g4⟩
  · exact ⟨d, h.srcm, fun x => by have := h.dle x; omega, h.pc⟩
theorem BInv.fold {cs : List Change} {src : Int} : ∀ (todo : List Change), (∀ c, c ∈ todo → c ∈ cs) → ∀ {d : Int → Nat} {N : Nat} {s : BS}, BInv A B cs src d N s → ∃ d', BInv A B cs src d' (N + todo.length) (todo.foldl (visit A B) s)
  | [], _, d, N, s, h => ⟨d, h⟩
  | c :: todo, ht, d, N, s, h => by
    obtain ⟨d1, h1⟩ := h.step (ht c (by simp))
    obtain ⟨d2, h2⟩ := BInv.fold todo (fun x hx => ht x (by simp [hx])) h1
    exact ⟨d2, by rw [List.length_cons, show N + (todo.length + 1) = N + 1 + todo.length by omega]; exact h2⟩
theorem fold_mono : ∀ (todo : List Change) (s : BS) (x : Int), s.met x = true → (todo.foldl (visit A B) s).met x = true
  | [], _, _, h => h
  | c :: todo, s, x, h => fold_mono todo _ x (visit_mono s c x h)
theorem fold_done : ∀ (todo : List Change) (s : BS) (c : Change), c ∈ todo → s.met (A c) = true → (todo.foldl (visit A B) s).met (B c) = true
  | [], _, _, h, _ => by cases h
  | d :: todo, s, c, h, ha => by
    rcases List.mem_cons.1 h with rfl | h
    · exact fold_mono todo _ _ (visit_done s c ha)
    · exact fold_done todo _ c h (visit_mono s d _ ha)
theorem BInv.back {cs : List Change} {src : Int} {d : Int → Nat} {N : Nat} {s : BS} (h : BInv A B cs src d N s) {to : Int} (ht : s.met to = true) :
    let p := fun x => A (s.pre x)
    ∃ k, k ≤ N ∧ iterP p k to = src ∧ (∀ j, j < k → iterP p j to ≠ src ∧ s.pre (iterP p j to) ∈ cs ∧ B (s.pre (iterP p j to)) = iterP p j to) ∧ (∀ i j, i < j → j ≤ k → d (iterP p j to) < d (iterP p i to)) := by
  intro p
  have key2 : ∀ n, ∀ x, d x ≤ n → s.met x = true → ∃ k, k ≤ d x ∧ iterP p k x = src ∧ (∀ j, j < k → iterP p j x ≠ src ∧ s.pre (iterP p j x) ∈ cs ∧ B (s.pre (iterP p j x)) = iterP p j x) ∧ (∀ i j, i < j → j ≤ k → d (iterP p j x) < d (iterP p i x)) := by
    intro n
    induction n with
    | zero =>
      intro x hx hm
      by_cases hxs : x = src
      · exact ⟨0, Nat.zero_le _, hxs, fun j hj => by omega, fun i j hij hj => by omega⟩
      · obtain ⟨_, _, _, h4⟩ := h.pc x hm hxs
        omega
    | succ n ih =>
      intro x hx hm
      by_cases hxs : x = src
      · exact ⟨0, Nat.zero_le _, hxs, fun j hj => by omega, fun i j hij hj => by omega⟩
      · obtain ⟨h1, h2, h3, h4⟩ := h.pc x hm hxs
        obtain ⟨k, g1, g2, g3, g4⟩ := ih (p x) (by show d (A (s.pre x)) ≤ n; omega) h3
        refine ⟨k + 1, by have : d (p x) = d (A (s.pre x)) := rfl; omega, g2, fun j hj => ?_, fun i j hij hj => ?_⟩
        · cases j with
          | zero => exact ⟨hxs, h1, h2⟩
          | succ j => exact g3 j (by omega)
        · cases j with
          | zero => omega
          | succ j =>
            cases i with
            | zero =>
              show d (iterP p j (p x)) < d x
              cases j with
              | zero => exact h4
              | succ j =>
                have := g4 0 (j + 1) (by omega) (by omega)
                have e : d (iterP p 0 (p x)) = d (A (s.pre x)) := rfl
                omega
            | succ i => exact g4 i j (by omega) (by omega)
  obtain ⟨k, h1, h2, h3, h4⟩ := key2 (d to) to (Nat.le_refl _) ht
  exact ⟨k, Nat.le_trans h1 (h.dle to), h2, h3, h4⟩
end
end Go.Sp

namespace Go.Sp
def wy (l : List Wy) (c : Change) : Wy := l.getD c.way.toNat default
def eA (l : List Wy) (c : Change) : Int := if c.more = true then (wy l c).fr else (wy l c).dst
def eB (l : List Wy) (c : Change) : Int := if c.more = true then (wy l c).dst else (wy l c).fr
def eC (l : List Wy) (c : Change) : Int := if c.more = true then (wy l c).cost else -(wy l c).cost
def rm (l : List Wy) (c : Change) : Int := if c.more = true then (wy l c).hi - (wy l c).goes else (wy l c).goes - min (wy l c).lo (wy l c).goes
def adjW (w : Wy) (more : Bool) (m : Int) : Wy := { w with goes := if more = true then w.goes + m else w.goes - m }
def adj (l : List Wy) (c : Change) (m : Int) : List Wy := l.set c.way.toNat (adjW (wy l c) c.more m)
def isWay (l : List Wy) (c : Change) : Prop := 0 ≤ c.way ∧ c.way < (l.length : Int)
def res (l : List Wy) : List Change := (List.range l.length).flatMap fun i : Nat => ([⟨(i : Int), true⟩, ⟨(i : Int), false⟩] : List Change).filter fun c => decide (0 < rm l c)
structure WyOK (w : Wy) : Prop where
  fr : 0 ≤ w.fr ∧ w.fr < 12
  dst : 0 ≤ w.dst ∧ w.dst < 12
  ne : w.fr ≠ w.dst
  cost : -1 ≤ w.cost ∧ w.cost ≤ 1
  lo : 0 ≤ w.lo
  hi : w.lo ≤ w.hi ∧ w.hi ≤ 1000000
  goes : 0 ≤ w.goes ∧ w.goes ≤ w.hi
def NetOK (l : List Wy) : Prop := l.length ≤ 41 ∧ ∀ w, w ∈ l → WyOK w
theorem wy_mem {l : List Wy} {c : Change} (h : isWay l c) : wy l c ∈ l := by
  obtain ⟨h1, h2⟩ := h
  unfold wy
  rw [List.getD_eq_getElem?_getD, List.getElem?_eq_getElem (by omega)]
  exact List.getElem_mem _
theorem wy_get {l : List Wy} {c : Change} (h : isWay l c) : l[c.way.toNat]? = some (wy l c) := by
  obtain ⟨h1, h2⟩ := h
  unfold wy
  rw [List.getD_eq_getElem?_getD, List.getElem?_eq_getElem (by omega)]
  rfl
theorem res_mem {l : List Wy} {c : Change} : c ∈ res l ↔ isWay l c ∧ 0 < rm l c := by
  unfold res isWay
  simp only [List.mem_flatMap, List.mem_range, List.mem_filter, List.mem_cons, List.not_mem_nil, or_false, decide_eq_true_eq]
  constructor
  · rintro ⟨i, hi, h1, h2⟩
    rcases h1 with rfl | rfl
    · exact ⟨⟨by simp, by simpa using hi⟩, h2⟩
    · exact ⟨⟨by simp, by simpa using hi⟩, h2⟩
  · rintro ⟨⟨h1, h2⟩, h3⟩
    refine ⟨c.way.toNat, by omega, ?_, h3⟩
    obtain ⟨i, m⟩ := c
    simp only at h1 h2 ⊢
    have e : ((i.toNat : Nat) : Int) = i := by omega
    rw [e]
    cases m <;> simp
section same
variable {l l' : List Wy}
theorem same_get (h : Same l l') (i : Nat) : (l[i]?).map base = (l'[i]?).map base := by
  have := congrArg (fun z : List Wy => z[i]?) h
  simpa [List.getElem?_map] using this
theorem same_wy (h : Same l l') (c : Change) : base (wy l c) = base (wy l' c) := by
  have := same_get h c.way.toNat
  unfold wy
  rw [List.getD_eq_getElem?_getD, List.getD_eq_getElem?_getD]
  cases h1 : l[c.way.toNat]? with
  | none =>
    cases h2 : l'[c.way.toNat]? with
    | none => rfl
    | some w => rw [h1, h2] at this; cases this
  | some v =>
    cases h2 : l'[c.way.toNat]? with
    | none => rw [h1, h2] at this; cases this
    | some w => rw [h1, h2] at this; simpa using this
theorem same_eA (h : Same l l') (c : Change) : eA l c = eA l' c := by
  obtain ⟨h1, h2, _⟩ := base_eq (same_wy h c)
  unfold eA; rw [h1, h2]
theorem same_eB (h : Same l l') (c : Change) : eB l c = eB l' c := by
  obtain ⟨h1, h2, _⟩ := base_eq (same_wy h c)
  unfold eB; rw [h1, h2]
theorem same_eC (h : Same l l') (c : Change) : eC l c = eC l' c := by
  obtain ⟨_, _, _, _, h1⟩ := base_eq (same_wy h c)
  unfold eC; rw [h1]
theorem set_same {i : Nat} {w v : Wy} (hi : l[i]? = some w) (hb : base v = base w) : Same l (l.set i v) := by
  unfold Same
  apply List.ext_getElem?
  intro j
  rw [List.getElem?_map, List.getElem?_map, List.getElem?_set]
  split
  · rename_i hj; subst hj
    rw [hi]
    split
    · simp [hb]
    · rename_i hlt; have := (List.getElem?_eq_some_iff.1 hi).1; omega
  · rfl
end same
theorem adj_same {l : List Wy} {c : Change} (h : isWay l c) (m : Int) : Same l (adj l c m) := set_same (wy_get h) (by simp [base, adjW])
theorem sum_set (f : Wy → Int) : ∀ (l : List Wy) (i : Nat) (w v : Wy), l[i]? = some w → sumI f (l.set i v) = sumI f l + (f v - f w)
  | [], i, w, v, h => by simp at h
  | x :: l, 0, w, v, h => by
    simp only [List.getElem?_cons_zero, Option.some.injEq] at h
    subst h
    simp only [List.set_cons_zero, sumI]; omega
  | x :: l, i + 1, w, v, h => by
    simp only [List.getElem?_cons_succ] at h
    simp only [List.set_cons_succ, sumI]
    rw [sum_set f l i w v h]; omega
theorem adj_bal {l : List Wy} {c : Change} (h : isWay l c) (m : Int) (φ : Int → Int) : bal φ (adj l c m) = bal φ l + m * (φ (eB l c) - φ (eA l c)) := by
  unfold bal adj
  rw [sum_set _ l _ _ _ (wy_get h)]
  unfold eA eB adjW
  cases c.more with
  | true => simp only [if_true, Int.mul_add, Int.mul_comm m]; omega
  | false =>
    simp only [Bool.false_eq_true, if_false, Int.mul_sub, Int.sub_mul, Int.mul_comm m]; omega
theorem adj_costs {l : List Wy} {c : Change} (h : isWay l c) (m : Int) : costs (adj l c m) = costs l + m * eC l c := by
  unfold costs adj
  rw [sum_set _ l _ _ _ (wy_get h)]
  unfold eC adjW
  cases c.more with
  | true => simp only [if_true, Int.mul_add, Int.mul_comm m]; omega
  | false => simp only [Bool.false_eq_true, if_false, Int.mul_sub, Int.mul_neg, Int.neg_mul, Int.mul_comm m]; omega
theorem adj_other {l : List Wy} {c d : Change} {m : Int} (hd : 0 ≤ d.way) (hc : 0 ≤ c.way) (h : d.way ≠ c.way) : wy (adj l c m) d = wy l d := by
  unfold wy adj
  rw [List.getD_eq_getElem?_getD, List.getD_eq_getElem?_getD, List.getElem?_set_ne (by omega)]
theorem adj_at {l : List Wy} {c : Change} {m : Int} (h : isWay l c) : (adj l c m)[c.way.toNat]? = some (adjW (wy l c) c.more m) := by
  unfold adj
  obtain ⟨h1, h2⟩ := h
  rw [List.getElem?_set_self (by omega)]
theorem adj_len {l : List Wy} {c : Change} {m : Int} : (adj l c m).length = l.length := by simp [adj]
theorem adj_isWay {l : List Wy} {c d : Change} {m : Int} (h : isWay l d) : isWay (adj l c m) d := by unfold isWay at *; rw [adj_len]; exact h
theorem adj_ok {l : List Wy} {c : Change} {m : Int} (hl : NetOK l) (h : isWay l c) (h0 : 0 ≤ m) (hm : m ≤ rm l c) : NetOK (adj l c m) := by
  refine ⟨by rw [adj_len]; exact hl.1, fun w hw => ?_⟩
  rcases List.mem_or_eq_of_mem_set hw with hw | rfl
  · exact hl.2 w hw
  · have hk := hl.2 _ (wy_mem h)
    unfold rm at hm
    have hg := hk.goes; have hlo := hk.lo; have hhi := hk.hi
    refine ⟨hk.fr, hk.dst, hk.ne, hk.cost, hk.lo, hk.hi, ?_⟩
    unfold adjW
    cases hmo : c.more with
    | true => simp only [hmo, if_true] at hm ⊢; omega
    | false => simp only [hmo, Bool.false_eq_true, if_false] at hm ⊢; omega
theorem adj_least {l : List Wy} {c : Change} {m : Int} (h : isWay l c) (h0 : 0 ≤ m) (hm : m ≤ rm l c) (i : Nat) {w v : Wy} (hw : l[i]? = some w) (hv : (adj l c m)[i]? = some v) (hge : w.lo ≤ w.goes) : v.lo ≤ v.goes := by
  by_cases hi : i = c.way.toNat
  · subst hi
    rw [adj_at h] at hv
    rw [wy_get h] at hw
    obtain rfl := Option.some.inj hv
    obtain rfl := Option.some.inj hw
    unfold rm at hm
    unfold adjW
    cases hmo : c.more with
    | true => simp only [hmo, if_true] at hm ⊢; omega
    | false => simp only [hmo, Bool.false_eq_true, if_false] at hm ⊢; omega
  · unfold adj at hv
    rw [List.getElem?_set_ne (fun e => hi e.symm), hw] at hv
    obtain rfl := Option.some.inj hv
    exact hge
def makeL (l : List Wy) (L : List Change) (m : Int) : List Wy := L.foldl (fun l c => adj l c m) l
structure MakeOK (l : List Wy) (L : List Change) (m : Int) : Prop where
  way : ∀ c, c ∈ L → isWay l c
  room : ∀ c, c ∈ L → m ≤ rm l c
  once : L.Pairwise fun c d => c.way ≠ d.way
theorem MakeOK.tail {l : List Wy} {c : Change} {L : List Change} {m : Int} (h : MakeOK l (c :: L) m) : MakeOK (adj l c m) L m := by
  obtain ⟨h1, h2⟩ := List.pairwise_cons.1 h.once
  have hc := h.way c (by simp)
  refine ⟨fun d hd => adj_isWay (h.way d (by simp [hd])), fun d hd => ?_, h2⟩
  have hw := h.way d (by simp [hd])
  have := h.room d (by simp [hd])
  unfold rm at this ⊢
  rw [adj_other hw.1 hc.1 (fun e => h1 d hd e.symm)]
  exact this
theorem makeL_same : ∀ {l : List Wy} (L : List Change) {m : Int}, MakeOK l L m → Same l (makeL l L m)
  | l, [], m, h => Same.refl l
  | l, c :: L, m, h => (adj_same (h.way c (by simp)) m).trans (makeL_same L h.tail)
theorem makeL_ok : ∀ {l : List Wy} (L : List Change) {m : Int}, NetOK l → 0 ≤ m → MakeOK l L m → NetOK (makeL l L m)
  | l, [], m, hl, _, h => hl
  | l, c :: L, m, hl, h0, h => makeL_ok L (adj_ok hl (h.way c (by simp)) h0 (h.room c (by simp))) h0 h.tail
theorem makeL_bal (φ : Int → Int) : ∀ {l : List Wy} (L : List Change) {m : Int}, MakeOK l L m → bal φ (makeL l L m) = bal φ l + m * sumI (fun c => φ (eB l c) - φ (eA l c)) L
  | l, [], m, h => by simp [makeL, sumI]
  | l, c :: L, m, h => by
    have ih := makeL_bal φ L h.tail
    have hs := adj_same (h.way c (by simp)) m
    show bal φ (makeL (adj l c m) L m) = _
    rw [ih, adj_bal (h.way c (by simp)) m φ]
    simp only [sumI, Int.mul_add]
    rw [sumI_congr (g := fun c => φ (eB l c) - φ (eA l c)) (fun d _ => by rw [same_eB hs, same_eA hs])]
    omega
theorem makeL_costs : ∀ {l : List Wy} (L : List Change) {m : Int}, MakeOK l L m → costs (makeL l L m) = costs l + m * sumI (fun c => eC l c) L
  | l, [], m, h => by simp [makeL, sumI]
  | l, c :: L, m, h => by
    have ih := makeL_costs L h.tail
    have hs := adj_same (h.way c (by simp)) m
    show costs (makeL (adj l c m) L m) = _
    rw [ih, adj_costs (h.way c (by simp)) m]
    simp only [sumI, Int.mul_add]
    rw [sumI_congr (g := fun c => eC l c) (fun d _ => by rw [same_eC hs])]
    omega
theorem makeL_least : ∀ {l : List Wy} (L : List Change) {m : Int}, 0 ≤ m → MakeOK l L m → ∀ (i : Nat) (w v : Wy), l[i]? = some w → (makeL l L m)[i]? = some v → w.lo ≤ w.goes → v.lo ≤ v.goes
  | l, [], m, _, h, i, w, v, hw, hv, hge => by
    have : l[i]? = some v := hv
    rw [hw] at this; cases this; exact hge
  | l, c :: L, m, h0, h, i, w, v, hw, hv, hge => by
    have hc := h.way c (by simp)
    have hlt : i < (adj l c m).length := by rw [adj_len]; exact (List.getElem?_eq_some_iff.1 hw).1
    have hu : (adj l c m)[i]? = some (adj l c m)[i] := List.getElem?_eq_getElem hlt
    exact makeL_least L h0 h.tail i _ v hu hv (adj_least hc h0 (h.room c (by simp)) i hw hu hge)
theorem makeL_at : ∀ {l : List Wy} (L : List Change) {m : Int}, MakeOK l L m → ∀ c, c ∈ L → (makeL l L m)[c.way.toNat]? = some (adjW (wy l c) c.more m)
  | l, [], m, h, c, hc => by cases hc
  | l, d :: L, m, h, c, hc => by
    obtain ⟨h1, h2⟩ := List.pairwise_cons.1 h.once
    have hd := h.way d (by simp)
    rcases List.mem_cons.1 hc with rfl | hc
    · have key : ∀ (L : List Change) (l : List Wy), (∀ x, x ∈ L → 0 ≤ x.way ∧ c.way ≠ x.way) → 0 ≤ c.way → (makeL l L m)[c.way.toNat]? = l[c.way.toNat]? := by
        intro L
        induction L with
        | nil => intro l _ _; rfl
        | cons x L ih =>
          intro l hx h0
          have := hx x (by simp)
          show (makeL (adj l x m) L m)[c.way.toNat]? = _
          rw [ih _ (fun y hy => hx y (by simp [hy])) h0]
          unfold adj
          rw [List.getElem?_set_ne (by omega)]
      show (makeL (adj l c m) L m)[c.way.toNat]? = _
      rw [key L _ (fun x hx => ⟨(h.way x (by simp [hx])).1, h1 x hx⟩) hd.1, adj_at hd]
    · show (makeL (adj l d m) L m)[c.way.toNat]? = _
      rw [makeL_at L h.tail c hc, adj_other (h.way c (by simp [hc])).1 hd.1 (fun e => h1 c hc e.symm)]
def mostL (l : List Wy) (L : List Change) (m : Int) : Int := L.foldl (fun m c => min m (rm l c)) m
theorem mostL_le (l : List Wy) : ∀ (L : List Change) (m : Int), mostL l L m ≤ m ∧ ∀ c, c ∈ L → mostL l L m ≤ rm l c
  | [], m => ⟨Int.le_refl _, fun _ h => by cases h⟩
  | d :: L, m => by
    obtain ⟨h1, h2⟩ := mostL_le l L (min m (rm l d))
    refine ⟨by show mostL l L (min m (rm l d)) ≤ m; omega, fun c hc => ?_⟩
    show mostL l L (min m (rm l d)) ≤ _
    rcases List.mem_cons.1 hc with rfl | hc
    · omega
    · exact h2 c hc
theorem mostL_pos (l : List Wy) : ∀ (L : List Change) (m : Int), 0 < m → (∀ c, c ∈ L → 0 < rm l c) → 0 < mostL l L m
  | [], m, h, _ => h
  | d :: L, m, h, hr => mostL_pos l L _ (by have := hr d (by simp); show 0 < min m (rm l d); omega) (fun c hc => hr c (by simp [hc]))
end Go.Sp

namespace Go.Sp
def chainL (pre : Int → Change) (p : Int → Int) (y : Int) (k : Nat) : List Change := (List.range k).map fun j => pre (iterP p j y)
theorem sumI_range {α : Type} (f : α → Int) (g : Nat → α) : ∀ k, sumI f ((List.range k).map g) = sumTo (fun j => f (g j)) k
  | 0 => rfl
  | k + 1 => by
    rw [List.range_succ, List.map_append, sumI_append, sumI_range f g k]
    simp [sumI, sumTo]
theorem chain_sum {l : List Wy} {pre : Int → Change} {y : Int} {k : Nat} (hB : ∀ j, j < k → eB l (pre (iterP (fun x => eA l (pre x)) j y)) = iterP (fun x => eA l (pre x)) j y) (φ : Int → Int) :
    sumI (fun c => φ (eB l c) - φ (eA l c)) (chainL pre (fun x => eA l (pre x)) y k) = φ y - φ (iterP (fun x => eA l (pre x)) k y) := by
  unfold chainL
  rw [sumI_range]
  have e : ∀ j, j < k → φ (eB l (pre (iterP (fun x => eA l (pre x)) j y))) - φ (eA l (pre (iterP (fun x => eA l (pre x)) j y))) = (fun j => φ (iterP (fun x => eA l (pre x)) j y)) j - (fun j => φ (iterP (fun x => eA l (pre x)) j y)) (j + 1) := fun j hj => by
    simp only
    rw [hB j hj, iterP_succ]
  rw [sumTo_congr e, sumTo_tele (fun j => φ (iterP (fun x => eA l (pre x)) j y))]
  rfl
theorem same_way {l : List Wy} {c d : Change} (h : c.way = d.way) : c = d ∨ (eA l c = eB l d ∧ eB l c = eA l d ∧ eC l c = - eC l d) := by
  obtain ⟨i, m⟩ := c
  obtain ⟨j, n⟩ := d
  simp only at h
  subst h
  cases m <;> cases n
  · exact .inl rfl
  · right; simp [eA, eB, eC, wy]
  · right; simp [eA, eB, eC, wy]
  · exact .inl rfl
theorem chain_once {l : List Wy} {pre : Int → Change} {y : Int} {k : Nat} (hB : ∀ j, j < k → eB l (pre (iterP (fun x => eA l (pre x)) j y)) = iterP (fun x => eA l (pre x)) j y)
    (hne : ∀ i j, i < j → j < k → iterP (fun x => eA l (pre x)) i y ≠ iterP (fun x => eA l (pre x)) j y)
    (hop : ∀ i j, i < j → j < k → iterP (fun x => eA l (pre x)) (i + 1) y = iterP (fun x => eA l (pre x)) j y → iterP (fun x => eA l (pre x)) (j + 1) y = iterP (fun x => eA l (pre x)) i y → eC l (pre (iterP (fun x => eA l (pre x)) i y)) = - eC l (pre (iterP (fun x => eA l (pre x)) j y)) → False) :
    (chainL pre (fun x => eA l (pre x)) y k).Pairwise fun c d => c.way ≠ d.way := by
  unfold chainL
  rw [List.pairwise_map, List.pairwise_iff_getElem]
  intro i j hi hj hij
  simp only [List.getElem_range, List.length_range] at hi hj ⊢
  intro e
  rcases same_way (l := l) e with h | ⟨h1, h2, h3⟩
  · refine hne i j hij hj ?_
    rw [← hB i (by omega), ← hB j hj, h]
  · refine hop i j hij hj ?_ ?_ h3
    · rw [iterP_succ]
      rw [hB j hj] at h1
      exact h1
    · rw [iterP_succ]
      rw [hB i (by omega)] at h2
      exact h2.symm
theorem pairwise_append_one {α : Type} {R : α → α → Prop} {l : List α} {x : α} (h : l.Pairwise R) (hx : ∀ y, y ∈ l → R y x) : (l ++ [x]).Pairwise R := by
  rw [List.pairwise_append]
  exact ⟨h, List.pairwise_singleton _ _, fun y hy z hz => by rw [List.mem_singleton] at hz; subst hz; exact hx y hy⟩
theorem path_make {l : List Wy} (hl : NetOK l) {i : Nat} (hi : i < l.length) (hlow : (wy l ⟨i, true⟩).goes < (wy l ⟨i, true⟩).lo) {pre : Int → Change} {k : Nat} {d : Int → Nat}
    (hsrc : iterP (fun x => eA l (pre x)) k (wy l ⟨i, true⟩).fr = (wy l ⟨i, true⟩).dst)
    (hch : ∀ j, j < k → iterP (fun x => eA l (pre x)) j (wy l ⟨i, true⟩).fr ≠ (wy l ⟨i, true⟩).dst ∧ pre (iterP (fun x => eA l (pre x)) j (wy l ⟨i, true⟩).fr) ∈ res l ∧ eB l (pre (iterP (fun x => eA l (pre x)) j (wy l ⟨i, true⟩).fr)) = iterP (fun x => eA l (pre x)) j (wy l ⟨i, true⟩).fr)
    (hd : ∀ i' j, i' < j → j ≤ k → d (iterP (fun x => eA l (pre x)) j (wy l ⟨i, true⟩).fr) < d (iterP (fun x => eA l (pre x)) i' (wy l ⟨i, true⟩).fr)) (need : Int) (hneed : 0 < need) :
    let L := chainL pre (fun x => eA l (pre x)) (wy l ⟨i, true⟩).fr k ++ [⟨(i : Int), true⟩]
    let m := mostL l L need
    0 < m ∧ m ≤ need ∧ MakeOK l L m ∧ (∀ φ : Int → Int, sumI (fun c => φ (eB l c) - φ (eA l c)) L = 0) := by
  intro L m
  have hway : isWay l ⟨(i : Int), true⟩ := ⟨by simp, by simpa using hi⟩
  have hk := hl.2 _ (wy_mem hway)
  have hmem : ∀ c, c ∈ L → isWay l c ∧ 0 < rm l c := fun c hc => by
    rcases List.mem_append.1 hc with hc | hc
    · obtain ⟨j, hj, rfl⟩ := List.mem_map.1 hc
      exact res_mem.1 (hch j (by simpa using hj)).2.1
    · rw [List.mem_singleton] at hc
      subst hc
      refine ⟨hway, ?_⟩
      simp only [rm, if_true]
      have := hk.hi; omega
  obtain ⟨m1, m2⟩ := mostL_le l L need
  refine ⟨mostL_pos l L need hneed (fun c hc => (hmem c hc).2), m1, ⟨fun c hc => (hmem c hc).1, m2, ?_⟩, fun φ => ?_⟩
  · refine pairwise_append_one (chain_once (fun j hj => (hch j hj).2.2) (fun a b hab hb e => ?_) (fun a b hab hb h1 h2 _ => ?_)) (fun c hc e => ?_)
    · have := hd a b hab (by omega)
      rw [e] at this; omega
    · have g1 := hd a b hab (by omega)
      have g2 := hd b (b + 1) (by omega) (by omega)
      rw [h2] at g2; omega
    · obtain ⟨j, hj, rfl⟩ := List.mem_map.1 hc
      have hj' : j < k := by simpa using hj
      obtain ⟨h1, h2, h3⟩ := hch j hj'
      have hr := (res_mem.1 h2).2
      generalize pre (iterP (fun x => eA l (pre x)) j (wy l ⟨i, true⟩).fr) = c at h2 h3 hr e
      obtain ⟨w, mo⟩ := c
      simp only at e
      subst e
      cases mo with
      | true =>
        have : eB l ⟨(i : Int), true⟩ = (wy l ⟨(i : Int), true⟩).dst := by simp [eB]
        rw [this] at h3
        exact h1 h3.symm
      | false =>
        have e2 : wy l ⟨(i : Int), false⟩ = wy l ⟨(i : Int), true⟩ := rfl
        simp only [rm, Bool.false_eq_true, if_false, e2] at hr
        omega
  · rw [sumI_append, chain_sum (fun j hj => (hch j hj).2.2) φ, hsrc]
    simp only [sumI, eB, eA, if_true]
    omega
theorem loop_make {l : List Wy} {pre : Int → Change} {y : Int} {k : Nat} (hk : 0 < k) (hch : ∀ j, j < k → pre (iterP (fun x => eA l (pre x)) j y) ∈ res l ∧ eB l (pre (iterP (fun x => eA l (pre x)) j y)) = iterP (fun x => eA l (pre x)) j y)
    (hper : iterP (fun x => eA l (pre x)) k y = y) (hmin : ∀ j, 0 < j → j < k → iterP (fun x => eA l (pre x)) j y ≠ y) (hneg : sumTo (fun j => eC l (pre (iterP (fun x => eA l (pre x)) j y))) k < 0) (need : Int) (hneed : 0 < need) :
    let L := chainL pre (fun x => eA l (pre x)) y k
    let m := mostL l L need
    0 < m ∧ m ≤ need ∧ MakeOK l L m ∧ (∀ φ : Int → Int, sumI (fun c => φ (eB l c) - φ (eA l c)) L = 0) ∧ sumI (fun c => eC l c) L < 0 := by
  intro L m
  have hmem : ∀ c, c ∈ L → isWay l c ∧ 0 < rm l c := fun c hc => by
    obtain ⟨j, hj, rfl⟩ := List.mem_map.1 hc
    exact res_mem.1 (hch j (by simpa using hj)).1
  obtain ⟨m1, m2⟩ := mostL_le l L need
  have hne : ∀ i j, i < j → j < k → iterP (fun x => eA l (pre x)) i y ≠ iterP (fun x => eA l (pre x)) j y := fun i j hij hj e => by
    refine hmin (k - j + i) (by omega) (by omega) ?_
    rw [iterP_add, e, ← iterP_add, show k - j + j = k by omega, hper]
  refine ⟨mostL_pos l L need hneed (fun c hc => (hmem c hc).2), m1, ⟨fun c hc => (hmem c hc).1, m2, ?_⟩, fun φ => ?_, ?_⟩
  · refine chain_once (fun j hj => (hch j hj).2) hne (fun i j hij hj h1 h2 h3 => ?_)
    have e1 : i + 1 = j := by
      by_cases hlt : i + 1 < j
      · exact absurd h1 (hne (i + 1) j hlt hj)
      · omega
    have e2 : j + 1 = k := by
      by_cases hlt : j + 1 < k
      · exact absurd h2.symm (hne i (j + 1) (by omega) hlt)
      · omega
    have e3 : i = 0 := by
      by_cases h0 : i = 0
      · exact h0
      · rw [e2, hper] at h2
        exact absurd h2.symm (hmin i (by omega) (by omega))
    subst e3
    have ek : k = 2 := by omega
    have ej : j = 1 := by omega
    subst ek ej
    simp only [sumTo] at hneg
    omega
  · rw [chain_sum (fun j hj => (hch j hj).2) φ, hper]; omega
  · show sumI (fun c => eC l c) (chainL pre (fun x => eA l (pre x)) y k) < 0
    unfold chainL
    rw [sumI_range]
    exact hneg
end Go.Sp

namespace Go.Gx
theorem addc_eq {a b : Int} (h : -9223372036854775808 ≤ a + b ∧ a + b ≤ 9223372036854775807) : addc a b = some (a + b) := if_pos h
theorem subc_eq {a b : Int} (h : -9223372036854775808 ≤ a - b ∧ a - b ≤ 9223372036854775807) : subc a b = some (a - b) := if_pos h
theorem mulc_eq {a b : Int} (h : -9223372036854775808 ≤ a * b ∧ a * b ≤ 9223372036854775807) : mulc a b = some (a * b) := if_pos h
theorem negc_eq {a : Int} (h : -9223372036854775808 ≤ -a ∧ -a ≤ 9223372036854775807) : negc a = some (-a) := if_pos h
theorem quoc_eq {a b : Int} (h0 : b ≠ 0) (h : -9223372036854775808 ≤ a.tdiv b ∧ a.tdiv b ≤ 9223372036854775807) : quoc a b = some (a.tdiv b) := if_pos ⟨h0, h⟩
theorem remc_eq {a b : Int} (h0 : b ≠ 0) : remc a b = some (a.tmod b) := if_pos h0
theorem ix_eq {α : Type} {l : List α} {i : Int} (d : α) (h0 : 0 ≤ i) (h1 : i < l.length) : ix l i = some (l.getD i.toNat d) := by
  unfold ix
  rw [if_neg (by omega), List.getD_eq_getElem?_getD]
  have : i.toNat < l.length := by omega
  simp [this]
theorem ix_nat {α : Type} {l : List α} {k : Nat} (d : α) (h1 : k < l.length) : ix l (k : Int) = some (l.getD k d) := by
  have := ix_eq (l := l) (i := (k : Int)) d (by omega) (by omega)
  simpa using this
theorem appc_eq {α : Type} {b : Nat} {l m : List α} (h : (l.length + m.length) * b ≤ 140737488355328) : appc b l m = some (l ++ m) := if_pos h
theorem makec_eq {α : Type} {b : Nat} {z : α} {n c : Int} (h : 0 ≤ n ∧ n ≤ c ∧ (b : Int) * c ≤ 140737488355328 ∧ c ≤ 140737488355328) : makec b z n c = some (List.replicate n.toNat z) := if_pos h
@[simp] theorem oc_inl {α β γ : Type} (a : α) (f : α → γ) (g : β → γ) : oc (.inl a) f g = f a := rfl
@[simp] theorem oc_inr {α β γ : Type} (b : β) (f : α → γ) (g : β → γ) : oc (.inr b) f g = g b := rfl

theorem iterM_step {σ β : Type} {f : σ → Option (σ ⊕ β)} {s s' : σ} {N : Nat} (h : f s = some (.inl s')) : iterM (N + 1) f s = iterM N f s' := by simp [iterM, h]
theorem iterM_done {σ β : Type} {f : σ → Option (σ ⊕ β)} {s : σ} {b : β} {N : Nat} (h : f s = some (.inr b)) : iterM (N + 1) f s = some b := by simp [iterM, h]
theorem iterM_inv {σ β : Type} {f : σ → Option (σ ⊕ β)} (Inv : σ → Prop) (μ : σ → Nat) (Q : β → Prop)
    (h : ∀ s, Inv s → (∃ s', f s = some (.inl s') ∧ Inv s' ∧ μ s' < μ s) ∨ ∃ b, f s = some (.inr b) ∧ Q b) : ∀ (N : Nat) (s : σ), μ s < N → Inv s → ∃ b, iterM N f s = some b ∧ Q b
  | 0, _, hN, _ => absurd hN (Nat.not_lt_zero _)
  | N + 1, s, hN, hI => by
    rcases h s hI with ⟨s', h1, h2, h3⟩ | ⟨b, h1, h2⟩
    · rw [iterM_step h1]
      exact iterM_inv Inv μ Q h N s' (by omega) h2
    · exact ⟨b, iterM_done h1, h2⟩
theorem iterM_run {σ β : Type} {f : σ → Option (σ ⊕ β)} (I : Nat → σ) (n : Nat) {b : β} (hs : ∀ k, k < n → f (I k) = some (.inl (I (k + 1)))) (he : f (I n) = some (.inr b)) : ∀ (N : Nat), n < N → iterM N f (I 0) = some b := by
  have key : ∀ (m k N : Nat), k + m = n → m < N → iterM N f (I k) = some b := by
    intro m
    induction m with
    | zero =>
      intro k N hk hN
      obtain ⟨N, rfl⟩ : ∃ N', N = N' + 1 := ⟨N - 1, by omega⟩
      have : k = n := by omega
      subst this
      exact iterM_done he
    | succ m ih =>
      intro k N hk hN
      obtain ⟨N, rfl⟩ : ∃ N', N = N' + 1 := ⟨N - 1, by omega⟩
      rw [iterM_step (hs k (by omega))]
      exact ih (k + 1) N (by omega) (by omega)
  intro N hN
  exact key n 0 N (by omega) hN
theorem iterM_any {ρ : Type} {f : Int → Option (Int ⊕ (Unit ⊕ ρ))} (i0 : Int) (n : Nat) (bad : Nat → Bool) (e : Nat → ρ) (h1 : ∀ k, k < n → f (i0 + (k : Int)) = some (if bad k then .inr (.inr (e k)) else .inl (i0 + (k : Int) + 1))) (h2 : f (i0 + (n : Int)) = some (.inr (.inl ()))) {N : Nat} (hN : n < N) :
    iterM N f i0 = some (match (List.range n).find? bad with | some k => .inr (e k) | none => .inl ()) := by
  have key : ∀ (m k N : Nat), k + m = n → m < N → (∀ j, j < k → bad j = false) → iterM N f (i0 + (k : Int)) = some (match (List.range n).find? bad with | some k => .inr (e k) | none => .inl ()) := by
    intro m
    induction m with
    | zero =>
      intro k N hk hN hb
      obtain ⟨N, rfl⟩ : ∃ N', N = N' + 1 := ⟨N - 1, by omega⟩
      have : k = n := by omega
      subst this
      rw [iterM_done h2]
      have : (List.range k).find? bad = none := by
        rw [List.find?_eq_none]
        intro x hx
        simp [hb x (by simpa using hx)]
      rw [this]
    | succ m ih =>
      intro k N hk hN hb
      obtain ⟨N, rfl⟩ : ∃ N', N = N' + 1 := ⟨N - 1, by omega⟩
      have hk2 := h1 k (by omega)
      cases hbk : bad k with
      | true =>
        rw [hbk] at hk2
        simp only [if_true] at hk2
        rw [iterM_done hk2]
        have : (List.range n).find? bad = some k := by
          rw [List.find?_range_eq_some]
          exact ⟨hbk, by simp; omega, fun j hj => by simp [hb j hj]⟩
        rw [this]
      | false =>
        rw [hbk] at hk2
        simp only [Bool.false_eq_true, if_false] at hk2
        rw [iterM_step hk2]
        have := ih (k + 1) N (by omega) (by omega) (fun j hj => by
          by_cases hjk : j = k
          · subst hjk; exact hbk
          · exact hb j (by omega))
        rw [show i0 + (k : Int) + 1 = i0 + ((k + 1 : Nat) : Int) by push_cast; omega]
        exact this
  have := key n 0 N (by omega) hN (fun j hj => absurd hj (by omega))
  simpa using this
theorem iterM_any0 {ρ : Type} {f : Int → Option (Int ⊕ (Unit ⊕ ρ))} (n : Nat) (bad : Nat → Bool) (e : ρ) (h1 : ∀ k : Nat, k < n → f (k : Int) = some (if bad k then .inr (.inr e) else .inl ((k : Int) + 1))) (h2 : f (n : Int) = some (.inr (.inl ()))) {N : Nat} (hN : n < N) :
    iterM N f 0 = some (if (List.range n).any bad then .inr e else .inl ()) := by
  have := iterM_any 0 n bad (fun _ => e) (fun k hk => by simpa using h1 k hk) (by simpa using h2) hN
  rw [this]
  cases hf : (List.range n).find? bad with
  | none =>
    have : (List.range n).any bad = false := by
      rw [List.any_eq_false]; intro x hx; simpa using List.find?_eq_none.1 hf x hx
    simp [this]
  | some k =>
    have : (List.range n).any bad = true := List.any_eq_true.2 ⟨k, List.mem_of_find?_eq_some hf, List.find?_some hf⟩
    simp [this]
theorem any_range {α : Type} {l : List α} {d : α} {p : α → Bool} : (List.range l.length).any (fun k => p (l.getD k d)) = l.any p := by
  rw [Bool.eq_iff_iff, List.any_eq_true, List.any_eq_true]
  constructor
  · rintro ⟨k, hk, hp⟩
    have hk' : k < l.length := by simpa using hk
    refine ⟨l[k], List.getElem_mem hk', ?_⟩
    simpa [List.getD_eq_getElem?_getD, hk'] using hp
  · rintro ⟨x, hx, hp⟩
    obtain ⟨k, hk, rfl⟩ := List.getElem_of_mem hx
    exact ⟨k, by simpa using hk, by simpa [List.getD_eq_getElem?_getD, hk] using hp⟩
theorem FU_lt2 {n : Nat} (h : n ≤ 9223372036854775807) : n < FU := by unfold FU; omega
theorem FU_lt {n : Nat} (h : n < 1000000000000) : n < FU := by unfold FU; omega
end Go.Gx

namespace Go.Gx
open Go
theorem contains_loop {α : Type} {f : Int → Option (Int ⊕ (Unit ⊕ Int))} (l : List α) (d : α) (bad : α → Bool) (hl : l.length < 1000000000000)
    (h : ∀ k : Nat, k < l.length → f (k : Int) = some (if bad (l.getD k d) = true then .inr (.inr (k : Int)) else .inl ((k : Int) + 1))) (he : f (l.length : Int) = some (.inr (.inl ()))) :
    (((iterM FU f 0).bind fun o => oc o (fun _ => (some (-1) : Option Int)) (fun r => some r)).bind fun t => some (decide (0 ≤ t))) = some (l.any bad) := by
  have key := iterM_any (f := f) 0 l.length (fun k => bad (l.getD k d)) (fun k => (k : Int)) (fun k hk => by
    have := h k hk
    rw [Int.zero_add]
    exact this) (by rw [Int.zero_add]; exact he) (N := FU) (FU_lt hl)
  rw [key]
  cases hf : (List.range l.length).find? (fun k => bad (l.getD k d)) with
  | none =>
    have : l.any bad = false := by
      rw [List.any_eq_false]
      intro x hx
      obtain ⟨i, hi, rfl⟩ := List.getElem_of_mem hx
      have h2 := List.find?_eq_none.1 hf i (by simpa using hi)
      simpa [List.getD_eq_getElem?_getD, hi] using h2
    rw [this]
    rfl
  | some k =>
    have h1 := List.find?_some hf
    have h2 : k < l.length := by simpa using List.mem_of_find?_eq_some hf
    have : l.any bad = true := by
      rw [List.any_eq_true]
      refine ⟨l[k], List.getElem_mem h2, ?_⟩
      simpa [List.getD_eq_getElem?_getD, h2] using h1
    rw [this, Option.bind_some, oc_inr, Option.bind_some, decide_eq_true (show (0 : Int) ≤ (k : Int) by omega)]
theorem not_any_not {α : Type} {l : List α} {p : α → Bool} : (!l.any fun x => !p x) = l.all p := by rw [List.not_any_eq_all_not]; simp
end Go.Gx
namespace Go.Gx
theorem iterM_find {σ β : Type} {f : σ → Option (σ ⊕ β)} (I : Nat → σ) (n : Nat) (bad : Nat → Bool) (e : Nat → β) (e0 : β) (h1 : ∀ k, k < n → (∀ j, j < k → bad j = false) → f (I k) = some (if bad k = true then .inr (e k) else .inl (I (k + 1)))) (h2 : f (I n) = some (.inr e0)) {N : Nat} (hN : n < N) :
    iterM N f (I 0) = some (match (List.range n).find? bad with | some k => e k | none => e0) := by
  have key : ∀ (m k N : Nat), k + m = n → m < N → (∀ j, j < k → bad j = false) → iterM N f (I k) = some (match (List.range n).find? bad with | some k => e k | none => e0) := by
    intro m
    induction m with
    | zero =>
      intro k N hk hN hb
      obtain ⟨N, rfl⟩ : ∃ N', N = N' + 1 := ⟨N - 1, by omega⟩
      have : k = n := by omega
      subst this
      rw [iterM_done h2]
      have : (List.range k).find? bad = none := by
        rw [List.find?_eq_none]
        intro x hx
        simp [hb x (by simpa using hx)]
      rw [this]
    | succ m ih =>
      intro k N hk hN hb
      obtain ⟨N, rfl⟩ : ∃ N', N = N' + 1 := ⟨N - 1, by omega⟩
      have hk2 := h1 k (by omega) hb
      cases hbk : bad k with
      | true =>
        rw [hbk] at hk2
        simp only [if_true] at hk2
        rw [iterM_done hk2]
        have : (List.range n).find? bad = some k := by
          rw [List.find?_range_eq_some]
          exact ⟨hbk, by simp; omega, fun j hj => by simp [hb j hj]⟩
        rw [this]
      | false =>
        rw [hbk] at hk2
        simp only [Bool.false_eq_true, if_false] at hk2
        rw [iterM_step hk2]
        exact ih (k + 1) N (by omega) (by omega) (fun j hj => by
          by_cases hjk : j = k
          · subst hjk; exact hbk
          · exact hb j (by omega))
  exact key n 0 N (by omega) hN (fun j hj => absurd hj (by omega))
def filtL (p : Nat → Bool) (k : Nat) : List Int := ((List.range k).filter p).map fun i : Nat => (i : Int)
theorem filtL_succ {p : Nat → Bool} {k : Nat} : filtL p (k + 1) = if p k = true then filtL p k ++ [(k : Int)] else filtL p k := by
  unfold filtL
  rw [List.range_succ, List.filter_append, List.map_append]
  cases h : p k with
  | true => simp [h]
  | false => simp [h]
theorem filtL_len {p : Nat → Bool} {k : Nat} : (filtL p k).length ≤ k := by
  unfold filtL
  rw [List.length_map]
  exact Nat.le_trans (List.length_filter_le _ _) (by simp)
end Go.Gx

namespace Go.Gx
open Go
theorem range_set {α : Type} {f : Nat → α} {n i : Nat} {v : α} : ((List.range n).map f).set i v = (List.range n).map fun t => if t = i then v else f t := by
  apply List.ext_getElem
  · simp
  · intro j h1 h2
    simp only [List.length_set, List.length_map, List.length_range] at h1
    rw [List.getElem_set]
    simp only [List.getElem_map, List.getElem_range]
    by_cases h : i = j
    · subst h; simp
    · rw [if_neg h, if_neg (fun e => h e.symm)]
theorem range_ix {α : Type} {f : Nat → α} {n i : Nat} (h : i < n) : ix ((List.range n).map f) (i : Int) = some (f i) := by
  unfold ix
  rw [if_neg (by omega), Int.toNat_natCast]
  simp [h]
end Go.Gx

namespace Go.Proofs.Ws
open Go Go.Fw Go.Gx Go.Sp
theorem KZ (a b : Int) : JH a [b] = some (min a b) := by
  unfold JH
  have h1 : zu [b] ⟨a, 0⟩ = some (.inl ⟨min a b, 1⟩) := by
    unfold zu
    simp [ix, addc]
  have h2 : zu [b] ⟨min a b, 1⟩ = some (.inr (min a b)) := by
    unfold zu
    simp
  have e : FU = (FU - 2) + 1 + 1 := by unfold FU; rfl
  rw [e, iterM_step h1, iterM_done h2]
  rfl
theorem ix_way {l : List Wy} {c : Change} (h : isWay l c) : ix l c.way = some (wy l c) := by
  obtain ⟨h1, h2⟩ := h
  exact ix_eq default h1 h2
theorem J6 {l : List Wy} (hl : NetOK l) {c : Change} (h : isWay l c) : qq l c = some ⟨eA l c, eB l c, eC l c, rm l c⟩ := by
  have hk := hl.2 _ (wy_mem h)
  have h1 := hk.hi; have h2 := hk.goes; have h3 := hk.cost; have h4 := hk.lo
  unfold qq
  rw [ix_way h, Option.bind_some]
  unfold eA eB eC rm
  cases c.more with
  | true =>
    simp only [if_true]
    rw [subc_eq (by omega), Option.bind_some]
  | false =>
    simp only [Bool.false_eq_true, if_false]
    rw [negc_eq (by omega), Option.bind_some, KZ, Option.bind_some, subc_eq (by omega), Option.bind_some]
def gI {α : Type} (d : α) (l : List α) (x : Int) : α := if 0 ≤ x then l.getD x.toNat d else d
theorem gI_set {α : Type} {d v : α} {l : List α} {b : Int} (h0 : 0 ≤ b) (h1 : b < l.length) : gI d (l.set b.toNat v) = upd (gI d l) b v := by
  funext x
  unfold gI upd
  by_cases hx : x = b
  · subst hx
    rw [if_pos h0, if_pos rfl, List.getD_eq_getElem?_getD, List.getElem?_set_self (by omega)]
    rfl
  · rw [if_neg hx]
    by_cases h : 0 ≤ x
    · simp only [h, if_true]
      rw [List.getD_eq_getElem?_getD, List.getD_eq_getElem?_getD, List.getElem?_set_ne (by omega)]
    · simp only [h, if_false]
theorem ix_gI {α : Type} (d : α) {l : List α} {x : Int} (h0 : 0 ≤ x) (h1 : x < l.length) : ix l x = some (gI d l x) := by
  unfold gI
  rw [if_pos h0]
  exact ix_eq d h0 h1
def resTo (l : List Wy) (k : Nat) : List Change := (List.range k).flatMap fun i : Nat => ([⟨(i : Int), true⟩, ⟨(i : Int), false⟩] : List Change).filter fun c => decide (0 < rm l c)
theorem resTo_succ {l : List Wy} {k : Nat} : resTo l (k + 1) = resTo l k ++ ((if 0 < rm l ⟨(k : Int), true⟩ then [⟨(k : Int), true⟩] else []) ++ (if 0 < rm l ⟨(k : Int), false⟩ then [⟨(k : Int), false⟩] else [])) := by
  unfold resTo
  rw [List.range_succ, List.flatMap_append]
  congr 1
  simp only [List.flatMap_cons, List.flatMap_nil, List.append_nil, List.filter_cons, List.filter_nil]
  by_cases h1 : 0 < rm l ⟨(k : Int), true⟩ <;> by_cases h2 : 0 < rm l ⟨(k : Int), false⟩ <;> simp [h1, h2]
theorem resTo_all (l : List Wy) : resTo l l.length = res l := rfl
theorem res_len (l : List Wy) : (res l).length ≤ 2 * l.length := by
  have key : ∀ k, (resTo l k).length ≤ 2 * k := by
    intro k
    induction k with
    | zero => simp [resTo]
    | succ k ih =>
      rw [resTo_succ]
      simp only [List.length_append]
      split <;> split <;> simp <;> omega
  rw [← resTo_all]
  exact key l.length
theorem ends_in {l : List Wy} (hl : NetOK l) {c : Change} (h : isWay l c) : (0 ≤ eA l c ∧ eA l c < 12) ∧ (0 ≤ eB l c ∧ eB l c < 12) ∧ eA l c ≠ eB l c ∧ -1 ≤ eC l c ∧ eC l c ≤ 1 := by
  have hk := hl.2 _ (wy_mem h)
  have h1 := hk.fr; have h2 := hk.dst; have h3 := hk.ne; have h4 := hk.cost
  unfold eA eB eC
  cases c.more with
  | true => simp only [if_true]; omega
  | false => simp only [Bool.false_eq_true, if_false]; omega
theorem way_nat {l : List Wy} {k : Nat} (h : k < l.length) (m : Bool) : isWay l ⟨(k : Int), m⟩ := ⟨by simp, by simpa using h⟩
end Go.Proofs.Ws

namespace Go.Proofs.Ws
open Go Go.Fw Go.Gx Go.Sp
abbrev nil0 : Change := ⟨0, false⟩
def visitL (l : List Wy) (s : List Bool × List Change) (c : Change) : List Bool × List Change :=
  if gI false s.1 (eA l c) = true ∧ gI false s.1 (eB l c) = false then (s.1.set (eB l c).toNat true, s.2.set (eB l c).toNat c) else s
def L12 (s : List Bool × List Change) : Prop := s.1.length = 12 ∧ s.2.length = 12
def bsOf (s : List Bool × List Change) : BS := ⟨gI false s.1, gI nil0 s.2⟩
theorem visitL_12 {l : List Wy} {s : List Bool × List Change} (h : L12 s) (c : Change) : L12 (visitL l s c) := by
  unfold visitL L12 at *
  split <;> simp [h.1, h.2]
theorem visitL_bs {l : List Wy} (hl : NetOK l) {s : List Bool × List Change} (h : L12 s) {c : Change} (hc : isWay l c) : bsOf (visitL l s c) = visit (eA l) (eB l) (bsOf s) c := by
  obtain ⟨h1, h2, _⟩ := ends_in hl hc
  unfold visitL visit bsOf
  split
  · simp only
    rw [gI_set h2.1 (by rw [h.1]; exact h2.2), gI_set h2.1 (by rw [h.2]; exact h2.2)]
  · rfl
theorem jbD {l : List Wy} (hl : NetOK l) {s : List Bool × List Change} (h : L12 s) {c : Change} (hc : isWay l c) (C R : Int) :
    yM c (eA l c) (eB l c) C R s.1 s.2 = some ⟨(visitL l s c).1, (visitL l s c).2⟩ := by
  obtain ⟨h1, h2, _⟩ := ends_in hl hc
  unfold yM visitL
  rw [ix_gI false h1.1 (by rw [h.1]; exact h1.2), Option.bind_some]
  cases ha : gI false s.1 (eA l c) with
  | false => simp
  | true =>
    simp only [if_true, true_and]
    rw [ix_gI false h2.1 (by rw [h.1]; exact h2.2), Option.bind_some]
    cases hb : gI false s.1 (eB l c) with
    | true => simp
    | false =>
      simp only [Option.bind_some, Bool.not_false, if_true]
      rw [ix_gI nil0 h2.1 (by rw [h.2]; exact h2.2), Option.bind_some]
theorem fold_12 {l : List Wy} : ∀ (L : List Change) {s : List Bool × List Change}, L12 s → L12 (L.foldl (visitL l) s)
  | [], _, h => h
  | c :: L, _, h => fold_12 L (visitL_12 h c)
theorem fold_bs {l : List Wy} (hl : NetOK l) : ∀ (L : List Change), (∀ c, c ∈ L → isWay l c) → ∀ {s : List Bool × List Change}, L12 s → bsOf (L.foldl (visitL l) s) = L.foldl (visit (eA l) (eB l)) (bsOf s)
  | [], _, _, _ => rfl
  | c :: L, hL, s, h => by
    show bsOf (L.foldl (visitL l) (visitL l s c)) = _
    rw [fold_bs hl L (fun d hd => hL d (by simp [hd])) (visitL_12 h c), visitL_bs hl h (hL c (by simp))]
    rfl
theorem Y2 {l : List Wy} (hl : NetOK l) {s : List Bool × List Change} (h : L12 s) : zb l s.1 s.2 = some ⟨((res l).foldl (visitL l) s).1, ((res l).foldl (visitL l) s).2⟩ := by
  unfold zb
  have key := iterM_run (f := qO l) (fun k => ⟨(k : Int), ((resTo l k).foldl (visitL l) s).1, ((resTo l k).foldl (visitL l) s).2⟩) l.length (b := ⟨((res l).foldl (visitL l) s).1, ((res l).foldl (visitL l) s).2⟩) (fun k hk => ?_) ?_ FU (FU_lt (by have := hl.1; omega))
  · simp only [resTo, List.range_zero, List.flatMap_nil, List.foldl_nil] at key
    have e : ((0 : Nat) : Int) = 0 := rfl
    rw [e] at key
    rw [key, Option.bind_some]
  · have h12 : L12 ((resTo l k).foldl (visitL l) s) := fold_12 _ h
    generalize hs : (resTo l k).foldl (visitL l) s = t at h12
    unfold qO
    have hlt : (k : Int) < (l.length : Int) := by omega
    simp only [hlt, if_true]
    have step : ∀ (b : Bool) (u : List Bool × List Change), L12 u → ((qq l (⟨(k : Int), b⟩ : Change)).bind fun t32 => if 0 < t32.r3 then ((yM (⟨(k : Int), b⟩ : Change) t32.r0 t32.r1 t32.r2 t32.r3 u.1 u.2).bind fun t45 => some (⟨t45.a55_0, t45.a66_0⟩ : qI)) else (some (⟨u.1, u.2⟩ : qI))) = some (⟨(if 0 < rm l ⟨(k : Int), b⟩ then visitL l u ⟨(k : Int), b⟩ else u).1, (if 0 < rm l ⟨(k : Int), b⟩ then visitL l u ⟨(k : Int), b⟩ else u).2⟩ : qI) := fun b u hu => by
      rw [J6 hl (way_nat hk b), Option.bind_some]
      by_cases hr : 0 < rm l ⟨(k : Int), b⟩
      · simp only [hr, if_true]
        rw [jbD hl hu (way_nat hk b), Option.bind_some]
      · simp only [hr, if_false]
    obtain ⟨u1, hu1⟩ : ∃ u1, u1 = if 0 < rm l ⟨(k : Int), true⟩ then visitL l t ⟨(k : Int), true⟩ else t := ⟨_, rfl⟩
    obtain ⟨u2, hu2⟩ : ∃ u2, u2 = if 0 < rm l ⟨(k : Int), false⟩ then visitL l u1 ⟨(k : Int), false⟩ else u1 := ⟨_, rfl⟩
    have hu112 : L12 u1 := by rw [hu1]; split; exact visitL_12 h12 _; exact h12
    have f1 : ki l ⟨(k : Int), t.1, t.2⟩ ⟨0, t.1, t.2⟩ = some (.inl ⟨1, u1.1, u1.2⟩) := by
      unfold ki
      simp only [List.length_cons, List.length_nil]
      rw [if_pos (by decide)]
      have e : ix [true, false] (0 : Int) = some true := rfl
      rw [e, Option.bind_some, step true t h12, ← hu1, Option.bind_some]
      rfl
    have f2 : ki l ⟨(k : Int), t.1, t.2⟩ ⟨1, u1.1, u1.2⟩ = some (.inl ⟨2, u2.1, u2.2⟩) := by
      unfold ki
      simp only [List.length_cons, List.length_nil]
      rw [if_pos (by decide)]
      have e : ix [true, false] (1 : Int) = some false := rfl
      rw [e, Option.bind_some, step false u1 hu112, ← hu2, Option.bind_some]
      rfl
    have f3 : ki l ⟨(k : Int), t.1, t.2⟩ ⟨2, u2.1, u2.2⟩ = some (.inr ⟨u2.1, u2.2⟩) := by
      unfold ki
      simp only [List.length_cons, List.length_nil]
      rw [if_neg (by decide)]
    have e : FU = (FU - 3) + 1 + 1 + 1 := by unfold FU; rfl
    rw [e, iterM_step f1, iterM_step f2, iterM_done f3, Option.bind_some, addc_eq (by have := hl.1; omega), Option.bind_some]
    have hn : (resTo l (k + 1)).foldl (visitL l) s = u2 := by
      rw [resTo_succ, List.foldl_append, List.foldl_append, hs, hu2, hu1]
      by_cases h1 : 0 < rm l ⟨(k : Int), true⟩ <;> by_cases h2 : 0 < rm l ⟨(k : Int), false⟩ <;> simp [h1, h2]
    rw [hn]
    rfl
  · unfold qO
    simp only [Int.lt_irrefl, if_false]
    rw [resTo_all]
end Go.Proofs.Ws

namespace Go.Proofs.Ws
open Go Go.Fw Go.Gx Go.Sp
theorem count_lt : ∀ (m m' : List Bool), m.length = m'.length → (∀ i : Nat, i < m.length → m.getD i false = true → m'.getD i false = true) → m ≠ m' → m.count true < m'.count true
  | [], [], _, _, h => absurd rfl h
  | [], _ :: _, h, _, _ => by simp at h
  | _ :: _, [], h, _, _ => by simp at h
  | a :: m, b :: m', hl, hm, hne => by
    have hab : a = true → b = true := fun h => by
      have := hm 0 (by simp) (by simpa using h)
      simpa using this
    have hm' : ∀ i : Nat, i < m.length → m.getD i false = true → m'.getD i false = true := fun i hi h => by
      have := hm (i + 1) (by simpa using hi) (by simpa using h)
      simpa using this
    have hl' : m.length = m'.length := by simpa using hl
    by_cases he : m = m'
    · subst he
      cases a <;> cases b
      · exact absurd rfl hne
      · simp [List.count_cons]
      · have := hab rfl; cases this
      · exact absurd rfl hne
    · have ih := count_lt m m' hl' hm' he
      cases a <;> cases b
      · simpa [List.count_cons] using ih
      · simp only [List.count_cons, beq_self_eq_true, if_true]; simp; omega
      · have := hab rfl; cases this
      · simpa [List.count_cons] using ih
def pOf (l : List Wy) (by_ : List Change) : Int → Int := fun x => eA l (gI nil0 by_ x)
theorem Z0 {l : List Wy} (hl : NetOK l) {src to : Int} (hs : 0 ≤ src ∧ src < 12) (ht : 0 ≤ to ∧ to < 12) :
    ∃ (met : List Bool) (by_ : List Change), met.length = 12 ∧ gI false met src = true ∧ (∀ c, c ∈ res l → gI false met (eA l c) = true → gI false met (eB l c) = true) ∧
      ((gI false met to = false ∧ KR l src to = some ⟨met, []⟩) ∨
       (gI false met to = true ∧ ∃ (k : Nat) (d : Int → Nat), KR l src to = some ⟨met, chainL (gI nil0 by_) (pOf l by_) to k⟩ ∧ k ≤ 1066 ∧ iterP (pOf l by_) k to = src ∧
        (∀ j, j < k → iterP (pOf l by_) j to ≠ src ∧ gI nil0 by_ (iterP (pOf l by_) j to) ∈ res l ∧ eB l (gI nil0 by_ (iterP (pOf l by_) j to)) = iterP (pOf l by_) j to) ∧
        (∀ i j, i < j → j ≤ k → d (iterP (pOf l by_) j to) < d (iterP (pOf l by_) i to)))) := by
  unfold KR
  have hrl := res_len l
  have hlen := hl.1
  rw [ix_gI false hs.1 (by simpa using hs.2), Option.bind_some, Option.bind_some]
  have hres : ∀ c, c ∈ res l → isWay l c := fun c hc => (res_mem.1 hc).1
  have hround : ∃ o, iterM FU (JL l) ⟨List.replicate 12 nil0, (List.replicate 12 false).set src.toNat true⟩ = some o ∧ L12 (o.met8, o.by9) ∧ gI false o.met8 src = true ∧ (∀ c, c ∈ res l → gI false o.met8 (eA l c) = true → gI false o.met8 (eB l c) = true) ∧ ∃ d N, BInv (eA l) (eB l) (res l) src d N (bsOf (o.met8, o.by9)) ∧ N ≤ 1066 := by
    refine iterM_inv (f := JL l) (fun s => L12 (s.met8, s.by9) ∧ ∃ d N, BInv (eA l) (eB l) (res l) src d N (bsOf (s.met8, s.by9)) ∧ N ≤ 82 * s.met8.count true) (fun s => 12 - s.met8.count true) (fun o => L12 (o.met8, o.by9) ∧ gI false o.met8 src = true ∧ (∀ c, c ∈ res l → gI false o.met8 (eA l c) = true → gI false o.met8 (eB l c) = true) ∧ ∃ d N, BInv (eA l) (eB l) (res l) src d N (bsOf (o.met8, o.by9)) ∧ N ≤ 1066) (fun s hs => ?_) FU ⟨List.replicate 12 nil0, (List.replicate 12 false).set src.toNat true⟩ (FU_lt (by omega)) ?_
    · -- a round
      obtain ⟨h12, d, N, hb, hN⟩ := hs
      unfold JL
      rw [Y2 hl h12, Option.bind_some]
      have h12' := fold_12 (l := l) (res l) h12
      have hbs := fold_bs hl (res l) hres h12
      obtain ⟨d', hb'⟩ := hb.fold (res l) (fun _ h => h)
      rw [← hbs] at hb'
      obtain ⟨t, ht'⟩ : ∃ t, t = (res l).foldl (visitL l) (s.met8, s.by9) := ⟨_, rfl⟩
      rw [← ht'] at h12' hb' hbs ⊢
      by_cases heq : t.1 = s.met8
      · right
        simp only [heq, if_true]
        refine ⟨_, rfl, ?_, ?_, fun c hc ha => ?_, d', N + (res l).length, ?_, ?_⟩
        · rw [← heq]; exact h12'
        · exact hb.srcm
        · have := fold_done (A := eA l) (B := eB l) (res l) (bsOf (s.met8, s.by9)) c hc ha
          rw [← hbs] at this
          show gI false s.met8 (eB l c) = true
          rw [← heq]; exact this
        · rw [← heq]; exact hb'
        · have h1 : s.met8.count true ≤ s.met8.length := List.count_le_length
          have h2 := h12.1
          simp only at h2
          omega
      · left
        simp only [heq, if_false]
        have hlt : s.met8.count true < t.1.count true := count_lt _ _ (by rw [h12.1, h12'.1]) (fun i hi hi2 => by
          have := fold_mono (A := eA l) (B := eB l) (res l) (bsOf (s.met8, s.by9)) (i : Int) (by
            show gI false s.met8 (i : Int) = true
            unfold gI; rw [if_pos (by omega)]; simpa using hi2)
          rw [← hbs] at this
          have h3 : gI false t.1 (i : Int) = true := this
          unfold gI at h3
          rw [if_pos (by omega)] at h3
          simpa using h3) (fun e => heq e.symm)
        refine ⟨_, rfl, ⟨h12', d', N + (res l).length, hb', ?_⟩, ?_⟩
        · show N + (res l).length ≤ 82 * t.1.count true
          omega
        · have h1 : t.1.count true ≤ t.1.length := List.count_le_length
          have h2 := h12'.1
          show 12 - t.1.count true < 12 - s.met8.count true
          omega
    · refine ⟨⟨by simp, by simp⟩, fun _ => 0, 0, ⟨?_, fun _ => Nat.le_refl _, fun x hx hne => ?_⟩, Nat.zero_le _⟩
      · show gI false ((List.replicate 12 false).set src.toNat true) src = true
        rw [gI_set hs.1 (by simpa using hs.2), upd_same]
      · exfalso
        have hx' : gI false ((List.replicate 12 false).set src.toNat true) x = true := hx
        rw [gI_set hs.1 (by simpa using hs.2), upd_ne hne] at hx'
        unfold gI at hx'
        split at hx'
        · rw [List.getD_eq_getElem?_getD, List.getElem?_replicate] at hx'
          split at hx' <;> simp at hx'
        · cases hx'
  obtain ⟨o, ho, ⟨hoL, hosrc, hocl, d, N, hb, hN⟩⟩ := hround
  rw [ho, Option.bind_some, ix_gI false ht.1 (by rw [hoL.1]; exact ht.2), Option.bind_some]
  refine ⟨o.met8, o.by9, hoL.1, hosrc, hocl, ?_⟩
  cases hto : gI false o.met8 to with
  | false => exact .inl ⟨rfl, by simp⟩
  | true =>
    right
    obtain ⟨k, h1, h2, h3, h4⟩ := hb.back (to := to) hto
    refine ⟨rfl, k, d, ?_, by omega, h2, h3, h4⟩
    simp only [Bool.not_true, Bool.false_eq_true, if_false]
    have key := iterM_run (f := JG src o l) (fun j => ⟨iterP (pOf l o.by9) j to, chainL (gI nil0 o.by9) (pOf l o.by9) to j⟩) k (b := chainL (gI nil0 o.by9) (pOf l o.by9) to k) (fun j hj => ?_) ?_ FU (FU_lt (by omega))
    · have e : (⟨iterP (pOf l o.by9) 0 to, chainL (gI nil0 o.by9) (pOf l o.by9) to 0⟩ : JC) = ⟨to, []⟩ := rfl
      rw [← e, key, Option.bind_some]
    · obtain ⟨g1, g2, g3⟩ := h3 j hj
      have hw := hres _ g2
      have hin := (ends_in hl hw).2.1
      have g1' : iterP (pOf l o.by9) j to ≠ src := g1
      have g2' : gI nil0 o.by9 (iterP (pOf l o.by9) j to) ∈ res l := g2
      have g3' : eB l (gI nil0 o.by9 (iterP (pOf l o.by9) j to)) = iterP (pOf l o.by9) j to := g3
      have hw' : isWay l (gI nil0 o.by9 (iterP (pOf l o.by9) j to)) := hres _ g2'
      have hin' := (ends_in hl hw').2.1
      rw [g3'] at hin'
      unfold JG
      simp only
      rw [if_neg g1', ix_gI nil0 hin'.1 (by rw [hoL.2]; exact hin'.2), Option.bind_some, appc_eq (by
        unfold chainL; simp only [List.length_map, List.length_range, List.length_cons, List.length_nil]; omega), Option.bind_some, Option.bind_some, J6 hl hw', Option.bind_some]
      have e1 : chainL (gI nil0 o.by9) (pOf l o.by9) to (j + 1) = chainL (gI nil0 o.by9) (pOf l o.by9) to j ++ [⟨(gI nil0 o.by9 (iterP (pOf l o.by9) j to)).way, (gI nil0 o.by9 (iterP (pOf l o.by9) j to)).more⟩] := by
        unfold chainL
        rw [List.range_succ, List.map_append]
        rfl
      rw [e1, iterP_succ]
      rfl
    · unfold JG
      have h2' : iterP (pOf l o.by9) k to = src := h2
      simp only
      rw [if_pos h2']
end Go.Proofs.Ws

namespace Go.Proofs.Ws
open Go Go.Fw Go.Gx Go.Sp
structure FL where
  far : List Int
  by_ : List Change
  last : Int
def relaxL (l : List Wy) (s : FL) (c : Change) : FL :=
  if gI 0 s.far (eA l c) + eC l c < gI 0 s.far (eB l c) then ⟨s.far.set (eB l c).toNat (gI 0 s.far (eA l c) + eC l c), s.by_.set (eB l c).toNat c, eB l c⟩ else s
structure F12 (K : Nat) (s : FL) : Prop where
  far : s.far.length = 12
  by_ : s.by_.length = 12
  lo : ∀ x, -(K : Int) ≤ gI 0 s.far x ∧ gI 0 s.far x ≤ 0
def bfOf (s : FL) : BF := ⟨gI 0 s.far, gI nil0 s.by_, s.last⟩
theorem F12.mono {K K' : Nat} {s : FL} (h : F12 K s) (hk : K ≤ K') : F12 K' s := ⟨h.far, h.by_, fun x => by have := h.lo x; omega⟩
theorem relaxL_12 {l : List Wy} (hl : NetOK l) {K : Nat} {s : FL} (h : F12 K s) {c : Change} (hc : isWay l c) : F12 (K + 1) (relaxL l s c) := by
  obtain ⟨h1, h2, h3, h4, h5⟩ := ends_in hl hc
  unfold relaxL
  split
  · rename_i hlt
    refine ⟨by simp [h.far], by simp [h.by_], fun x => ?_⟩
    simp only
    rw [gI_set h2.1 (by rw [h.far]; exact h2.2)]
    unfold upd
    have := h.lo x; have := h.lo (eA l c); have := h.lo (eB l c)
    split <;> omega
  · exact h.mono (by omega)
theorem relaxL_bf {l : List Wy} (hl : NetOK l) {K : Nat} {s : FL} (h : F12 K s) {c : Change} (hc : isWay l c) : bfOf (relaxL l s c) = relax (eA l) (eB l) (eC l) (bfOf s) c := by
  obtain ⟨h1, h2, _⟩ := ends_in hl hc
  unfold relaxL relax bfOf
  split
  · simp only
    rw [gI_set h2.1 (by rw [h.far]; exact h2.2), gI_set h2.1 (by rw [h.by_]; exact h2.2)]
  · rfl
theorem jbk {l : List Wy} (hl : NetOK l) {K : Nat} (hK : K ≤ 100000) {s : FL} (h : F12 K s) {c : Change} (hc : isWay l c) (R : Int) :
    qf c (eA l c) (eB l c) (eC l c) R s.far s.by_ s.last = some ⟨(relaxL l s c).far, (relaxL l s c).by_, (relaxL l s c).last⟩ := by
  obtain ⟨h1, h2, h3, h4, h5⟩ := ends_in hl hc
  have b1 := h.lo (eA l c)
  unfold qf relaxL
  have hf := h.far; have hb := h.by_
  rw [ix_gI 0 h1.1 (by rw [hf]; exact h1.2), Option.bind_some, addc_eq (by omega), Option.bind_some, ix_gI 0 h2.1 (by rw [hf]; exact h2.2), Option.bind_some]
  by_cases hlt : gI 0 s.far (eA l c) + eC l c < gI 0 s.far (eB l c)
  · simp only [hlt, if_true]
    rw [Option.bind_some, addc_eq (by omega), Option.bind_some, Option.bind_some, Option.bind_some, ix_gI nil0 h2.1 (by rw [hb]; exact h2.2), Option.bind_some, Option.bind_some]
  · simp only [hlt, if_false]
theorem foldF_12 {l : List Wy} (hl : NetOK l) : ∀ (L : List Change), (∀ c, c ∈ L → isWay l c) → ∀ {K : Nat} {s : FL}, F12 K s → F12 (K + L.length) (L.foldl (relaxL l) s)
  | [], _, K, s, h => h
  | c :: L, hL, K, s, h => by
    have := foldF_12 hl L (fun d hd => hL d (by simp [hd])) (relaxL_12 hl h (hL c (by simp)))
    rw [List.length_cons, show K + (L.length + 1) = K + 1 + L.length by omega]
    exact this
theorem foldF_bf {l : List Wy} (hl : NetOK l) : ∀ (L : List Change), (∀ c, c ∈ L → isWay l c) → ∀ {K : Nat} {s : FL}, F12 K s → bfOf (L.foldl (relaxL l) s) = L.foldl (relax (eA l) (eB l) (eC l)) (bfOf s)
  | [], _, _, _, _ => rfl
  | c :: L, hL, K, s, h => by
    show bfOf (L.foldl (relaxL l) (relaxL l s c)) = _
    rw [foldF_bf hl L (fun d hd => hL d (by simp [hd])) (relaxL_12 hl h (hL c (by simp))), relaxL_bf hl h (hL c (by simp))]
    rfl
theorem resTo_way {l : List Wy} {k : Nat} (hk : k ≤ l.length) : ∀ c, c ∈ resTo l k → isWay l c := fun c hc => by
  unfold resTo at hc
  obtain ⟨i, hi, h⟩ := List.mem_flatMap.1 hc
  have hi' : i < l.length := by have := List.mem_range.1 hi; omega
  have := (List.mem_filter.1 h).1
  simp only [List.mem_cons, List.not_mem_nil, or_false] at this
  rcases this with rfl | rfl <;> exact way_nat hi' _
theorem resTo_len {l : List Wy} (k : Nat) : (resTo l k).length ≤ 2 * k := by
  induction k with
  | zero => simp [resTo]
  | succ k ih =>
    rw [resTo_succ]
    simp only [List.length_append]
    split <;> split <;> simp <;> omega
theorem Zu {l : List Wy} (hl : NetOK l) {K : Nat} (hK : K ≤ 2000) {s : FL} (h : F12 K s) : yX l s.far s.by_ s.last = some ⟨((res l).foldl (relaxL l) s).far, ((res l).foldl (relaxL l) s).by_, ((res l).foldl (relaxL l) s).last⟩ := by
  unfold yX
  have hlen := hl.1
  have key := iterM_run (f := qJ l) (fun k => ⟨(k : Int), ((resTo l k).foldl (relaxL l) s).far, ((resTo l k).foldl (relaxL l) s).by_, ((resTo l k).foldl (relaxL l) s).last⟩) l.length (b := ⟨((res l).foldl (relaxL l) s).far, ((res l).foldl (relaxL l) s).by_, ((res l).foldl (relaxL l) s).last⟩) (fun k hk => ?_) ?_ FU (FU_lt (by omega))
  · simp only [resTo, List.range_zero, List.flatMap_nil, List.foldl_nil] at key
    have e : ((0 : Nat) : Int) = 0 := rfl
    rw [e] at key
    rw [key, Option.bind_some]
  · have h12 := foldF_12 hl (resTo l k) (resTo_way (by omega)) h
    have hrl := resTo_len (l := l) k
    replace h12 := h12.mono (K' := 3000) (by omega)
    generalize hs : (resTo l k).foldl (relaxL l) s = t at h12
    unfold qJ
    have hlt : (k : Int) < (l.length : Int) := by omega
    simp only [hlt, if_true]
    have step : ∀ (b : Bool) (u : FL) (K : Nat), K ≤ 100000 → F12 K u → ((qq l (⟨(k : Int), b⟩ : Change)).bind fun t32 => if 0 < t32.r3 then ((qf (⟨(k : Int), b⟩ : Change) t32.r0 t32.r1 t32.r2 t32.r3 u.far u.by_ u.last).bind fun t45 => some (⟨t45.a55_0, t45.a66_0, t45.a77⟩ : qy)) else (some (⟨u.far, u.by_, u.last⟩ : qy))) = some (⟨(if 0 < rm l ⟨(k : Int), b⟩ then relaxL l u ⟨(k : Int), b⟩ else u).far, (if 0 < rm l ⟨(k : Int), b⟩ then relaxL l u ⟨(k : Int), b⟩ else u).by_, (if 0 < rm l ⟨(k : Int), b⟩ then relaxL l u ⟨(k : Int), b⟩ else u).last⟩ : qy) := fun b u K hK hu => by
      rw [J6 hl (way_nat hk b), Option.bind_some]
      by_cases hr : 0 < rm l ⟨(k : Int), b⟩
      · simp only [hr, if_true]
        rw [jbk hl hK hu (way_nat hk b), Option.bind_some]
      · simp only [hr, if_false]
    obtain ⟨u1, hu1⟩ : ∃ u1, u1 = if 0 < rm l ⟨(k : Int), true⟩ then relaxL l t ⟨(k : Int), true⟩ else t := ⟨_, rfl⟩
    obtain ⟨u2, hu2⟩ : ∃ u2, u2 = if 0 < rm l ⟨(k : Int), false⟩ then relaxL l u1 ⟨(k : Int), false⟩ else u1 := ⟨_, rfl⟩
    have hu112 : F12 3001 u1 := by rw [hu1]; split; exact relaxL_12 hl h12 (way_nat hk true); exact h12.mono (by omega)
    have f1 : kg l ⟨(k : Int), t.far, t.by_, t.last⟩ ⟨0, t.far, t.by_, t.last⟩ = some (.inl ⟨1, u1.far, u1.by_, u1.last⟩) := by
      unfold kg
      simp only [List.length_cons, List.length_nil]
      rw [if_pos (by decide)]
      have e : ix [true, false] (0 : Int) = some true := rfl
      rw [e, Option.bind_some, step true t 3000 (by omega) h12, ← hu1, Option.bind_some]
      rfl
    have f2 : kg l ⟨(k : Int), t.far, t.by_, t.last⟩ ⟨1, u1.far, u1.by_, u1.last⟩ = some (.inl ⟨2, u2.far, u2.by_, u2.last⟩) := by
      unfold kg
      simp only [List.length_cons, List.length_nil]
      rw [if_pos (by decide)]
      have e : ix [true, false] (1 : Int) = some false := rfl
      rw [e, Option.bind_some, step false u1 3001 (by omega) hu112, ← hu2, Option.bind_some]
      rfl
    have f3 : kg l ⟨(k : Int), t.far, t.by_, t.last⟩ ⟨2, u2.far, u2.by_, u2.last⟩ = some (.inr ⟨u2.far, u2.by_, u2.last⟩) := by
      unfold kg
      simp only [List.length_cons, List.length_nil]
      rw [if_neg (by decide)]
    have e : FU = (FU - 3) + 1 + 1 + 1 := by unfold FU; rfl
    rw [e, iterM_step f1, iterM_step f2, iterM_done f3, Option.bind_some, addc_eq (by omega), Option.bind_some]
    have hn : (resTo l (k + 1)).foldl (relaxL l) s = u2 := by
      rw [resTo_succ, List.foldl_append, List.foldl_append, hs, hu2, hu1]
      by_cases h1 : 0 < rm l ⟨(k : Int), true⟩ <;> by_cases h2 : 0 < rm l ⟨(k : Int), false⟩ <;> simp [h1, h2]
    rw [hn]
    rfl
  · unfold qJ
    simp only [Int.lt_irrefl, if_false]
    rw [resTo_all]
def roundsL (l : List Wy) : Nat → FL
  | 0 => ⟨List.replicate 12 0, List.replicate 12 nil0, -1⟩
  | r + 1 => (res l).foldl (relaxL l) ⟨(roundsL l r).far, (roundsL l r).by_, -1⟩
theorem gI_rep {α : Type} (d : α) (n : Nat) : gI d (List.replicate n d) = fun _ => d := by
  funext x
  unfold gI
  split
  · rw [List.getD_eq_getElem?_getD, List.getElem?_replicate]
    split <;> rfl
  · rfl
theorem roundsL_12 {l : List Wy} (hl : NetOK l) : ∀ r, F12 (82 * r) (roundsL l r)
  | 0 => ⟨by simp [roundsL], by simp [roundsL], fun x => by show _ ≤ gI 0 (List.replicate 12 0) x ∧ gI 0 (List.replicate 12 0) x ≤ 0; rw [gI_rep]; simp⟩
  | r + 1 => by
    have h := roundsL_12 hl r
    have h2 : F12 (82 * r) ⟨(roundsL l r).far, (roundsL l r).by_, -1⟩ := ⟨h.far, h.by_, h.lo⟩
    have h3 := foldF_12 hl (res l) (fun c hc => (res_mem.1 hc).1) h2
    have := res_len l; have := hl.1
    exact h3.mono (by omega)
theorem roundsL_bf {l : List Wy} (hl : NetOK l) : ∀ r, bfOf (roundsL l r) = rounds (eA l) (eB l) (eC l) (res l) (fun _ => nil0) r
  | 0 => by show BF.mk (gI 0 (List.replicate 12 0)) (gI nil0 (List.replicate 12 nil0)) (-1) = _; rw [gI_rep, gI_rep]; rfl
  | r + 1 => by
    have h := roundsL_12 hl r
    have h2 : F12 (82 * r) ⟨(roundsL l r).far, (roundsL l r).by_, -1⟩ := ⟨h.far, h.by_, h.lo⟩
    show bfOf ((res l).foldl (relaxL l) ⟨(roundsL l r).far, (roundsL l r).by_, -1⟩) = round (eA l) (eB l) (eC l) (res l) (rounds (eA l) (eB l) (eC l) (res l) (fun _ => nil0) r)
    rw [foldF_bf hl (res l) (fun c hc => (res_mem.1 hc).1) h2, ← roundsL_bf hl r]
    rfl
theorem pot_of {l : List Wy} {π : Int → Int} (h : ∀ c, c ∈ res l → π (eB l c) ≤ π (eA l c) + eC l c) : Pot π l := by
  intro w hw
  obtain ⟨i, hi, rfl⟩ := List.getElem_of_mem hw
  have e : ∀ m, wy l ⟨(i : Int), m⟩ = l[i] := fun m => by unfold wy; simp [List.getD_eq_getElem?_getD, hi]
  refine ⟨fun h1 => ?_, fun h1 => ?_⟩
  · have := h ⟨(i : Int), true⟩ (res_mem.2 ⟨way_nat hi true, by simp only [rm, if_true, e]; omega⟩)
    simpa [eA, eB, eC, e] using this
  · have := h ⟨(i : Int), false⟩ (res_mem.2 ⟨way_nat hi false, by simp only [rm, Bool.false_eq_true, if_false, e]; omega⟩)
    simp only [eA, eB, eC, e, Bool.false_eq_true, if_false] at this
    omega
def PotB (π : Int → Int) (l : List Wy) : Prop := Pot π l ∧ ∀ v, -1000000 ≤ π v ∧ π v ≤ 0
theorem YZ {l : List Wy} (hl : NetOK l) :
    (zp l = some [] ∧ ∃ π : Int → Int, PotB π l) ∨
    ∃ (pre : Int → Change) (y : Int) (k : Nat), zp l = some (chainL pre (fun x => eA l (pre x)) y k) ∧ 0 < k ∧ k ≤ 12 ∧
      (∀ j, j < k → pre (iterP (fun x => eA l (pre x)) j y) ∈ res l ∧ eB l (pre (iterP (fun x => eA l (pre x)) j y)) = iterP (fun x => eA l (pre x)) j y) ∧ iterP (fun x => eA l (pre x)) k y = y ∧
      (∀ j, 0 < j → j < k → iterP (fun x => eA l (pre x)) j y ≠ y) ∧ sumTo (fun j => eC l (pre (iterP (fun x => eA l (pre x)) j y))) k < 0 := by
  have hlen := hl.1
  have hres : ∀ c, c ∈ res l → isWay l c := fun c hc => (res_mem.1 hc).1
  have hin : ∀ c, c ∈ res l → (0 ≤ eA l c ∧ eA l c < 12) ∧ (0 ≤ eB l c ∧ eB l c < 12) ∧ eA l c ≠ eB l c ∧ -1 ≤ eC l c ∧ eC l c ≤ 1 := fun c hc => ends_in hl (hres c hc)
  have h0 : iterM FU (qx l) ⟨0, -1, List.replicate 12 nil0, List.replicate 12 0⟩ = some ⟨(roundsL l 13).last, (roundsL l 13).by_, (roundsL l 13).far⟩ := by
    have key := iterM_run (f := qx l) (fun r => ⟨(r : Int), (roundsL l r).last, (roundsL l r).by_, (roundsL l r).far⟩) 13 (b := ⟨(roundsL l 13).last, (roundsL l 13).by_, (roundsL l 13).far⟩) (fun r hr => ?_) ?_ FU (FU_lt (by omega))
    · exact key
    · unfold qx
      have hlt : (r : Int) < 13 := by omega
      simp only [hlt, if_true]
      have h := roundsL_12 hl r
      have h2 : F12 (82 * r) ⟨(roundsL l r).far, (roundsL l r).by_, -1⟩ := ⟨h.far, h.by_, h.lo⟩
      rw [Zu (K := 82 * r) hl (by omega) h2, Option.bind_some, addc_eq (by omega), Option.bind_some]
      rfl
    · unfold qx
      rfl
  have hb := roundsL_bf hl 13
  have h12 := roundsL_12 hl 13
  generalize roundsL l 13 = s at h0 hb h12
  unfold zp
  rw [h0, Option.bind_some]
  simp only
  by_cases hlast : s.last < 0
  · left
    simp only [hlast, if_true, true_and]
    refine ⟨gI 0 s.far, pot_of ?_, fun v => by have := h12.lo v; omega⟩
    have := rounds_pot (A := eA l) (B := eB l) (C := eC l) (cs := res l) (fun c hc => (hin c hc).2.2.1) (fun c hc => (hin c hc).2.1.1) (fun c hc => (hin c hc).2.2.2.1) (fun _ => nil0) (r := 13) (by omega) (by rw [← hb]; exact hlast)
    rw [← hb] at this
    exact this
  · right
    simp only [hlast, if_false]
    have hloop := rounds_loop (A := eA l) (B := eB l) (C := eC l) (cs := res l) (n := 12) (fun c hc => (hin c hc).2.2.1) (fun c hc => (hin c hc).1) (fun c hc => (hin c hc).2.1) (fun c hc => (hin c hc).2.2.2.1) (fun _ => nil0) (by
      show 0 ≤ (rounds (eA l) (eB l) (eC l) (res l) (fun _ => nil0) 13).last
      rw [← hb]; show 0 ≤ s.last; omega)
    have hb' : bfOf s = rounds (eA l) (eB l) (eC l) (res l) (fun _ => nil0) (12 + 1) := hb
    rw [← hb'] at hloop
    obtain ⟨hall, k, hk0, hk12, hper, hmin, hneg⟩ := hloop
    have ep : Go.Sp.pred (eA l) (bfOf s) = fun x => eA l (gI nil0 s.by_ x) := rfl
    rw [ep] at hall hper hmin hneg
    change ∀ j, gI nil0 s.by_ (iterP (fun x => eA l (gI nil0 s.by_ x)) j s.last) ∈ res l ∧ eB l (gI nil0 s.by_ (iterP (fun x => eA l (gI nil0 s.by_ x)) j s.last)) = iterP (fun x => eA l (gI nil0 s.by_ x)) j s.last at hall
    change iterP (fun x => eA l (gI nil0 s.by_ x)) k (iterP (fun x => eA l (gI nil0 s.by_ x)) 12 s.last) = iterP (fun x => eA l (gI nil0 s.by_ x)) 12 s.last at hper
    change ∀ j, 0 < j → j < k → iterP (fun x => eA l (gI nil0 s.by_ x)) j (iterP (fun x => eA l (gI nil0 s.by_ x)) 12 s.last) ≠ iterP (fun x => eA l (gI nil0 s.by_ x)) 12 s.last at hmin
    change sumTo (fun j => eC l (gI nil0 s.by_ (iterP (fun x => eA l (gI nil0 s.by_ x)) j (iterP (fun x => eA l (gI nil0 s.by_ x)) 12 s.last)))) k < 0 at hneg
    generalize hp : (fun x => eA l (gI nil0 s.by_ x)) = p at hall hper hmin hneg
    have hpx : ∀ x, eA l (gI nil0 s.by_ x) = p x := fun x => congrFun hp x
    have hnode : ∀ j, 0 ≤ iterP p j s.last ∧ iterP p j s.last < 12 := fun j => by
      obtain ⟨g1, g2⟩ := hall j
      have := (hin _ g1).2.1
      rw [g2] at this
      exact this
    have hix : ∀ j, ix s.by_ (iterP p j s.last) = some (gI nil0 s.by_ (iterP p j s.last)) := fun j => ix_gI nil0 (hnode j).1 (by rw [h12.by_]; exact (hnode j).2)
    have hall2 : ∀ j, gI nil0 s.by_ (iterP p j (iterP p 12 s.last)) ∈ res l ∧ eB l (gI nil0 s.by_ (iterP p j (iterP p 12 s.last))) = iterP p j (iterP p 12 s.last) := fun j => by rw [← iterP_add]; exact hall _
    have h1 : iterM FU (qG ⟨s.last, s.by_, s.far⟩ l) ⟨s.last, 0⟩ = some (iterP p 12 s.last) := by
      have key := iterM_run (f := qG ⟨s.last, s.by_, s.far⟩ l) (fun j => ⟨iterP p j s.last, (j : Int)⟩) 12 (b := iterP p 12 s.last) (fun j hj => ?_) ?_ FU (FU_lt (by omega))
      · exact key
      · unfold qG
        have hlt : (j : Int) < 12 := by omega
        simp only [hlt, if_true]
        rw [hix j, Option.bind_some, J6 hl (hres _ (hall j).1), Option.bind_some, addc_eq (by omega), Option.bind_some]
        simp only [hpx, ← iterP_succ]
        rfl
      · unfold qG
        rfl
    rw [h1, Option.bind_some]
    have h2 : iterM FU (qF ⟨s.last, s.by_, s.far⟩ l (iterP p 12 s.last)) ⟨iterP p 12 s.last, []⟩ = some (.inr (chainL (gI nil0 s.by_) p (iterP p 12 s.last) k)) := by
      have hstep : ∀ j, j < k → qF ⟨s.last, s.by_, s.far⟩ l (iterP p 12 s.last) ⟨iterP p j (iterP p 12 s.last), chainL (gI nil0 s.by_) p (iterP p 12 s.last) j⟩ = if iterP p (j + 1) (iterP p 12 s.last) = iterP p 12 s.last then some (.inr (.inr (chainL (gI nil0 s.by_) p (iterP p 12 s.last) (j + 1)))) else some (.inl ⟨iterP p (j + 1) (iterP p 12 s.last), chainL (gI nil0 s.by_) p (iterP p 12 s.last) (j + 1)⟩) := fun j hj => by
        unfold qF
        simp only
        have e1 : ix s.by_ (iterP p j (iterP p 12 s.last)) = some (gI nil0 s.by_ (iterP p j (iterP p 12 s.last))) := by rw [← iterP_add]; exact hix _
        rw [e1, Option.bind_some, appc_eq (by unfold chainL; simp only [List.length_map, List.length_range, List.length_cons, List.length_nil]; omega), Option.bind_some, Option.bind_some, J6 hl (hres _ (hall2 j).1), Option.bind_some]
        have e2 : chainL (gI nil0 s.by_) p (iterP p 12 s.last) (j + 1) = chainL (gI nil0 s.by_) p (iterP p 12 s.last) j ++ [gI nil0 s.by_ (iterP p j (iterP p 12 s.last))] := by
          unfold chainL
          rw [List.range_succ, List.map_append]
          rfl
        simp only [hpx, ← iterP_succ, e2]
      have key := iterM_run (f := qF ⟨s.last, s.by_, s.far⟩ l (iterP p 12 s.last)) (fun j => ⟨iterP p j (iterP p 12 s.last), chainL (gI nil0 s.by_) p (iterP p 12 s.last) j⟩) (k - 1) (b := .inr (chainL (gI nil0 s.by_) p (iterP p 12 s.last) k)) (fun j hj => ?_) ?_ FU (FU_lt (by omega))
      · exact key
      · rw [hstep j (by omega), if_neg (hmin (j + 1) (by omega) (by omega))]
      · rw [hstep (k - 1) (by omega), show k - 1 + 1 = k by omega, if_pos hper]
    rw [h2, Option.bind_some]
    subst hp
    exact ⟨gI nil0 s.by_, iterP (fun x => eA l (gI nil0 s.by_ x)) 12 s.last, k, rfl, hk0, hk12, fun j _ => hall2 j, hper, hmin, hneg⟩
end Go.Proofs.Ws

namespace Go.Proofs.Ws
open Go Go.Fw Go.Gx Go.Sp
theorem makeOK_pre {l : List Wy} {L : List Change} {m : Int} (h : MakeOK l L m) (j : Nat) : MakeOK l (L.take j) m :=
  ⟨fun c hc => h.way c (List.mem_of_mem_take hc), fun c hc => h.room c (List.mem_of_mem_take hc), List.Pairwise.sublist (List.take_sublist j L) h.once⟩
theorem makeL_snoc (l : List Wy) (L : List Change) (c : Change) (m : Int) : makeL l (L ++ [c]) m = adj (makeL l L m) c m := by simp [makeL]
theorem makeL_len : ∀ (L : List Change) (l : List Wy) (m : Int), (makeL l L m).length = l.length
  | [], _, _ => rfl
  | c :: L, l, m => by show (makeL (adj l c m) L m).length = _; rw [makeL_len L, adj_len]
theorem ZT {l : List Wy} (hl : NetOK l) {L : List Change} (hL : L.length ≤ 100000) {most : Int} (h0 : 0 ≤ mostL l L most) (h : MakeOK l L (mostL l L most)) : z7 l L most = some (makeL l L (mostL l L most)) := by
  unfold z7
  have k1 : iterM FU (yh L l) ⟨most, 0⟩ = some (mostL l L most) := by
    have key := iterM_run (f := yh L l) (fun j => ⟨mostL l (L.take j) most, (j : Int)⟩) L.length (b := mostL l L most) (fun j hj => ?_) ?_ FU (FU_lt (by omega))
    · exact key
    · unfold yh
      have hlt : (j : Int) < (L.length : Int) := by omega
      simp only [hlt, if_true]
      rw [ix_nat nil0 hj, Option.bind_some]
      have hc : L.getD j nil0 = L[j] := by simp [List.getD_eq_getElem?_getD, hj]
      rw [hc, J6 hl (h.way _ (List.getElem_mem hj)), Option.bind_some, KZ, Option.bind_some, addc_eq (by omega), Option.bind_some]
      have e : L.take (j + 1) = L.take j ++ [L[j]] := by rw [List.take_append_getElem]
      rw [e]
      unfold mostL
      rw [List.foldl_append]
      rfl
    · unfold yh
      simp [mostL]
  rw [k1, Option.bind_some]
  generalize mostL l L most = m at h0 h
  have k2 : iterM FU (yc L m) ⟨0, l⟩ = some (makeL l L m) := by
    have key := iterM_run (f := yc L m) (fun j => ⟨(j : Int), makeL l (L.take j) m⟩) L.length (b := makeL l L m) (fun j hj => ?_) ?_ FU (FU_lt (by omega))
    · exact key
    · unfold yc
      have hlt : (j : Int) < (L.length : Int) := by omega
      simp only [hlt, if_true]
      rw [ix_nat nil0 hj, Option.bind_some]
      have hc : L.getD j nil0 = L[j] := by simp [List.getD_eq_getElem?_getD, hj]
      rw [hc]
      have hw := h.way _ (List.getElem_mem hj)
      have hroom := h.room _ (List.getElem_mem hj)
      have hok := makeL_ok (L.take j) hl h0 (makeOK_pre h j)
      have hw2 : isWay (makeL l (L.take j) m) L[j] := by unfold isWay at *; rw [makeL_len]; exact hw
      have hk := hok.2 _ (wy_mem hw2)
      have hkl := hl.2 _ (wy_mem hw)
      have b1 := hk.goes; have b2 := hk.hi
      have b3 : m ≤ 1000000 := by
        have c1 := hkl.goes; have c2 := hkl.hi; have c3 := hkl.lo
        unfold rm at hroom
        split at hroom <;> omega
      have e : L.take (j + 1) = L.take j ++ [L[j]] := by rw [List.take_append_getElem]
      rw [e, makeL_snoc]
      unfold adj adjW
      cases hmo : (L[j]).more with
      | true =>
        simp only [if_true]
        rw [ix_way hw2, Option.bind_some, addc_eq (by omega), Option.bind_some, Option.bind_some, Option.bind_some, Option.bind_some, addc_eq (by omega), Option.bind_some]
        rfl
      | false =>
        simp only [Bool.false_eq_true, if_false]
        rw [ix_way hw2, Option.bind_some, subc_eq (by omega), Option.bind_some, Option.bind_some, Option.bind_some, Option.bind_some, addc_eq (by omega), Option.bind_some]
        rfl
    · unfold yc
      simp
  rw [k2, Option.bind_some]
def goneP (x : Strip) : Span := ⟨max 0 (x.lay.lo + x.seeded.lo - x.left.hi), x.lay.hi + x.seeded.hi - x.left.lo⟩
def In30 (x : Span) : Prop := 0 ≤ x.lo ∧ x.lo ≤ 30 ∧ 0 ≤ x.hi ∧ x.hi ≤ 30
theorem Ql {x : Strip} (h1 : In30 x.lay) (h2 : In30 x.seeded) (h3 : In30 x.left) : j4 x = some (goneP x) := by
  unfold j4 goneP
  unfold In30 at *
  rw [addc_eq (by omega), Option.bind_some, subc_eq (by omega), Option.bind_some, addc_eq (by omega), Option.bind_some, subc_eq (by omega), Option.bind_some]
structure NetS (st : List Strip) (ca : List Span) : Prop where
  s6 : st.length ≤ 6
  c5 : ca.length ≤ 5
  sp : ∀ x, x ∈ st → In30 x.lay ∧ In30 x.seeded ∧ In30 x.left ∧ (goneP x).lo ≤ (goneP x).hi
  cp : ∀ x, x ∈ ca → In30 x ∧ x.lo ≤ x.hi
def stripW (g : Nat → Span) (k : Nat) : Wy := ⟨0, 1 + (k : Int), (g k).lo, (g k).hi, 0, 0⟩
def innerW (c : Nat → Nat → Int) (t k : Nat) : Wy := ⟨1 + (k : Int), 7 + (t : Int), 0, 1000000, c t k, 0⟩
def tenW (h : Nat → Span) (t : Nat) : Wy := ⟨7 + (t : Int), 0, (h t).lo, (h t).hi, 0, 0⟩
def tenL (S : Nat) (h : Nat → Span) (R : Nat → Nat → Bool) (c : Nat → Nat → Int) (t : Nat) : List Wy := ((List.range S).filter (R t)).map (innerW c t) ++ [tenW h t]
def laidTo (S : Nat) (g h : Nat → Span) (R : Nat → Nat → Bool) (c : Nat → Nat → Int) (T : Nat) : List Wy := (List.range S).map (stripW g) ++ (List.range T).flatMap (tenL S h R c)
def gOf (st : List Strip) (k : Nat) : Span := goneP (st.getD k default)
def hOf (ca : List Span) (t : Nat) : Span := ca.getD t default
def rOf (mp : List (Pair × Bool)) (t k : Nat) : Bool := (aget mp ⟨(t : Int), (k : Int)⟩).getD false
def cOf (cf : Pair → Option Int) (t k : Nat) : Int := (cf ⟨(t : Int), (k : Int)⟩).getD 0
def laidS (st : List Strip) (ca : List Span) (mp : List (Pair × Bool)) (cf : Pair → Option Int) : List Wy := laidTo st.length (gOf st) (hOf ca) (rOf mp) (cOf cf) ca.length
def CfOK (st : List Strip) (ca : List Span) (cf : Pair → Option Int) : Prop := ∀ t k : Nat, t < ca.length → k < st.length → ∃ c : Int, cf ⟨(t : Int), (k : Int)⟩ = some c ∧ -1 ≤ c ∧ c ≤ 1
theorem filt_len {S : Nat} {p : Nat → Bool} : ((List.range S).filter p).length ≤ S := Nat.le_trans (List.length_filter_le _ _) (by simp)
theorem laidTo_len {S T : Nat} {g h : Nat → Span} {R : Nat → Nat → Bool} {c : Nat → Nat → Int} : (laidTo S g h R c T).length ≤ S + T * (S + 1) := by
  induction T with
  | zero => simp [laidTo]
  | succ T ih =>
    have e : laidTo S g h R c (T + 1) = laidTo S g h R c T ++ tenL S h R c T := by
      unfold laidTo
      rw [List.range_succ, List.flatMap_append, List.append_assoc]
      simp
    rw [e, List.length_append]
    have : (tenL S h R c T).length ≤ S + 1 := by
      unfold tenL
      have := filt_len (S := S) (p := R T)
      simp only [List.length_append, List.length_map, List.length_cons, List.length_nil]; omega
    rw [Nat.add_mul, Nat.one_mul]
    omega
theorem reachL_map (n : Nat) (mp : List (Pair × Bool)) (t : Nat) : reachL n mp (t : Int) = ((List.range n).filter (rOf mp t)).map fun k : Nat => (k : Int) := by
  unfold reachL
  rw [List.filter_map]
  rfl
theorem jaK {st : List Strip} {ca : List Span} (hS : NetS st ca) {mp : List (Pair × Bool)} {cf : Pair → Option Int} (hc : CfOK st ca cf) : J9 st ca mp cf = some (laidS st ca mp cf) := by
  unfold J9
  have h6 := hS.s6; have h5 := hS.c5
  have k1 : iterM FU (yf st) ⟨0, []⟩ = some ((List.range st.length).map (stripW (gOf st))) := by
    have key := iterM_run (f := yf st) (fun j => ⟨(j : Int), (List.range j).map (stripW (gOf st))⟩) st.length (b := (List.range st.length).map (stripW (gOf st))) (fun j hj => ?_) ?_ FU (FU_lt (by omega))
    · exact key
    · unfold yf
      have hlt : (j : Int) < (st.length : Int) := by omega
      simp only [hlt, if_true]
      have hx : st.getD j default = st[j] := by simp [List.getD_eq_getElem?_getD, hj]
      obtain ⟨b1, b2, b3, b4⟩ := hS.sp _ (List.getElem_mem hj)
      rw [ix_nat default hj, Option.bind_some, hx, addc_eq (by omega), Option.bind_some, Ql b1 b2 b3, Option.bind_some, Option.bind_some, appc_eq (by simp only [List.length_map, List.length_range, List.length_cons, List.length_nil]; omega), Option.bind_some, addc_eq (by omega), Option.bind_some]
      rw [List.range_succ, List.map_append]
      simp only [List.map_cons, List.map_nil, stripW, gOf, hx]
      rfl
    · unfold yf
      simp
  rw [k1, Option.bind_some]
  have k2 : iterM FU (yd ca st cf mp) ⟨0, (List.range st.length).map (stripW (gOf st))⟩ = some (laidS st ca mp cf) := by
    have key := iterM_run (f := yd ca st cf mp) (fun j => ⟨(j : Int), laidTo st.length (gOf st) (hOf ca) (rOf mp) (cOf cf) j⟩) ca.length (b := laidS st ca mp cf) (fun j hj => ?_) ?_ FU (FU_lt (by omega))
    · have e : laidTo st.length (gOf st) (hOf ca) (rOf mp) (cOf cf) 0 = (List.range st.length).map (stripW (gOf st)) := by simp [laidTo]
      rw [← e]
      exact key
    · unfold yd
      have hlt : (j : Int) < (ca.length : Int) := by omega
      have hln : (st.length : Int) ≤ 1000000 := by omega
      simp only [hlt, if_true]
      have hx : ca.getD j default = ca[j] := by simp [List.getD_eq_getElem?_getD, hj]
      have hbound := laidTo_len (S := st.length) (T := j) (g := gOf st) (h := hOf ca) (R := rOf mp) (c := cOf cf)
      have hb2 : (laidTo st.length (gOf st) (hOf ca) (rOf mp) (cOf cf) j).length ≤ 6 + 5 * 7 := by
        have : j * (st.length + 1) ≤ 5 * 7 := Nat.mul_le_mul (by omega) (by omega)
        omega
      rw [ix_nat default hj, Option.bind_some]
      unfold J2
      rw [Option.bind_some, if_pos hln, reachL_map]
      have hstep : ∀ (k : Nat), k < st.length → ∀ (acc : List Wy), acc.length ≤ 1000 → y9 ⟨(j : Int), laidTo st.length (gOf st) (hOf ca) (rOf mp) (cOf cf) j⟩ cf (k : Int) acc = some (acc ++ [innerW (cOf cf) j k]) := fun k hkl acc hacc => by
        obtain ⟨c, hcf, hc1, hc2⟩ := hc j k hj hkl
        unfold y9
        simp only
        rw [addc_eq (by omega), Option.bind_some, addc_eq (by omega), Option.bind_some, hcf, Option.bind_some, appc_eq (by simp only [List.length_cons, List.length_nil]; omega), Option.bind_some]
        simp [innerW, cOf, hcf]
      have hinner : ∀ (L : List Nat), (∀ k, k ∈ L → k < st.length) → ∀ (acc : List Wy), acc.length + L.length ≤ 1000 → iterL (y9 ⟨(j : Int), laidTo st.length (gOf st) (hOf ca) (rOf mp) (cOf cf) j⟩ cf) (L.map fun k : Nat => (k : Int)) acc = some (acc ++ L.map (innerW (cOf cf) j)) := by
        intro L
        induction L with
        | nil => intro _ acc _; simp [iterL]
        | cons k L ih =>
          intro hk acc hacc
          simp only [List.length_cons] at hacc
          simp only [List.map_cons, iterL]
          rw [hstep k (hk k (by simp)) acc (by omega), Option.bind_some, ih (fun x hx => hk x (by simp [hx])) _ (by simp only [List.length_append, List.length_cons, List.length_nil]; omega)]
          simp
      have hfl := filt_len (S := st.length) (p := rOf mp j)
      rw [hinner _ (fun k hk => by have := (List.mem_filter.1 hk).1; simpa using this) _ (by omega), Option.bind_some, addc_eq (by omega), Option.bind_some, appc_eq (by
        simp only [List.length_append, List.length_map, List.length_cons, List.length_nil]; omega), Option.bind_some, addc_eq (by omega), Option.bind_some]
      have e : laidTo st.length (gOf st) (hOf ca) (rOf mp) (cOf cf) (j + 1) = laidTo st.length (gOf st) (hOf ca) (rOf mp) (cOf cf) j ++ tenL st.length (hOf ca) (rOf mp) (cOf cf) j := by
        unfold laidTo
        rw [List.range_succ, List.flatMap_append, List.append_assoc]
        simp
      rw [e]
      simp only [tenL, tenW, hOf, hx, List.append_assoc]
      rfl
    · unfold yd
      simp [laidS]
  rw [k2, Option.bind_some]
theorem laid_mem {st : List Strip} {ca : List Span} {mp : List (Pair × Bool)} {cf : Pair → Option Int} {w : Wy} (hw : w ∈ laidS st ca mp cf) :
    (∃ k, k < st.length ∧ w = stripW (gOf st) k) ∨ (∃ t k, t < ca.length ∧ k < st.length ∧ rOf mp t k = true ∧ w = innerW (cOf cf) t k) ∨ (∃ t, t < ca.length ∧ w = tenW (hOf ca) t) := by
  unfold laidS laidTo at hw
  rcases List.mem_append.1 hw with hw | hw
  · obtain ⟨k, hk, rfl⟩ := List.mem_map.1 hw
    exact .inl ⟨k, by simpa using hk, rfl⟩
  · obtain ⟨t, ht, hw⟩ := List.mem_flatMap.1 hw
    unfold tenL at hw
    rcases List.mem_append.1 hw with hw | hw
    · obtain ⟨k, hk, rfl⟩ := List.mem_map.1 hw
      obtain ⟨h1, h2⟩ := List.mem_filter.1 hk
      exact .inr (.inl ⟨t, k, by simpa using ht, by simpa using h1, h2, rfl⟩)
    · rw [List.mem_singleton] at hw
      exact .inr (.inr ⟨t, by simpa using ht, hw⟩)
theorem gOf_ok {st : List Strip} {ca : List Span} (hS : NetS st ca) {k : Nat} (hk : k < st.length) : 0 ≤ (gOf st k).lo ∧ (gOf st k).lo ≤ (gOf st k).hi ∧ (gOf st k).hi ≤ 60 := by
  have hx : st.getD k default = st[k] := by simp [List.getD_eq_getElem?_getD, hk]
  obtain ⟨b1, b2, b3, b4⟩ := hS.sp _ (List.getElem_mem hk)
  unfold gOf
  rw [hx]
  unfold In30 at *
  refine ⟨by show 0 ≤ max _ _; omega, b4, by show _ + _ - _ ≤ (60 : Int); omega⟩
theorem hOf_ok {st : List Strip} {ca : List Span} (hS : NetS st ca) {t : Nat} (ht : t < ca.length) : 0 ≤ (hOf ca t).lo ∧ (hOf ca t).lo ≤ (hOf ca t).hi ∧ (hOf ca t).hi ≤ 30 := by
  have hx : ca.getD t default = ca[t] := by simp [List.getD_eq_getElem?_getD, ht]
  obtain ⟨b1, b2⟩ := hS.cp _ (List.getElem_mem ht)
  unfold hOf
  rw [hx]
  unfold In30 at *
  omega
theorem laid_ok {st : List Strip} {ca : List Span} (hS : NetS st ca) {mp : List (Pair × Bool)} {cf : Pair → Option Int} (hc : CfOK st ca cf) : NetOK (laidS st ca mp cf) := by
  have h6 := hS.s6; have h5 := hS.c5
  refine ⟨?_, fun w hw => ?_⟩
  · have := laidTo_len (S := st.length) (T := ca.length) (g := gOf st) (h := hOf ca) (R := rOf mp) (c := cOf cf)
    have h2 : ca.length * (st.length + 1) ≤ 5 * 7 := Nat.mul_le_mul (by omega) (by omega)
    unfold laidS
    omega
  · rcases laid_mem hw with ⟨k, hk, rfl⟩ | ⟨t, k, ht, hk, _, rfl⟩ | ⟨t, ht, rfl⟩
    · have := gOf_ok hS hk
      unfold stripW
      exact ⟨by simp, by simp only; omega, by simp only; omega, by simp, by simp only; omega, by simp only; omega, by simp only; omega⟩
    · obtain ⟨c, hcf, h1, h2⟩ := hc t k ht hk
      have e : cOf cf t k = c := by simp [cOf, hcf]
      unfold innerW
      exact ⟨by simp only; omega, by simp only; omega, by simp only; omega, by simp only [e]; omega, by simp, by simp, by simp⟩
    · have := hOf_ok hS ht
      unfold tenW
      exact ⟨by simp only; omega, by simp, by simp only; omega, by simp, by simp only; omega, by simp only; omega, by simp only; omega⟩
theorem laid_zero {st : List Strip} {ca : List Span} {mp : List (Pair × Bool)} {cf : Pair → Option Int} : Round (laidS st ca mp cf) := fun φ => by
  unfold bal
  rw [sumI_congr (g := fun _ => 0) (fun w hw => ?_), sumI_zero]
  have : w.goes = 0 := by rcases laid_mem hw with ⟨k, hk, rfl⟩ | ⟨t, k, ht, hk, _, rfl⟩ | ⟨t, ht, rfl⟩ <;> rfl
  rw [this, Int.mul_zero]
end Go.Proofs.Ws

namespace Go.Proofs.Ws
open Go Go.Fw Go.Gx Go.Sp
def lackP (st : List Strip) (ca : List Span) (w : Wy) (met : List Bool) : Lack :=
  if w.dst = 0 then ⟨true, filtL (fun t => !gI false met (7 + (t : Int))) ca.length⟩ else ⟨false, filtL (fun k => gI false met (1 + (k : Int))) st.length⟩
theorem filtL_step {p : Nat → Bool} {k : Nat} : filtL p (k + 1) = filtL p k ++ (if p k = true then [(k : Int)] else []) := by
  rw [filtL_succ]; split <;> simp
theorem jaI {st : List Strip} {ca : List Span} (h6 : st.length ≤ 6) (h5 : ca.length ≤ 5) (w : Wy) {met : List Bool} (hm : met.length = 12) : QB st ca w met = some (lackP st ca w met) := by
  unfold QB lackP
  by_cases hw : w.dst = 0
  · simp only [hw, if_true]
    have key := iterM_run (f := JE ca met) (fun j => ⟨(j : Int), filtL (fun t => !gI false met (7 + (t : Int))) j⟩) ca.length (b := filtL (fun t => !gI false met (7 + (t : Int))) ca.length) (fun j hj => ?_) ?_ FU (FU_lt (by omega))
    · have e : (⟨0, []⟩ : Jx) = ⟨((0 : Nat) : Int), filtL (fun t => !gI false met (7 + (t : Int))) 0⟩ := rfl
      rw [e, key]
      rfl
    · unfold JE
      have hlt : (j : Int) < (ca.length : Int) := by omega
      simp only [hlt, if_true]
      have hfl := filtL_len (p := fun t : Nat => !gI false met (7 + (t : Int))) (k := j)
      rw [addc_eq (by omega), Option.bind_some, ix_gI false (by omega) (by rw [hm]; omega), Option.bind_some, filtL_step]
      by_cases hb : (!gI false met (7 + (j : Int))) = true
      · simp only [hb, if_true]
        rw [appc_eq (by simp only [List.length_cons, List.length_nil]; omega), Option.bind_some, Option.bind_some, addc_eq (by omega), Option.bind_some]
        rfl
      · simp only [hb, Bool.false_eq_true, if_false]
        rw [Option.bind_some, addc_eq (by omega), Option.bind_some, List.append_nil]
        rfl
    · unfold JE
      simp
  · simp only [hw, if_false]
    have key := iterM_run (f := JJ st met) (fun j => ⟨(j : Int), filtL (fun k => gI false met (1 + (k : Int))) j⟩) st.length (b := filtL (fun k => gI false met (1 + (k : Int))) st.length) (fun j hj => ?_) ?_ FU (FU_lt (by omega))
    · have e : (⟨0, []⟩ : Jw) = ⟨((0 : Nat) : Int), filtL (fun k => gI false met (1 + (k : Int))) 0⟩ := rfl
      rw [e, key]
      rfl
    · unfold JJ
      have hlt : (j : Int) < (st.length : Int) := by omega
      simp only [hlt, if_true]
      have hfl := filtL_len (p := fun k : Nat => gI false met (1 + (k : Int))) (k := j)
      rw [addc_eq (by omega), Option.bind_some, ix_gI false (by omega) (by rw [hm]; omega), Option.bind_some, filtL_step]
      by_cases hb : gI false met (1 + (j : Int)) = true
      · simp only [hb, if_true]
        rw [appc_eq (by simp only [List.length_cons, List.length_nil]; omega), Option.bind_some, Option.bind_some, addc_eq (by omega), Option.bind_some]
        rfl
      · simp only [hb, Bool.false_eq_true, if_false]
        rw [Option.bind_some, addc_eq (by omega), Option.bind_some, List.append_nil]
        rfl
    · unfold JJ
      simp
structure Good (l0 l : List Wy) : Prop where
  same : Same l0 l
  ok : NetOK l
  rnd : Round l
structure Lk (l0 : List Wy) (w : Wy) (met : List Bool) : Prop where
  len : met.length = 12
  ex : ∃ l, Good l0 l ∧ w ∈ l ∧ w.goes < w.lo ∧ gI false met w.dst = true ∧ gI false met w.fr = false ∧ (∀ c, c ∈ res l → gI false met (eA l c) = true → gI false met (eB l c) = true)
theorem chainL_len {pre : Int → Change} {p : Int → Int} {y : Int} {k : Nat} : (chainL pre p y k).length = k := by simp [chainL]
theorem good_make {l0 l : List Wy} (h : Good l0 l) {L : List Change} {m : Int} (h0 : 0 ≤ m) (hm : MakeOK l L m) (hz : ∀ φ : Int → Int, sumI (fun c => φ (eB l c) - φ (eA l c)) L = 0) : Good l0 (makeL l L m) :=
  ⟨h.same.trans (makeL_same L hm), makeL_ok L h.ok h0 hm, fun φ => by rw [makeL_bal φ L hm, h.rnd φ, hz φ, Int.mul_zero]; rfl⟩
def OkTo (l : List Wy) (i : Nat) : Prop := ∀ j w, j < i → l[j]? = some w → w.lo ≤ w.goes
theorem okTo_make {l : List Wy} {i : Nat} (h : OkTo l i) {L : List Change} {m : Int} (h0 : 0 ≤ m) (hm : MakeOK l L m) : OkTo (makeL l L m) i := fun j v hj hv => by
  have hlt : j < l.length := by rw [← makeL_len L l m]; exact (List.getElem?_eq_some_iff.1 hv).1
  exact makeL_least L h0 hm j l[j] v (List.getElem?_eq_getElem hlt) hv (h j _ hj (List.getElem?_eq_getElem hlt))
theorem wy_makeL {l : List Wy} {L : List Change} {m : Int} (h : MakeOK l L m) {c : Change} (hc : c ∈ L) : wy (makeL l L m) c = adjW (wy l c) c.more m := by
  have := makeL_at L h c hc
  show (makeL l L m).getD c.way.toNat default = _
  rw [List.getD_eq_getElem?_getD, this]
  rfl
theorem jar {st : List Strip} {ca : List Span} (h6 : st.length ≤ 6) (h5 : ca.length ≤ 5) {l0 l : List Wy} (hg : Good l0 l) {i : Nat} (hi : i < l.length) (hok : OkTo l i) (s : qj) (hs : s.t20 = (i : Int)) :
    ∃ b, iterM FU (yb s st ca) l = some b ∧ ((∃ l', b = .inl l' ∧ Good l0 l' ∧ OkTo l' (i + 1)) ∨ ∃ w met, b = .inr (.inl (lackP st ca w met)) ∧ Lk l0 w met) := by
  have hgi : ∀ l : List Wy, (wy l ⟨(i : Int), true⟩) = l.getD i default := fun l => by unfold wy; simp
  refine iterM_inv (f := yb s st ca) (fun l => Good l0 l ∧ i < l.length ∧ OkTo l i) (fun l => ((wy l ⟨(i : Int), true⟩).lo - (wy l ⟨(i : Int), true⟩).goes).toNat) _ (fun l hl => ?_) FU l (FU_lt ?_) ⟨hg, hi, hok⟩
  · obtain ⟨hg, hi, hok⟩ := hl
    have hw : isWay l ⟨(i : Int), true⟩ := way_nat hi true
    have hix : ix l (i : Int) = some (wy l ⟨(i : Int), true⟩) := ix_way hw
    have hk := hg.ok.2 _ (wy_mem hw)
    unfold yb
    rw [hs, hix, Option.bind_some, Option.bind_some]
    by_cases hlow : (wy l ⟨(i : Int), true⟩).goes < (wy l ⟨(i : Int), true⟩).lo
    · simp only [hlow, if_true]
      rw [Option.bind_some]
      obtain ⟨met, by_, hml, hmsrc, hmcl, hcase⟩ := Z0 hg.ok (src := (wy l ⟨(i : Int), true⟩).dst) (to := (wy l ⟨(i : Int), true⟩).fr) hk.dst hk.fr
      rcases hcase with ⟨hno, hp⟩ | ⟨hyes, k, d, hp, hk1066, hsrc, hch, hd⟩
      · right
        rw [hp, Option.bind_some]
        simp only [List.isEmpty_nil, if_true]
        rw [jaI h6 h5 _ hml, Option.bind_some]
        exact ⟨_, rfl, .inr ⟨_, met, rfl, ⟨hml, l, hg, wy_mem hw, hlow, hmsrc, hno, hmcl⟩⟩⟩
      · left
        rw [hp, Option.bind_some]
        have hk0 : k ≠ 0 := fun e => by
          subst e
          exact hk.ne hsrc
        have hne : (chainL (gI nil0 by_) (pOf l by_) (wy l ⟨(i : Int), true⟩).fr k).isEmpty = false := by
          cases hc : chainL (gI nil0 by_) (pOf l by_) (wy l ⟨(i : Int), true⟩).fr k with
          | nil => have := chainL_len (pre := gI nil0 by_) (p := pOf l by_) (y := (wy l ⟨(i : Int), true⟩).fr) (k := k); rw [hc] at this; simp at this; omega
          | cons _ _ => rfl
        simp only [hne, Bool.false_eq_true, if_false]
        obtain ⟨m1, m2, m3, m4⟩ := path_make hg.ok hi hlow (pre := gI nil0 by_) (k := k) (d := d) hsrc hch hd ((wy l ⟨(i : Int), true⟩).lo - (wy l ⟨(i : Int), true⟩).goes) (by omega)
        have b1 := hk.goes; have b2 := hk.hi; have b3 := hk.lo
        rw [subc_eq (by omega), Option.bind_some, appc_eq (by rw [chainL_len]; simp only [List.length_cons, List.length_nil]; omega), Option.bind_some]
        have em := ZT hg.ok (L := chainL (gI nil0 by_) (pOf l by_) (wy l ⟨(i : Int), true⟩).fr k ++ [⟨(i : Int), true⟩]) (by rw [List.length_append, chainL_len]; simp only [List.length_cons, List.length_nil]; omega) (most := (wy l ⟨(i : Int), true⟩).lo - (wy l ⟨(i : Int), true⟩).goes) (Int.le_of_lt m1) m3
        rw [em, Option.bind_some]
        refine ⟨_, rfl, ⟨good_make hg (Int.le_of_lt m1) m3 m4, by rw [makeL_len]; exact hi, okTo_make hok (Int.le_of_lt m1) m3⟩, ?_⟩
        have e2 := wy_makeL m3 (c := ⟨(i : Int), true⟩) (by simp)
        change wy (makeL l (chainL (gI nil0 by_) (pOf l by_) (wy l ⟨(i : Int), true⟩).fr k ++ [⟨(i : Int), true⟩]) (mostL l (chainL (gI nil0 by_) (pOf l by_) (wy l ⟨(i : Int), true⟩).fr k ++ [⟨(i : Int), true⟩]) ((wy l ⟨(i : Int), true⟩).lo - (wy l ⟨(i : Int), true⟩).goes))) ⟨(i : Int), true⟩ = adjW (wy l ⟨(i : Int), true⟩) true (mostL l (chainL (gI nil0 by_) (pOf l by_) (wy l ⟨(i : Int), true⟩).fr k ++ [⟨(i : Int), true⟩]) ((wy l ⟨(i : Int), true⟩).lo - (wy l ⟨(i : Int), true⟩).goes)) at e2
        rw [e2]
        have m1' : 0 < mostL l (chainL (gI nil0 by_) (pOf l by_) (wy l ⟨(i : Int), true⟩).fr k ++ [⟨(i : Int), true⟩]) ((wy l ⟨(i : Int), true⟩).lo - (wy l ⟨(i : Int), true⟩).goes) := m1
        simp only [adjW, if_true]
        omega
    · right
      simp only [hlow, if_false]
      refine ⟨_, rfl, .inl ⟨l, rfl, hg, fun j w hj hjw => ?_⟩⟩
      by_cases hji : j = i
      · subst hji
        have : wy l ⟨(j : Int), true⟩ = w := by rw [hgi, List.getD_eq_getElem?_getD, hjw]; rfl
        rw [← this]; omega
      · exact hok j w (by omega) hjw
  · have hk := hg.ok.2 _ (wy_mem (way_nat hi true))
    have := hk.hi; have := hk.goes
    omega
theorem ZM {l0 l : List Wy} (hg : Good l0 l) (hok : OkTo l l.length) : ∃ l', iterM FU qZ l = some l' ∧ Good l0 l' ∧ OkTo l' l'.length ∧ ∃ π : Int → Int, PotB π l' := by
  have hbound : ∀ l : List Wy, NetOK l → -41000000 ≤ costs l ∧ costs l ≤ 41000000 := fun l hl => by
    have key : ∀ m : List Wy, (∀ w, w ∈ m → WyOK w) → -(1000000 * (m.length : Int)) ≤ costs m ∧ costs m ≤ 1000000 * (m.length : Int) := by
      intro m
      induction m with
      | nil => intro _; simp [costs, sumI]
      | cons w m ih =>
        intro h
        obtain ⟨i1, i2⟩ := ih (fun x hx => h x (by simp [hx]))
        have hk := h w (by simp)
        have c1 := hk.cost; have c2 := hk.goes; have c3 := hk.hi
        unfold costs at *
        simp only [sumI, List.length_cons]
        have hp : -1000000 ≤ w.cost * w.goes ∧ w.cost * w.goes ≤ 1000000 := by
          have : w.cost = -1 ∨ w.cost = 0 ∨ w.cost = 1 := by omega
          rcases this with h | h | h <;> rw [h] <;> omega
        push_cast
        omega
    have := key l hl.2
    have := hl.1
    omega
  refine iterM_inv (f := qZ) (fun l => Good l0 l ∧ OkTo l l.length) (fun l => (costs l + 41000000).toNat) _ (fun l hl => ?_) FU l (FU_lt (by have := hbound l hg.ok; omega)) ⟨hg, hok⟩
  obtain ⟨hg, hok⟩ := hl
  unfold qZ
  rcases YZ hg.ok with ⟨h1, π, h2⟩ | ⟨pre, y, k, h1, hk0, hk12, hch, hper, hmin, hneg⟩
  · right
    rw [h1, Option.bind_some]
    exact ⟨l, rfl, hg, hok, π, h2⟩
  · left
    rw [h1, Option.bind_some]
    have hne : (chainL pre (fun x => eA l (pre x)) y k).isEmpty = false := by
      cases hc : chainL pre (fun x => eA l (pre x)) y k with
      | nil => have := chainL_len (pre := pre) (p := fun x => eA l (pre x)) (y := y) (k := k); rw [hc] at this; simp at this; omega
      | cons _ _ => rfl
    simp only [hne, Bool.false_eq_true, if_false]
    obtain ⟨m1, m2, m3, m4, m5⟩ := loop_make hk0 hch hper hmin hneg 1000000 (by omega)
    have em := ZT hg.ok (L := chainL pre (fun x => eA l (pre x)) y k) (by rw [chainL_len]; omega) (most := 1000000) (Int.le_of_lt m1) m3
    rw [em, Option.bind_some]
    have hg' := good_make hg (Int.le_of_lt m1) m3 m4
    refine ⟨_, rfl, ⟨hg', by rw [makeL_len]; exact okTo_make hok (Int.le_of_lt m1) m3⟩, ?_⟩
    have hc := makeL_costs _ m3
    have b1 := hbound l hg.ok; have b2 := hbound _ hg'.ok
    have hprod : mostL l (chainL pre (fun x => eA l (pre x)) y k) 1000000 * sumI (fun c => eC l c) (chainL pre (fun x => eA l (pre x)) y k) < 0 := Int.mul_neg_of_pos_of_neg m1 m5
    rw [hc] at b2 ⊢
    omega
theorem okTo_within {l : List Wy} (hl : NetOK l) (h : OkTo l l.length) : Within l := fun w hw => by
  obtain ⟨i, hi, rfl⟩ := List.getElem_of_mem hw
  exact ⟨h i _ hi (List.getElem?_eq_getElem hi), (hl.2 _ hw).goes.2⟩
theorem Zo {st : List Strip} {ca : List Span} (hS : NetS st ca) {mp : List (Pair × Bool)} {cf : Pair → Option Int} (hc : CfOK st ca cf) :
    (∃ l, j5 st ca mp cf = some (.inr ⟨⟨false, []⟩, l⟩) ∧ Good (laidS st ca mp cf) l ∧ Within l ∧ ∃ π : Int → Int, PotB π l) ∨
    (∃ w met, j5 st ca mp cf = some (.inl (lackP st ca w met)) ∧ Lk (laidS st ca mp cf) w met) := by
  unfold j5
  rw [jaK hS hc, Option.bind_some]
  have hl0 := laid_ok hS (mp := mp) hc
  have hg0 : Good (laidS st ca mp cf) (laidS st ca mp cf) := ⟨Same.refl _, hl0, laid_zero⟩
  generalize laidS st ca mp cf = l0 at hl0 hg0
  have hlen0 := hl0.1
  have hloop : ∃ b, iterM FU (q6 l0 st ca) ⟨0, l0⟩ = some b ∧ ((∃ l', b = .inl l' ∧ Good l0 l' ∧ OkTo l' l'.length) ∨ ∃ w met, b = .inr (.inl (lackP st ca w met)) ∧ Lk l0 w met) := by
    refine iterM_inv (f := q6 l0 st ca) (fun s => ∃ i : Nat, s.t20 = (i : Int) ∧ i ≤ l0.length ∧ Good l0 s.t12 ∧ OkTo s.t12 i) (fun s => l0.length - s.t20.toNat) _ (fun s hs => ?_) FU _ (FU_lt (by omega)) ⟨0, rfl, Nat.zero_le _, hg0, fun j w hj _ => by omega⟩
    obtain ⟨i, hi, hile, hg, hok⟩ := hs
    have hlen := hg.same.len
    unfold q6
    by_cases hlt : s.t20 < (l0.length : Int)
    · simp only [hlt, if_true]
      obtain ⟨b, hb, hcase⟩ := jar hS.s6 hS.c5 hg (i := i) (by omega) hok s hi
      rw [hb, Option.bind_some]
      rcases hcase with ⟨l', rfl, hg', hok'⟩ | ⟨w, met, rfl, hlk⟩
      · left
        simp only [oc_inl]
        rw [addc_eq (by omega), Option.bind_some]
        exact ⟨_, rfl, ⟨i + 1, by simp only; omega, by omega, hg', hok'⟩, by simp only; omega⟩
      · right
        exact ⟨_, rfl, .inr ⟨w, met, rfl, hlk⟩⟩
    · right
      simp only [hlt, if_false]
      refine ⟨_, rfl, .inl ⟨s.t12, rfl, hg, ?_⟩⟩
      have : i = s.t12.length := by omega
      rw [← this]; exact hok
  obtain ⟨b, hb, hcase⟩ := hloop
  rw [hb, Option.bind_some]
  rcases hcase with ⟨l, rfl, hg, hok⟩ | ⟨w, met, rfl, hlk⟩
  · left
    simp only [oc_inl]
    obtain ⟨l', h1, h2, h3, h4⟩ := ZM hg hok
    rw [h1, Option.bind_some]
    exact ⟨l', rfl, h2, okTo_within h2.ok h3, h4⟩
  · right
    exact ⟨w, met, rfl, hlk⟩
end Go.Proofs.Ws

namespace Go.Proofs.Ws
open Go Go.Fw Go.Gx Go.Sp
theorem sumTo_add (f g : Nat → Int) : ∀ k, sumTo (fun j => f j + g j) k = sumTo f k + sumTo g k
  | 0 => rfl
  | k + 1 => by simp only [sumTo]; rw [sumTo_add f g k]; omega
theorem sumTo_mul (c : Int) (f : Nat → Int) : ∀ k, sumTo (fun j => c * f j) k = c * sumTo f k
  | 0 => by simp [sumTo]
  | k + 1 => by simp only [sumTo]; rw [sumTo_mul c f k, Int.mul_add]
theorem sumTo_zero : ∀ k, sumTo (fun _ => 0) k = 0
  | 0 => rfl
  | k + 1 => by simp only [sumTo]; rw [sumTo_zero k]; rfl
theorem sumTo_comm (f : Nat → Nat → Int) : ∀ (m n : Nat), sumTo (fun i => sumTo (f i) n) m = sumTo (fun j => sumTo (fun i => f i j) m) n
  | 0, n => by simp only [sumTo]; rw [sumTo_zero]
  | m + 1, n => by simp only [sumTo]; rw [sumTo_comm f m n, sumTo_add]
theorem sumTo_one {f : Nat → Int} {k0 : Nat} : ∀ {n : Nat}, k0 < n → sumTo (fun k => if k = k0 then f k else 0) n = f k0
  | 0, h => by omega
  | n + 1, h => by
    simp only [sumTo]
    by_cases hk : k0 = n
    · subst hk
      rw [sumTo_congr (g := fun _ => 0) (fun j hj => by rw [if_neg (by omega)]), sumTo_zero]
      simp
    · rw [sumTo_one (n := n) (by omega), if_neg (by omega)]; omega
theorem sumTo_nonneg {f : Nat → Int} {n : Nat} (h : ∀ j, j < n → 0 ≤ f j) : 0 ≤ sumTo f n := by
  have := sumTo_le (f := fun _ => 0) (g := f) (k := n) h
  rwa [sumTo_zero] at this
theorem sumTo_mem_le {f : Nat → Int} : ∀ {n j : Nat}, (∀ j, j < n → 0 ≤ f j) → j < n → f j ≤ sumTo f n
  | 0, j, _, hj => by omega
  | n + 1, j, h, hj => by
    simp only [sumTo]
    by_cases hjn : j = n
    · subst hjn
      have := sumTo_nonneg (f := f) (n := j) (fun i hi => h i (by omega)); omega
    · have := sumTo_mem_le (f := f) (n := n) (j := j) (fun i hi => h i (by omega)) (by omega)
      have := h n (by omega); omega
theorem sumI_filter (p : Nat → Bool) (F : Nat → Int) : ∀ n, sumI F ((List.range n).filter p) = sumTo (fun k => if p k = true then F k else 0) n
  | 0 => rfl
  | n + 1 => by
    rw [List.range_succ, List.filter_append, sumI_append, sumI_filter p F n]
    simp only [sumTo, List.filter_cons, List.filter_nil]
    split <;> simp [sumI]
def laidG (S : Nat) (g h : Nat → Span) (R : Nat → Nat → Bool) (c : Nat → Nat → Int) (gs : Nat → Int) (ys : Nat → Nat → Int) (zs : Nat → Int) (T : Nat) : List Wy :=
  (List.range S).map (fun k => { stripW g k with goes := gs k }) ++ (List.range T).flatMap fun t => ((List.range S).filter (R t)).map (fun k => { innerW c t k with goes := ys t k }) ++ [{ tenW h t with goes := zs t }]
theorem same_split {a b l : List Wy} (h : Same (a ++ b) l) : ∃ la lb, l = la ++ lb ∧ Same a la ∧ Same b lb := by
  unfold Same at h
  rw [List.map_append] at h
  obtain ⟨la, lb, h1, h2, h3⟩ := List.map_eq_append_iff.1 h.symm
  exact ⟨la, lb, h1, h2.symm, h3.symm⟩
theorem same_map {f : Nat → Wy} : ∀ {L : List Nat}, L.Nodup → ∀ {l : List Wy}, Same (L.map f) l → ∃ gs : Nat → Int, l = L.map fun k => { f k with goes := gs k }
  | [], _, l, h => ⟨fun _ => 0, List.length_eq_zero_iff.1 (by have := h.len; simpa using this.symm)⟩
  | k :: L, hn, [], h => by have := h.len; simp at this
  | k :: L, hn, w :: l, h => by
    obtain ⟨h1, h2⟩ := h.cons
    obtain ⟨n1, n2⟩ := List.nodup_cons.1 hn
    obtain ⟨gs, hgs⟩ := same_map n2 h2
    refine ⟨fun x => if x = k then w.goes else gs x, ?_⟩
    simp only [List.map_cons, if_true]
    congr 1
    · obtain ⟨e1, e2, e3, e4, e5⟩ := base_eq h1
      cases w; simp_all
    · rw [hgs]
      refine List.map_congr_left fun x hx => ?_
      rw [if_neg (show ¬ x = k from fun e => n1 (by rw [← e]; exact hx))]
theorem range_nodup (n : Nat) : (List.range n).Nodup := List.nodup_range
theorem same_laid {S T : Nat} {g h : Nat → Span} {R : Nat → Nat → Bool} {c : Nat → Nat → Int} {l : List Wy} (hs : Same (laidTo S g h R c T) l) : ∃ gs ys zs, l = laidG S g h R c gs ys zs T := by
  obtain ⟨la, lb, rfl, h1, h2⟩ := same_split hs
  obtain ⟨gs, rfl⟩ := same_map (range_nodup S) h1
  have key : ∀ T, ∀ lb, Same ((List.range T).flatMap (tenL S h R c)) lb → ∃ (ys : Nat → Nat → Int) (zs : Nat → Int), lb = (List.range T).flatMap fun t => ((List.range S).filter (R t)).map (fun k => { innerW c t k with goes := ys t k }) ++ [{ tenW h t with goes := zs t }] := by
    intro T
    induction T with
    | zero => intro lb h; exact ⟨fun _ _ => 0, fun _ => 0, List.length_eq_zero_iff.1 (by have := h.len; simpa using this.symm)⟩
    | succ T ih =>
      intro lb hlb
      rw [List.range_succ, List.flatMap_append] at hlb
      obtain ⟨l1, l2, rfl, g1, g2⟩ := same_split hlb
      obtain ⟨ys, zs, rfl⟩ := ih l1 g1
      simp only [List.flatMap_cons, List.flatMap_nil, List.append_nil] at g2
      unfold tenL at g2
      obtain ⟨l3, l4, rfl, g3, g4⟩ := same_split g2
      obtain ⟨y, rfl⟩ := same_map ((range_nodup S).filter _) g3
      have e4 : [tenW h T] = ([T] : List Nat).map (tenW h) := rfl
      rw [e4] at g4
      obtain ⟨z, rfl⟩ := same_map (show ([T] : List Nat).Nodup by simp) g4
      refine ⟨fun t => if t = T then y else ys t, fun t => if t = T then z T else zs t, ?_⟩
      rw [List.range_succ, List.flatMap_append]
      congr 1
      · rw [List.flatMap_def, List.flatMap_def]
        congr 1
        refine List.map_congr_left fun t ht => ?_
        have : t ≠ T := by have := List.mem_range.1 ht; omega
        simp only [this, if_false]
      · simp
  obtain ⟨ys, zs, rfl⟩ := key T lb h2
  exact ⟨gs, ys, zs, rfl⟩
theorem laidG_same {S T : Nat} {g h : Nat → Span} {R : Nat → Nat → Bool} {c : Nat → Nat → Int} {gs : Nat → Int} {ys : Nat → Nat → Int} {zs : Nat → Int} : Same (laidTo S g h R c T) (laidG S g h R c gs ys zs T) := by
  unfold Same laidTo laidG tenL
  rw [List.map_append, List.map_append, List.map_flatMap, List.map_flatMap]
  congr 1
  · rw [List.map_map, List.map_map]; rfl
  · rw [List.flatMap_def, List.flatMap_def]
    congr 1
    refine List.map_congr_left fun t _ => ?_
    rw [List.map_append, List.map_append, List.map_map, List.map_map]
    rfl
theorem sumI_flat {α : Type} (F : α → Int) (f : Nat → List α) : ∀ n, sumI F ((List.range n).flatMap f) = sumTo (fun t => sumI F (f t)) n
  | 0 => rfl
  | n + 1 => by
    rw [List.range_succ, List.flatMap_append, sumI_append, sumI_flat F f n]
    simp [sumTo, sumI]
def Yr (R : Nat → Nat → Bool) (ys : Nat → Nat → Int) (t k : Nat) : Int := if R t k = true then ys t k else 0
theorem bal_laidG {S T : Nat} {g h : Nat → Span} {R : Nat → Nat → Bool} {c : Nat → Nat → Int} {gs : Nat → Int} {ys : Nat → Nat → Int} {zs : Nat → Int} (φ : Int → Int) :
    bal φ (laidG S g h R c gs ys zs T) = sumTo (fun k => (φ (1 + (k : Int)) - φ 0) * gs k) S + sumTo (fun t => sumTo (fun k => (φ (7 + (t : Int)) - φ (1 + (k : Int))) * Yr R ys t k) S + (φ 0 - φ (7 + (t : Int))) * zs t) T := by
  unfold bal laidG
  rw [sumI_append, sumI_map, sumI_flat]
  congr 1
  · have := sumI_range (fun k : Nat => (φ (1 + (k : Int)) - φ 0) * gs k) (fun k => k) S
    simp only [List.map_id'] at this
    exact this
  · refine sumTo_congr fun t _ => ?_
    rw [sumI_append, sumI_map, sumI_filter]
    congr 1
    · refine sumTo_congr fun k _ => ?_
      unfold Yr
      split
      · rfl
      · rw [Int.mul_zero]
    · simp [sumI, tenW]
theorem costs_laidG {S T : Nat} {g h : Nat → Span} {R : Nat → Nat → Bool} {c : Nat → Nat → Int} {gs : Nat → Int} {ys : Nat → Nat → Int} {zs : Nat → Int} :
    costs (laidG S g h R c gs ys zs T) = sumTo (fun t => sumTo (fun k => c t k * Yr R ys t k) S) T := by
  unfold costs laidG
  rw [sumI_append, sumI_map, sumI_flat]
  have e : sumI (fun x : Nat => ({ stripW g x with goes := gs x } : Wy).cost * ({ stripW g x with goes := gs x } : Wy).goes) (List.range S) = 0 := by
    rw [sumI_congr (g := fun _ => 0) (fun x _ => by simp [stripW]), sumI_zero]
  rw [e, Int.zero_add]
  refine sumTo_congr fun t _ => ?_
  rw [sumI_append, sumI_map, sumI_filter]
  have e2 : sumI (fun w : Wy => w.cost * w.goes) [{ tenW h t with goes := zs t }] = 0 := by simp [sumI, tenW]
  rw [e2, Int.add_zero]
  refine sumTo_congr fun k _ => ?_
  unfold Yr
  split
  · rfl
  · rw [Int.mul_zero]
theorem round_sums {S T : Nat} (hS : S ≤ 6) {g h : Nat → Span} {R : Nat → Nat → Bool} {c : Nat → Nat → Int} {gs : Nat → Int} {ys : Nat → Nat → Int} {zs : Nat → Int} (hr : Round (laidG S g h R c gs ys zs T)) :
    (∀ k, k < S → gs k = sumTo (fun t => Yr R ys t k) T) ∧ (∀ t, t < T → zs t = sumTo (fun k => Yr R ys t k) S) := by
  constructor
  · intro k0 hk0
    have := hr (fun v => if v = 1 + (k0 : Int) then 1 else 0)
    rw [bal_laidG] at this
    have e1 : sumTo (fun k => ((if (1 + (k : Int)) = 1 + (k0 : Int) then (1 : Int) else 0) - (if (0 : Int) = 1 + (k0 : Int) then 1 else 0)) * gs k) S = gs k0 := by
      rw [← sumTo_one (f := gs) hk0]
      refine sumTo_congr fun k _ => ?_
      rw [if_neg (show ¬ (0 : Int) = 1 + (k0 : Int) by omega)]
      by_cases hk : k = k0
      · subst hk; simp
      · rw [if_neg (by omega), if_neg hk]; simp
    have e2 : sumTo (fun t => sumTo (fun k => ((if (7 + (t : Int)) = 1 + (k0 : Int) then (1 : Int) else 0) - (if (1 + (k : Int)) = 1 + (k0 : Int) then 1 else 0)) * Yr R ys t k) S + ((if (0 : Int) = 1 + (k0 : Int) then (1 : Int) else 0) - (if (7 + (t : Int)) = 1 + (k0 : Int) then 1 else 0)) * zs t) T = - sumTo (fun t => Yr R ys t k0) T := by
      rw [← Int.neg_one_mul, ← sumTo_mul]
      refine sumTo_congr fun t _ => ?_
      rw [if_neg (show ¬ (7 + (t : Int)) = 1 + (k0 : Int) by omega), if_neg (show ¬ (0 : Int) = 1 + (k0 : Int) by omega)]
      have : sumTo (fun k => ((0 : Int) - (if (1 + (k : Int)) = 1 + (k0 : Int) then 1 else 0)) * Yr R ys t k) S = -1 * Yr R ys t k0 := by
        rw [← sumTo_one (f := fun k => -1 * Yr R ys t k) hk0]
        refine sumTo_congr fun k _ => ?_
        by_cases hk : k = k0
        · subst hk; simp
        · rw [if_neg (by omega), if_neg hk]; simp
      rw [this]; omega
    rw [e1, e2] at this
    omega
  · intro t0 ht0
    have := hr (fun v => if v = 7 + (t0 : Int) then 1 else 0)
    rw [bal_laidG] at this
    have e1 : sumTo (fun k => ((if (1 + (k : Int)) = 7 + (t0 : Int) then (1 : Int) else 0) - (if (0 : Int) = 7 + (t0 : Int) then 1 else 0)) * gs k) S = 0 := by
      rw [sumTo_congr (g := fun _ => 0) (fun k hk => by rw [if_neg (show ¬ (1 + (k : Int)) = 7 + (t0 : Int) by omega), if_neg (show ¬ (0 : Int) = 7 + (t0 : Int) by omega)]; simp), sumTo_zero]
    have e2 : sumTo (fun t => sumTo (fun k => ((if (7 + (t : Int)) = 7 + (t0 : Int) then (1 : Int) else 0) - (if (1 + (k : Int)) = 7 + (t0 : Int) then 1 else 0)) * Yr R ys t k) S + ((if (0 : Int) = 7 + (t0 : Int) then (1 : Int) else 0) - (if (7 + (t : Int)) = 7 + (t0 : Int) then 1 else 0)) * zs t) T = sumTo (fun k => Yr R ys t0 k) S - zs t0 := by
      rw [← sumTo_one (f := fun t => sumTo (fun k => Yr R ys t k) S - zs t) ht0]
      refine sumTo_congr fun t _ => ?_
      rw [if_neg (show ¬ (0 : Int) = 7 + (t0 : Int) by omega)]
      by_cases ht : t = t0
      · subst ht
        simp only [if_true]
        rw [sumTo_congr (g := fun k => Yr R ys t k) (fun k hk => by rw [if_neg (show ¬ (1 + (k : Int)) = 7 + (t : Int) by omega)]; omega)]
        omega
      · rw [if_neg (show ¬ (7 + (t : Int)) = 7 + (t0 : Int) by omega), if_neg ht, sumTo_congr (g := fun _ => 0) (fun k hk => by rw [if_neg (show ¬ (1 + (k : Int)) = 7 + (t0 : Int) by omega)]; simp), sumTo_zero]
        simp
    rw [e1, e2] at this
    omega
theorem sums_round {S T : Nat} {g h : Nat → Span} {R : Nat → Nat → Bool} {c : Nat → Nat → Int} {gs : Nat → Int} {ys : Nat → Nat → Int} {zs : Nat → Int} (h1 : ∀ k, k < S → gs k = sumTo (fun t => Yr R ys t k) T) (h2 : ∀ t, t < T → zs t = sumTo (fun k => Yr R ys t k) S) : Round (laidG S g h R c gs ys zs T) := fun φ => by
  rw [bal_laidG]
  have e1 : sumTo (fun k => (φ (1 + (k : Int)) - φ 0) * gs k) S = sumTo (fun t => sumTo (fun k => (φ (1 + (k : Int)) - φ 0) * Yr R ys t k) S) T := by
    rw [sumTo_comm]
    refine sumTo_congr fun k hk => ?_
    rw [h1 k hk, sumTo_mul]
  rw [e1, ← sumTo_add]
  refine (sumTo_congr (g := fun _ => 0) fun t ht => ?_).trans (sumTo_zero T)
  rw [h2 t ht, ← sumTo_mul, ← sumTo_add, ← sumTo_add]
  refine (sumTo_congr (g := fun _ => 0) fun k hk => ?_).trans (sumTo_zero _)
  rw [← Int.add_mul, ← Int.add_mul]
  rw [show φ (1 + (k : Int)) - φ 0 + (φ (7 + (t : Int)) - φ (1 + (k : Int)) + (φ 0 - φ (7 + (t : Int)))) = 0 by omega, Int.zero_mul]
structure FitsY (st : List Strip) (ca : List Span) (mp : List (Pair × Bool)) (y : Nat → Nat → Int) : Prop where
  pos : ∀ t k, t < ca.length → k < st.length → 0 ≤ y t k ∧ (0 < y t k → rOf mp t k = true)
  ten : ∀ t, t < ca.length → (hOf ca t).lo ≤ sumTo (fun k => y t k) st.length ∧ sumTo (fun k => y t k) st.length ≤ (hOf ca t).hi
  str : ∀ k, k < st.length → (gOf st k).lo ≤ sumTo (fun t => y t k) ca.length ∧ sumTo (fun t => y t k) ca.length ≤ (gOf st k).hi
def countY (st : List Strip) (ca : List Span) (c y : Nat → Nat → Int) : Int := sumTo (fun t => sumTo (fun k => c t k * y t k) st.length) ca.length
theorem net_shares {st : List Strip} {ca : List Span} (hS : NetS st ca) {mp : List (Pair × Bool)} {cf : Pair → Option Int} {l : List Wy} (hg : Good (laidS st ca mp cf) l) (hw : Within l) :
    ∃ gs ys zs, l = laidG st.length (gOf st) (hOf ca) (rOf mp) (cOf cf) gs ys zs ca.length ∧ FitsY st ca mp (Yr (rOf mp) ys) ∧ costs l = countY st ca (cOf cf) (Yr (rOf mp) ys) := by
  obtain ⟨gs, ys, zs, rfl⟩ := same_laid hg.same
  refine ⟨gs, ys, zs, rfl, ?_, costs_laidG⟩
  obtain ⟨h1, h2⟩ := round_sums hS.s6 hg.rnd
  refine ⟨fun t k ht hk => ?_, fun t ht => ?_, fun k hk => ?_⟩
  · unfold Yr
    split
    · rename_i hr
      have hm : ({ innerW (cOf cf) t k with goes := ys t k } : Wy) ∈ laidG st.length (gOf st) (hOf ca) (rOf mp) (cOf cf) gs ys zs ca.length := by
        unfold laidG
        refine List.mem_append_right _ (List.mem_flatMap.2 ⟨t, List.mem_range.2 ht, List.mem_append_left _ (List.mem_map.2 ⟨k, List.mem_filter.2 ⟨List.mem_range.2 hk, hr⟩, rfl⟩)⟩)
      have := (hw _ hm).1
      exact ⟨this, fun _ => hr⟩
    · exact ⟨Int.le_refl _, fun h => absurd h (Int.lt_irrefl _)⟩
  · rw [← h2 t ht]
    have hm : ({ tenW (hOf ca) t with goes := zs t } : Wy) ∈ laidG st.length (gOf st) (hOf ca) (rOf mp) (cOf cf) gs ys zs ca.length := by
      unfold laidG
      exact List.mem_append_right _ (List.mem_flatMap.2 ⟨t, List.mem_range.2 ht, List.mem_append_right _ (by simp)⟩)
    exact hw _ hm
  · rw [← h1 k hk]
    have hm : ({ stripW (gOf st) k with goes := gs k } : Wy) ∈ laidG st.length (gOf st) (hOf ca) (rOf mp) (cOf cf) gs ys zs ca.length := by
      unfold laidG
      exact List.mem_append_left _ (List.mem_map.2 ⟨k, List.mem_range.2 hk, rfl⟩)
    exact hw _ hm
theorem shares_net {st : List Strip} {ca : List Span} (hS : NetS st ca) {mp : List (Pair × Bool)} {cf : Pair → Option Int} {y : Nat → Nat → Int} (hy : FitsY st ca mp y) :
    ∃ l, Same (laidS st ca mp cf) l ∧ Round l ∧ Within l ∧ costs l = countY st ca (cOf cf) y := by
  have hYr : ∀ t k, t < ca.length → k < st.length → Yr (rOf mp) y t k = y t k := fun t k ht hk => by
    unfold Yr
    split
    · rfl
    · rename_i hr
      have := hy.pos t k ht hk
      by_cases h0 : 0 < y t k
      · exact absurd (this.2 h0) hr
      · omega
  refine ⟨laidG st.length (gOf st) (hOf ca) (rOf mp) (cOf cf) (fun k => sumTo (fun t => y t k) ca.length) y (fun t => sumTo (fun k => y t k) st.length) ca.length, laidG_same, ?_, fun w hw => ?_, ?_⟩
  · exact sums_round (fun k hk => sumTo_congr fun t ht => (hYr t k ht hk).symm) (fun t ht => sumTo_congr fun k hk => (hYr t k ht hk).symm)
  · unfold laidG at hw
    rcases List.mem_append.1 hw with hw | hw
    · obtain ⟨k, hk, rfl⟩ := List.mem_map.1 hw
      exact hy.str k (by simpa using hk)
    · obtain ⟨t, ht, hw⟩ := List.mem_flatMap.1 hw
      have ht' : t < ca.length := by simpa using ht
      rcases List.mem_append.1 hw with hw | hw
      · obtain ⟨k, hk, rfl⟩ := List.mem_map.1 hw
        have hk' : k < st.length := by have := (List.mem_filter.1 hk).1; simpa using this
        have h1 := hy.pos t k ht' hk'
        have h2 := hy.ten t ht'
        have h3 := hOf_ok hS ht'
        have h4 := sumTo_mem_le (f := fun k => y t k) (n := st.length) (j := k) (fun j hj => (hy.pos t j ht' hj).1) hk'
        refine ⟨h1.1, ?_⟩
        show y t k ≤ 1000000
        omega
      · rw [List.mem_singleton] at hw
        subst hw
        exact hy.ten t ht'
  · rw [costs_laidG]
    unfold countY
    refine sumTo_congr fun t ht => sumTo_congr fun k hk => ?_
    rw [hYr t k ht hk]
theorem net_least {st : List Strip} {ca : List Span} (hS : NetS st ca) {mp : List (Pair × Bool)} {cf : Pair → Option Int} {l : List Wy} (hg : Good (laidS st ca mp cf) l) {π : Int → Int} (hp : Pot π l) {y : Nat → Nat → Int} (hy : FitsY st ca mp y) : costs l ≤ countY st ca (cOf cf) y := by
  obtain ⟨l', h1, h2, h3, h4⟩ := shares_net hS (cf := cf) hy
  rw [← h4]
  exact Pot.least (hg.same.symm.trans h1) hp hg.rnd h3 h2
theorem lk_cut {l0 : List Wy} {w : Wy} {met : List Bool} (h : Lk l0 w met) : 0 < gap (gI false met) l0 := by
  obtain ⟨l, hg, hw, hlow, hd, hf, hcl⟩ := h.ex
  have hcut : Cut (gI false met) l := fun v hv => by
    obtain ⟨i, hi, rfl⟩ := List.getElem_of_mem hv
    have e : ∀ m, wy l ⟨(i : Int), m⟩ = l[i] := fun m => by unfold wy; simp [List.getD_eq_getElem?_getD, hi]
    refine ⟨fun h1 h2 => ?_, fun h1 h2 => ?_⟩
    · by_cases hlt : (l[i]).hi ≤ (l[i]).goes
      · exact hlt
      · have := hcl ⟨(i : Int), true⟩ (res_mem.2 ⟨way_nat hi true, by simp only [rm, if_true, e]; omega⟩) (by simpa [eA, e] using h1)
        simp only [eB, if_true, e] at this
        rw [h2] at this; cases this
    · by_cases hlt : (l[i]).goes ≤ (l[i]).lo
      · exact hlt
      · have := hcl ⟨(i : Int), false⟩ (res_mem.2 ⟨way_nat hi false, by simp only [rm, Bool.false_eq_true, if_false, e]; omega⟩) (by simpa [eA, e] using h2)
        simp only [eB, Bool.false_eq_true, if_false, e] at this
        rw [h1] at this; cases this
  have := hcut.gap hg.rnd hw hf hd hlow
  rwa [← gap_same hg.same] at this
theorem lk_none {st : List Strip} {ca : List Span} (hS : NetS st ca) {mp : List (Pair × Bool)} {cf : Pair → Option Int} {w : Wy} {met : List Bool} (h : Lk (laidS st ca mp cf) w met) {y : Nat → Nat → Int} (hy : FitsY st ca mp y) : False := by
  obtain ⟨l', h1, h2, h3, _⟩ := shares_net hS (cf := cf) hy
  have := lk_cut h
  rw [gap_same h1] at this
  have := gap_le (S := gI false met) h2 h3
  omega
end Go.Proofs.Ws

namespace Go.Gx
open Go
theorem any_loop {α : Type} (l : List α) (d : α) (p : α → Option Bool) (hp : α → Bool) (hl : l.length < 1000000000000) (h : ∀ x, x ∈ l → p x = some (hp x)) {f : Int → Option (Int ⊕ (Unit ⊕ Int))}
    (hf : ∀ s, f s = if s < (l.length : Int) then ((ix l s).bind fun x => (p x).bind fun b => if b = true then (some (.inr (.inr s))) else ((addc s 1).bind fun k => some (.inl k))) else some (.inr (.inl ()))) :
    (((iterM FU f 0).bind fun o => oc o (fun _ => (some (-1) : Option Int)) (fun r => some r)).bind fun t => some (decide (0 ≤ t))) = some (l.any hp) := by
  refine contains_loop (f := f) l d hp hl (fun k hk => ?_) ?_
  · rw [hf, if_pos (by omega), ix_nat d hk, Option.bind_some, h _ (by simp [List.getD_eq_getElem?_getD, hk]), Option.bind_some, addc_eq (by omega), Option.bind_some]
    split <;> rfl
  · rw [hf, if_neg (by omega)]
end Go.Gx
namespace Go.Proofs.Ws
open Go Go.Fw Go.Gx Go.Sp
def inb (n lo hi : Int) : Bool := decide (lo ≤ n) && decide (n ≤ hi)
theorem QX (n lo hi : Int) : Qy n lo hi = some (inb n lo hi) := by
  unfold Qy inb
  by_cases h : lo ≤ n
  · simp [h]
  · simp [h]
theorem inb_iff {n lo hi : Int} : inb n lo hi = true ↔ lo ≤ n ∧ n ≤ hi := by simp [inb]
def okSp (x : Span) : Bool := inb x.lo 0 30 && inb x.hi 0 30
theorem okSp_iff {x : Span} : okSp x = true ↔ In30 x := by
  unfold okSp In30
  rw [Bool.and_eq_true, inb_iff, inb_iff]
  constructor
  · rintro ⟨⟨a, b⟩, c, d⟩; exact ⟨a, b, c, d⟩
  · rintro ⟨a, b, c, d⟩; exact ⟨⟨a, b⟩, c, d⟩
theorem Yv (x : Span) : Jk x = some (okSp x) := by
  unfold Jk okSp
  rw [QX, Option.bind_some]
  by_cases h : inb x.lo 0 30 = true
  · rw [if_pos h, QX, h]; rfl
  · rw [if_neg h]
    have : inb x.lo 0 30 = false := by simpa using h
    rw [this]; rfl
def spansOf (s : Scalps) : List Span := s.carried ++ s.strips.flatMap fun x => [x.lay, x.seeded, x.left]
theorem flat3_len {l : List Strip} : (l.flatMap fun x => [x.lay, x.seeded, x.left]).length = 3 * l.length := by
  induction l with
  | nil => rfl
  | cons x l ih => rw [List.flatMap_cons, List.length_append, ih]; simp; omega
theorem jam {s : Scalps} (h6 : s.strips.length ≤ 6) (h1 : 1 ≤ s.carried.length) (h5 : s.carried.length ≤ 5) : ql s = some (spansOf s) := by
  unfold ql J1
  rw [if_pos (by omega), appc_eq (by simp; omega), Option.bind_some, Option.bind_some]
  have key := iterM_run (f := kX s) (fun j => ⟨(j : Int), s.carried ++ (s.strips.take j).flatMap fun x => [x.lay, x.seeded, x.left]⟩) s.strips.length (b := spansOf s) (fun j hj => ?_) ?_ FU (FU_lt (by omega))
  · simp only [List.take_zero, List.flatMap_nil, List.append_nil] at key
    rw [List.nil_append]
    rw [show (0 : Int) = ((0 : Nat) : Int) from rfl, key, Option.bind_some]
  · unfold kX
    have hlt : (j : Int) < (s.strips.length : Int) := by omega
    simp only [hlt, if_true]
    have hx : s.strips.getD j default = s.strips[j] := by simp [List.getD_eq_getElem?_getD, hj]
    rw [ix_nat default hj, Option.bind_some, hx, appc_eq (by
      have := flat3_len (l := s.strips.take j)
      rw [List.length_take] at this
      simp only [List.length_append, List.length_cons, List.length_nil]; omega), Option.bind_some, addc_eq (by omega), Option.bind_some]
    have e : s.strips.take (j + 1) = s.strips.take j ++ [s.strips[j]] := by rw [List.take_append_getElem]
    rw [e, List.flatMap_append, List.append_assoc]
    rfl
  · unfold kX
    simp [spansOf]
theorem spans_len {s : Scalps} : (spansOf s).length = s.carried.length + 3 * s.strips.length := by unfold spansOf; rw [List.length_append, flat3_len]
theorem YN {l : List Span} (hl : l.length < 1000) : qC l = some (l.all okSp) := by
  have := any_loop l default kH (fun x => !okSp x) (by omega) (fun x _ => by unfold kH; rw [Yv]; rfl) (f := yV l) (fun s => rfl)
  unfold qC qv yD
  rw [this, Option.bind_some, not_any_not]
theorem YX {l : List Span} (hl : l.length < 1000) : kW l = some (l.all fun x => decide (x.lo ≤ x.hi)) := by
  have := any_loop l default ku (fun x => !decide (x.lo ≤ x.hi)) (by omega) (fun x _ => by unfold ku KY; rfl) (f := yk l) (fun s => rfl)
  unfold kW kZ qW
  rw [this, Option.bind_some, not_any_not]
theorem QQ {s : Scalps} (h : s.carried.length < 1000) (n : Int) : kw s n = some (inb n 0 ((s.carried.length : Int) - 1)) := by
  unfold kw
  rw [subc_eq (by omega), Option.bind_some, QX]; rfl
theorem jba {s : Scalps} (h : s.strips.length < 1000) (n : Int) : qg s n = some (inb n 0 ((s.strips.length : Int) - 1)) := by
  unfold qg
  rw [subc_eq (by omega), Option.bind_some, QX]; rfl
theorem YW {l : List Strip} {s : Scalps} (h : s.carried.length < 1000) (hl : l.length < 1000) : kG l s = some (l.all fun x => inb x.tenant 0 ((s.carried.length : Int) - 1)) := by
  have := any_loop l default (fun x => km x s) (fun x => !inb x.tenant 0 ((s.carried.length : Int) - 1)) (by omega) (fun x _ => by unfold km KV; rw [QQ h]; rfl) (f := yU l s) (fun s => rfl)
  unfold kG qu yP
  rw [this, Option.bind_some, not_any_not]
theorem ZS {l : List Strip} (hl : l.length < 1000) (h : ∀ x, x ∈ l → In30 x.lay ∧ In30 x.seeded ∧ In30 x.left) : ks l = some (l.all fun x => decide (0 ≤ (goneP x).hi)) := by
  have := any_loop l default ka (fun x => !decide (0 ≤ (goneP x).hi)) (by omega) (fun x hx => by
    obtain ⟨a, b, c⟩ := h x hx
    unfold ka KS; rw [Ql a b c]; rfl) (f := yl l) (fun s => rfl)
  unfold ks kY qX
  rw [this, Option.bind_some, not_any_not]
def chk (s : Scalps) : Int :=
  if inb (s.strips.length : Int) 1 6 = true ∧ inb (s.carried.length : Int) 1 5 = true then
    if (spansOf s).all okSp = true then
      if (s.strips.all fun x => inb x.tenant 0 ((s.carried.length : Int) - 1)) = true then
        if ((spansOf s).all fun x => decide (x.lo ≤ x.hi)) = true then
          if (s.strips.all fun x => decide (0 ≤ (goneP x).hi)) = true then 0 else 8
        else 4
      else 1
    else 3
  else 2
theorem not_true_if {α : Type} (b : Bool) (x y : α) : (if (!b) = true then x else y) = if b = true then y else x := by cases b <;> rfl
theorem spans_mem {s : Scalps} {x : Strip} (hx : x ∈ s.strips) : x.lay ∈ spansOf s ∧ x.seeded ∈ spansOf s ∧ x.left ∈ spansOf s := by
  unfold spansOf
  refine ⟨List.mem_append_right _ (List.mem_flatMap.2 ⟨x, hx, by simp⟩), List.mem_append_right _ (List.mem_flatMap.2 ⟨x, hx, by simp⟩), List.mem_append_right _ (List.mem_flatMap.2 ⟨x, hx, by simp⟩)⟩
theorem QH (s : Scalps) : KE s = some (chk s) := by
  unfold KE chk
  rw [QX, Option.bind_some, QX]
  simp only [not_true_if, Option.bind_some]
  by_cases h1 : inb (s.strips.length : Int) 1 6 = true
  · by_cases h2 : inb (s.carried.length : Int) 1 5 = true
    · rw [if_pos h1, if_pos ⟨h1, h2⟩, h2, Option.bind_some]
      have h1' := inb_iff.1 h1
      have h2' := inb_iff.1 h2
      have hsl := spans_len (s := s)
      simp only [Bool.not_true, Bool.false_eq_true, if_false]
      rw [jam (by omega) (by omega) (by omega), Option.bind_some, YN (by omega), Option.bind_some]
      by_cases h3 : (spansOf s).all okSp = true
      · rw [if_pos h3, if_pos h3, YW (by omega) (by omega), Option.bind_some]
        split
        · rw [Option.bind_some, YX (by omega), Option.bind_some]
          split
          · rw [ZS (by omega) (fun x hx => ?_), Option.bind_some]
            · split <;> rfl
            · obtain ⟨a, b, c⟩ := spans_mem hx
              have := List.all_eq_true.1 h3
              exact ⟨okSp_iff.1 (this _ a), okSp_iff.1 (this _ b), okSp_iff.1 (this _ c)⟩
          · rfl
        · rfl
      · rw [if_neg h3, if_neg h3]
    · rw [if_pos h1, if_neg (fun h => h2 h.2)]
      have : inb (s.carried.length : Int) 1 5 = false := by simpa using h2
      rw [this]; rfl
  · rw [if_neg h1, if_neg (fun h => h1 h.1)]; rfl
structure Right (s : Scalps) : Prop where
  net : NetS s.strips s.carried
  s1 : 1 ≤ s.strips.length
  c1 : 1 ≤ s.carried.length
  ten : ∀ x, x ∈ s.strips → 0 ≤ x.tenant ∧ x.tenant < s.carried.length
  ord : ∀ x, x ∈ s.strips → x.lay.lo ≤ x.lay.hi ∧ x.seeded.lo ≤ x.seeded.hi ∧ x.left.lo ≤ x.left.hi
theorem right_of {s : Scalps} (h : chk s = 0) : Right s := by
  unfold chk at h
  split at h
  · rename_i h1
    split at h
    · rename_i h2
      split at h
      · rename_i h3
        split at h
        · rename_i h4
          split at h
          · rename_i h5
            have e1 := inb_iff.1 h1.1
            have e2 := inb_iff.1 h1.2
            have g2 := List.all_eq_true.1 h2
            have g3 := List.all_eq_true.1 h3
            have g4 := List.all_eq_true.1 h4
            have g5 := List.all_eq_true.1 h5
            have ord : ∀ x, x ∈ s.strips → x.lay.lo ≤ x.lay.hi ∧ x.seeded.lo ≤ x.seeded.hi ∧ x.left.lo ≤ x.left.hi := fun x hx => by
              obtain ⟨a, b, c⟩ := spans_mem hx
              exact ⟨of_decide_eq_true (g4 _ a), of_decide_eq_true (g4 _ b), of_decide_eq_true (g4 _ c)⟩
            refine ⟨⟨by omega, by omega, fun x hx => ?_, fun x hx => ?_⟩, by omega, by omega, fun x hx => ?_, ord⟩
            · obtain ⟨a, b, c⟩ := spans_mem hx
              refine ⟨okSp_iff.1 (g2 _ a), okSp_iff.1 (g2 _ b), okSp_iff.1 (g2 _ c), ?_⟩
              have o := ord x hx
              have := of_decide_eq_true (g5 _ hx)
              unfold goneP at *
              simp only at this ⊢
              omega
            · have hm : x ∈ spansOf s := List.mem_append_left _ hx
              exact ⟨okSp_iff.1 (g2 _ hm), of_decide_eq_true (g4 _ hm)⟩
            · have := inb_iff.1 (g3 _ hx); omega
          · cases h
        · cases h
      · cases h
    · cases h
  · cases h
theorem of_right {s : Scalps} (h : Right s) : chk s = 0 := by
  have hm : ∀ x, x ∈ spansOf s → In30 x ∧ x.lo ≤ x.hi := fun x hx => by
    unfold spansOf at hx
    rcases List.mem_append.1 hx with hx | hx
    · exact h.net.cp x hx
    · obtain ⟨y, hy, hx⟩ := List.mem_flatMap.1 hx
      obtain ⟨a, b, c, _⟩ := h.net.sp y hy
      obtain ⟨d, e, f⟩ := h.ord y hy
      simp only [List.mem_cons, List.not_mem_nil, or_false] at hx
      rcases hx with rfl | rfl | rfl
      · exact ⟨a, d⟩
      · exact ⟨b, e⟩
      · exact ⟨c, f⟩
  have := h.net.s6; have := h.net.c5; have := h.s1; have := h.c1
  unfold chk
  rw [if_pos ⟨inb_iff.2 (by omega), inb_iff.2 (by omega)⟩, if_pos (List.all_eq_true.2 fun x hx => okSp_iff.2 (hm x hx).1), if_pos (List.all_eq_true.2 fun x hx => inb_iff.2 (by have := h.ten x hx; omega)), if_pos (List.all_eq_true.2 fun x hx => decide_eq_true (hm x hx).2), if_pos (List.all_eq_true.2 fun x hx => decide_eq_true (by
    have := (h.net.sp x hx).2.2.2
    unfold goneP at *
    simp only at this ⊢
    omega))]
end Go.Proofs.Ws

namespace Go.Gx
open Go
theorem afind_none {α β : Type} [DecidableEq α] : ∀ {l : List (α × β)} {k : α} {i : Nat}, afind l k i = none ↔ ∀ p, p ∈ l → p.1 ≠ k
  | [], k, i => by simp [afind]
  | (k', v') :: r, k, i => by
    unfold afind
    by_cases h : k = k'
    · rw [if_pos h]
      constructor
      · intro h2; cases h2
      · intro h2; exact absurd h.symm (h2 (k', v') (by simp))
    · rw [if_neg h, afind_none]
      constructor
      · intro h2 p hp
        rcases List.mem_cons.1 hp with rfl | hp
        · exact fun e => h e.symm
        · exact h2 p hp
      · intro h2 p hp; exact h2 p (List.mem_cons_of_mem _ hp)
theorem aget_val {α β : Type} [DecidableEq α] : ∀ {l : List (α × β)} {k : α} {i : Nat}, (afind l k i).map (·.2) = (l.find? fun p => decide (p.1 = k)).map (·.2)
  | [], k, i => rfl
  | (k', v') :: r, k, i => by
    unfold afind
    by_cases h : k = k'
    · rw [if_pos h, List.find?_cons, decide_eq_true h.symm]; rfl
    · rw [if_neg h, aget_val (i := i + 1), List.find?_cons, decide_eq_false (fun e => h e.symm)]
theorem find_modify {α β : Type} [DecidableEq α] (v : β) (k x : α) : ∀ {l : List (α × β)} {i j : Nat} {v0 : β}, afind l k j = some (i, v0) → ((l.modify (i - j) (fun p => (p.1, v))).find? fun p => decide (p.1 = x)).map (·.2) = if x = k then some v else (l.find? fun p => decide (p.1 = x)).map (·.2)
  | [], i, j, v0, h => by cases h
  | (k', v') :: r, i, j, v0, h => by
    unfold afind at h
    by_cases hk : k = k'
    · rw [if_pos hk] at h
      cases h
      rw [Nat.sub_self, List.modify_zero_cons, List.find?_cons, List.find?_cons]
      subst hk
      by_cases hx : k = x
      · rw [decide_eq_true hx, if_pos hx.symm]; rfl
      · rw [decide_eq_false hx, if_neg (fun e => hx e.symm)]
    · rw [if_neg hk] at h
      have hle := (afind_some h).1
      have e : i - j = (i - (j + 1)) + 1 := by omega
      rw [e, List.modify_succ_cons, List.find?_cons, List.find?_cons]
      have ih := find_modify v k x h
      by_cases hx : k' = x
      · rw [decide_eq_true hx, if_neg (fun e => hk (by rw [← e, hx]))]
      · rw [decide_eq_false hx]; exact ih
theorem aget_aset {α β : Type} [DecidableEq α] (l : List (α × β)) (k x : α) (v : β) : aget (aset l k v) x = if x = k then some v else aget l x := by
  unfold aget aset
  rw [aget_val, aget_val]
  cases h : afind l k 0 with
  | none =>
    simp only
    rw [List.find?_append]
    by_cases hx : x = k
    · subst hx
      have : (l.find? fun p => decide (p.1 = x)) = none := by
        rw [List.find?_eq_none]
        intro p hp
        simpa using afind_none.1 h p hp
      rw [this, if_pos rfl]
      simp
    · rw [if_neg hx]
      have : (List.find? (fun p : α × β => decide (p.1 = x)) [(k, v)]) = none := by
        rw [List.find?_cons, decide_eq_false (fun e => hx e.symm)]; rfl
      rw [this, Option.or_none]
  | some p =>
    obtain ⟨i, v0⟩ := p
    exact find_modify v k x h
end Go.Gx
namespace Go.Proofs.Ws
open Go Go.Fw Go.Gx Go.Sp
def Near (st : List Strip) (t k j : Int) : Prop := 0 ≤ k ∧ k < st.length ∧ j - 1 ≤ k ∧ k ≤ j + 1 ∧ 0 ≤ j ∧ j < st.length ∧ (st.getD j.toNat default).tenant = t
def MapOK (st : List Strip) (mp : List (Pair × Bool)) : Prop := ∀ t k : Int, ((aget mp ⟨t, k⟩).getD false = true ↔ ∃ j, Near st t k j)
theorem Zz {s : Scalps} (h6 : s.strips.length ≤ 6) : ∃ mp, iterM FU (zR s) ⟨0, []⟩ = some mp ∧ MapOK s.strips mp := by
  refine iterM_inv (f := zR s) (fun x => 0 ≤ x.t21 ∧ x.t21 ≤ s.strips.length ∧ ∀ t k : Int, ((aget x.t15 ⟨t, k⟩).getD false = true ↔ ∃ j, Near s.strips t k j ∧ j < x.t21)) (fun x => s.strips.length - x.t21.toNat) (MapOK s.strips) (fun x hx => ?_) FU _ (FU_lt (by simp only; omega)) ⟨by simp, by simp, fun t k => ?_⟩
  · obtain ⟨h0, h1, hI⟩ := hx
    unfold zR
    by_cases hlt : x.t21 < (s.strips.length : Int)
    · left
      simp only [hlt, if_true]
      rw [ix_eq default h0 hlt, Option.bind_some, subc_eq (by omega), Option.bind_some]
      generalize hy : s.strips.getD x.t21.toNat default = y
      have key : ∃ mp, iterM FU (zA x s y) ⟨x.t21 - 1, x.t15⟩ = some mp ∧ ∀ t k : Int, ((aget mp ⟨t, k⟩).getD false = true ↔ ∃ j, Near s.strips t k j ∧ j < x.t21 + 1) := by
        refine iterM_inv (f := zA x s y) (fun z => x.t21 - 1 ≤ z.k8 ∧ z.k8 ≤ x.t21 + 2 ∧ ∀ t k : Int, ((aget z.t15 ⟨t, k⟩).getD false = true ↔ (∃ j, Near s.strips t k j ∧ j < x.t21) ∨ (k < z.k8 ∧ Near s.strips t k x.t21))) (fun z => (x.t21 + 2 - z.k8).toNat) _ (fun z hz => ?_) FU _ (FU_lt (by simp only; omega)) ⟨by simp, by simp only; omega, fun t k => ?_⟩
        · obtain ⟨g0, g1, gI⟩ := hz
          unfold zA
          rw [addc_eq (by omega), Option.bind_some]
          by_cases hz2 : z.k8 ≤ x.t21 + 1
          · left
            rw [if_pos hz2, jba (by omega), Option.bind_some]
            by_cases hk : inb z.k8 0 ((s.strips.length : Int) - 1) = true
            · have hk' := inb_iff.1 hk
              rw [if_pos hk, Option.bind_some, Option.bind_some, addc_eq (by omega), Option.bind_some]
              refine ⟨_, rfl, ⟨by simp only; omega, by simp only; omega, fun t k => ?_⟩, by simp only; omega⟩
              simp only
              rw [aget_aset]
              by_cases he : (⟨t, k⟩ : Pair) = ⟨y.tenant, z.k8⟩
              · rw [if_pos he]
                simp only [Pair.mk.injEq] at he
                simp only [Option.getD_some, true_iff]
                refine .inr ⟨by omega, by omega, by omega, by omega, by omega, h0, hlt, ?_⟩
                rw [hy]; exact he.1.symm
              · rw [if_neg he, gI]
                constructor
                · rintro (h | ⟨h, h'⟩)
                  · exact .inl h
                  · exact .inr ⟨by omega, h'⟩
                · rintro (h | ⟨h, h'⟩)
                  · exact .inl h
                  · by_cases hkz : k = z.k8
                    · exfalso
                      apply he
                      have := h'.2.2.2.2.2.2
                      rw [hy] at this
                      rw [hkz, this]
                    · exact .inr ⟨by omega, h'⟩
            · rw [if_neg hk, Option.bind_some, addc_eq (by omega), Option.bind_some]
              refine ⟨_, rfl, ⟨by simp only; omega, by simp only; omega, fun t k => ?_⟩, by simp only; omega⟩
              simp only
              rw [gI]
              constructor
              · rintro (h | ⟨h, h'⟩)
                · exact .inl h
                · exact .inr ⟨by omega, h'⟩
              · rintro (h | ⟨h, h'⟩)
                · exact .inl h
                · by_cases hkz : k = z.k8
                  · exfalso
                    exact hk (inb_iff.2 ⟨by have := h'.1; omega, by have := h'.2.1; omega⟩)
                  · exact .inr ⟨by omega, h'⟩
          · right
            rw [if_neg hz2]
            refine ⟨_, rfl, fun t k => ?_⟩
            rw [gI]
            constructor
            · rintro (⟨j, h, h'⟩ | ⟨h, h'⟩)
              · exact ⟨j, h, by omega⟩
              · exact ⟨x.t21, h', by omega⟩
            · rintro ⟨j, h, h'⟩
              by_cases hj : j = x.t21
              · subst hj
                exact .inr ⟨by have := h.2.2.2.1; omega, h⟩
              · exact .inl ⟨j, h, by omega⟩
        · simp only
          rw [hI]
          constructor
          · exact .inl
          · rintro (h | ⟨h, h'⟩)
            · exact h
            · have := h'.2.2.1; omega
      obtain ⟨mp, hmp, hI2⟩ := key
      rw [hmp, Option.bind_some, addc_eq (by omega), Option.bind_some]
      exact ⟨_, rfl, ⟨by simp only; omega, by simp only; omega, hI2⟩, by simp only; omega⟩
    · right
      simp only [hlt, if_false]
      refine ⟨_, rfl, fun t k => ?_⟩
      rw [hI]
      constructor
      · rintro ⟨j, h, _⟩; exact ⟨j, h⟩
      · rintro ⟨j, h⟩; exact ⟨j, h, by have := h.2.2.2.2.2.1; omega⟩
  · simp only
    constructor
    · intro h; cases h
    · rintro ⟨j, h, h'⟩; have := h.2.2.2.2.1; omega
theorem Ky {s : Scalps} (h : Right s) : ∃ mp, kP s = some (.inr mp) ∧ MapOK s.strips mp := by
  obtain ⟨mp, h1, h2⟩ := Zz h.net.s6
  refine ⟨mp, ?_, h2⟩
  unfold kP
  rw [QH, Option.bind_some, of_right h, if_pos rfl, h1]; rfl
theorem Kx {s : Scalps} (h : chk s ≠ 0) : kP s = some (.inl (chk s)) := by
  unfold kP
  rw [QH, Option.bind_some, if_neg h, if_pos h]
def reachB (st : List Strip) (t k : Nat) : Bool := (List.range st.length).any fun j => decide (j ≤ k + 1 ∧ k ≤ j + 1 ∧ (st.getD j default).tenant = (t : Int))
theorem rOf_reach {st : List Strip} {mp : List (Pair × Bool)} (h : MapOK st mp) {t k : Nat} (hk : k < st.length) : rOf mp t k = reachB st t k := by
  unfold rOf reachB
  rw [Bool.eq_iff_iff, h, List.any_eq_true]
  constructor
  · rintro ⟨j, a, b, c, d, e, f, g⟩
    refine ⟨j.toNat, List.mem_range.2 (by omega), decide_eq_true ⟨by omega, by omega, g⟩⟩
  · rintro ⟨j, a, b⟩
    have a' := List.mem_range.1 a
    obtain ⟨b1, b2, b3⟩ := of_decide_eq_true b
    exact ⟨(j : Int), by omega, by omega, by omega, by omega, by omega, by omega, b3⟩
end Go.Proofs.Ws

namespace Go.Proofs.Ws
open Go Go.Fw Go.Gx Go.Sp
theorem costs_bound : ∀ {l : List Wy}, (∀ w, w ∈ l → WyOK w) → -1000000 * (l.length : Int) ≤ costs l ∧ costs l ≤ 1000000 * (l.length : Int)
  | [], _ => by simp [costs, sumI]
  | w :: l, h => by
    have ih := costs_bound (l := l) (fun x hx => h x (List.mem_cons_of_mem _ hx))
    have hw := h w (by simp)
    have e : costs (w :: l) = w.cost * w.goes + costs l := rfl
    have b := wcost_bound hw
    rw [e]; simp only [List.length_cons]; push_cast; omega
 where
  wcost_bound {w : Wy} (hw : WyOK w) : -1000000 ≤ w.cost * w.goes ∧ w.cost * w.goes ≤ 1000000 := by
    have h1 := hw.cost; have h2 := hw.goes; have h3 := hw.hi
    have : w.cost = -1 ∨ w.cost = 0 ∨ w.cost = 1 := by omega
    rcases this with e | e | e <;> rw [e] <;> omega
theorem YP {l : List Wy} (hl : NetOK l) : y5 l = some (costs l) := by
  unfold y5
  have key := iterM_run (f := JD l) (fun j => ⟨costs (l.take j), (j : Int)⟩) l.length (b := costs l) (fun j hj => ?_) ?_ FU (FU_lt (by have := hl.1; omega))
  · have e : (⟨0, 0⟩ : Ju) = ⟨costs (l.take 0), ((0 : Nat) : Int)⟩ := rfl
    rw [e, key]; rfl
  · unfold JD
    have hlt : (j : Int) < (l.length : Int) := by omega
    have hlen := hl.1
    simp only [hlt, if_true]
    have hx : l.getD j default = l[j] := by simp [List.getD_eq_getElem?_getD, hj]
    have hw := hl.2 _ (List.getElem_mem hj)
    have b1 := costs_bound.wcost_bound hw
    have b2 := costs_bound (l := l.take j) (fun w hw => hl.2 w (List.mem_of_mem_take hw))
    rw [List.length_take] at b2
    rw [ix_nat default hj, Option.bind_some, hx, mulc_eq (by omega), Option.bind_some, addc_eq (by omega), Option.bind_some, addc_eq (by omega), Option.bind_some]
    have e : l.take (j + 1) = l.take j ++ [l[j]] := by rw [List.take_append_getElem]
    rw [e]
    have e2 : costs (l.take j ++ [l[j]]) = costs (l.take j) + l[j].cost * l[j].goes := by
      unfold costs; rw [sumI_append]; simp [sumI]
    rw [e2]; rfl
  · unfold JD
    simp
def mat (T S : Nat) (f : Nat → Nat → Int) : List (List Int) := (List.range T).map fun t => (List.range S).map (f t)
def updF (f : Nat → Nat → Int) (w : Wy) : Nat → Nat → Int := if w.fr = 0 ∨ w.dst = 0 then f else fun t k => if (t : Int) = w.dst - 7 ∧ (k : Int) = w.fr - 1 then w.goes else f t k
def Hits (w : Wy) (t k : Nat) : Prop := w.fr = 1 + (k : Int) ∧ w.dst = 7 + (t : Int)
theorem updF_at {f : Nat → Nat → Int} {w : Wy} {t k : Nat} : (Hits w t k → updF f w t k = w.goes) ∧ (¬ Hits w t k → updF f w t k = f t k) := by
  unfold updF Hits
  constructor
  · rintro ⟨h1, h2⟩
    rw [if_neg (by omega), if_pos (by omega)]
  · intro h
    split
    · rfl
    · exact if_neg (by omega)
theorem foldU_same {t k : Nat} {v : Int} : ∀ {l : List Wy} {f : Nat → Nat → Int}, (∀ w, w ∈ l → Hits w t k → w.goes = v) → f t k = v → l.foldl updF f t k = v
  | [], f, _, h => h
  | w :: l, f, h, hf => by
    rw [List.foldl_cons]
    refine foldU_same (fun x hx => h x (List.mem_cons_of_mem _ hx)) ?_
    by_cases hh : Hits w t k
    · rw [updF_at.1 hh]; exact h w (by simp) hh
    · rw [updF_at.2 hh]; exact hf
theorem foldU_hit {t k : Nat} {v : Int} : ∀ {l : List Wy} {f : Nat → Nat → Int}, (∀ w, w ∈ l → Hits w t k → w.goes = v) → (∃ w, w ∈ l ∧ Hits w t k) → l.foldl updF f t k = v
  | [], f, _, ⟨_, h, _⟩ => by cases h
  | w :: l, f, h, ⟨x, hx, hxh⟩ => by
    rw [List.foldl_cons]
    have h' := fun x hx => h x (List.mem_cons_of_mem w hx)
    rcases List.mem_cons.1 hx with rfl | hx
    · exact foldU_same h' (by rw [updF_at.1 hxh]; exact h x (by simp) hxh)
    · exact foldU_hit h' ⟨x, hx, hxh⟩
theorem mat_row {T S : Nat} {f : Nat → Nat → Int} {t : Nat} (h : t < T) : ix (mat T S f) (t : Int) = some ((List.range S).map (f t)) := range_ix h
theorem mat_set {T S : Nat} {f : Nat → Nat → Int} {t k : Nat} {v : Int} : (mat T S f).set t (((List.range S).map (f t)).set k v) = mat T S fun t' k' => if t' = t ∧ k' = k then v else f t' k' := by
  unfold mat
  rw [range_set, range_set]
  refine List.map_congr_left fun x _ => ?_
  by_cases hx : x = t
  · subst hx
    rw [if_pos rfl]
    refine List.map_congr_left fun y _ => ?_
    by_cases hy : y = k <;> simp [hy]
  · rw [if_neg hx]
    refine List.map_congr_left fun y _ => ?_
    exact (if_neg (fun h => hx h.1)).symm
theorem Z6 {st : List Strip} {ca : List Span} (h6 : st.length ≤ 6) (h5 : ca.length ≤ 5) {l : List Wy} (hl : l.length ≤ 1000) (hw : ∀ w, w ∈ l → w.fr = 0 ∨ w.dst = 0 ∨ ∃ t k, t < ca.length ∧ k < st.length ∧ Hits w t k) :
    yx l st ca = some (mat ca.length st.length (l.foldl updF fun _ _ => 0)) := by
  unfold yx
  rw [makec_eq (by omega), Option.bind_some]
  have k1 : iterM FU (yi (List.replicate ca.length []) st) ⟨0, List.replicate ca.length []⟩ = some (mat ca.length st.length fun _ _ => 0) := by
    have key := iterM_run (f := yi (List.replicate ca.length []) st) (fun j => ⟨(j : Int), (List.range ca.length).map fun t => if t < j then (List.range st.length).map (fun _ => (0 : Int)) else []⟩) ca.length (b := mat ca.length st.length fun _ _ => 0) (fun j hj => ?_) ?_ FU (FU_lt (by omega))
    · have e : (List.range ca.length).map (fun t => if t < 0 then (List.range st.length).map (fun _ => (0 : Int)) else []) = List.replicate ca.length [] := by
        rw [List.eq_replicate_iff]
        exact ⟨by simp, fun b hb => by obtain ⟨t, _, rfl⟩ := List.mem_map.1 hb; simp⟩
      rw [e] at key
      exact key
    · unfold yi
      have hlt : (j : Int) < ((List.replicate ca.length ([] : List Int)).length : Int) := by simp; omega
      simp only [hlt, if_true]
      rw [makec_eq (by omega), Option.bind_some, range_ix hj, Option.bind_some, Option.bind_some, addc_eq (by omega), Option.bind_some, show Int.toNat (j : Int) = j by omega, range_set]
      have e : (List.range ca.length).map (fun t => if t = j then List.replicate (st.length : Int).toNat (0 : Int) else if t < j then (List.range st.length).map (fun _ => (0 : Int)) else []) = (List.range ca.length).map (fun t => if t < j + 1 then (List.range st.length).map (fun _ => (0 : Int)) else []) := by
        refine List.map_congr_left fun t _ => ?_
        by_cases ht : t = j
        · rw [if_pos ht, if_pos (by omega)]
          symm
          rw [List.eq_replicate_iff]
          exact ⟨by simp, fun b hb => by obtain ⟨t, _, rfl⟩ := List.mem_map.1 hb; rfl⟩
        · rw [if_neg ht]
          by_cases h2 : t < j
          · rw [if_pos h2, if_pos (by omega)]
          · rw [if_neg h2, if_neg (by omega)]
      rw [e]; rfl
    · unfold yi
      have hlt : ¬ ((ca.length : Int) < ((List.replicate ca.length ([] : List Int)).length : Int)) := by simp
      simp only [hlt, if_false]
      congr 2
      refine List.map_congr_left fun t ht => ?_
      rw [if_pos (List.mem_range.1 ht)]
  rw [show List.replicate (ca.length : Int).toNat ([] : List Int) = List.replicate ca.length [] by simp, k1, Option.bind_some]
  have key := iterM_run (f := y3 l) (fun j => ⟨(j : Int), mat ca.length st.length ((l.take j).foldl updF fun _ _ => 0)⟩) l.length (b := mat ca.length st.length (l.foldl updF fun _ _ => 0)) (fun j hj => ?_) ?_ FU (FU_lt (by omega))
  · have e : (⟨0, mat ca.length st.length fun _ _ => 0⟩ : yY) = ⟨((0 : Nat) : Int), mat ca.length st.length ((l.take 0).foldl updF fun _ _ => 0)⟩ := rfl
    rw [e, key]; rfl
  · unfold y3
    have hlt : (j : Int) < (l.length : Int) := by omega
    simp only [hlt, if_true]
    have hx : l.getD j default = l[j] := by simp [List.getD_eq_getElem?_getD, hj]
    have e : l.take (j + 1) = l.take j ++ [l[j]] := by rw [List.take_append_getElem]
    rw [ix_nat default hj, Option.bind_some, hx, e, List.foldl_append]
    simp only [List.foldl_cons, List.foldl_nil]
    generalize (l.take j).foldl updF (fun _ _ => 0) = f
    have hwj := hw _ (List.getElem_mem hj)
    generalize l[j] = w at hwj
    by_cases h0 : w.fr = 0 ∨ w.dst = 0
    · have e2 : (if w.fr = 0 then some false else some (!decide (w.dst = 0))) = some false := by
        by_cases h1 : w.fr = 0
        · rw [if_pos h1]
        · rw [if_neg h1, decide_eq_true (h0.resolve_left h1)]; rfl
      rw [e2, Option.bind_some, if_neg (by simp), Option.bind_some, addc_eq (by omega), Option.bind_some]
      unfold updF
      rw [if_pos h0]; rfl
    · rcases hwj with h | h | ⟨t, k, ht, hk, hh⟩
      · exact absurd (.inl h) h0
      · exact absurd (.inr h) h0
      · obtain ⟨a1, a2⟩ := hh
        have e2 : (if w.fr = 0 then some false else some (!decide (w.dst = 0))) = some true := by
          rw [if_neg (fun h => h0 (.inl h)), decide_eq_false (fun h => h0 (.inr h))]; rfl
        rw [e2, Option.bind_some, if_pos rfl, subc_eq (by omega), Option.bind_some, subc_eq (by omega), Option.bind_some, show w.dst - 1 - 6 = (t : Int) by omega, mat_row ht, Option.bind_some, subc_eq (by omega), Option.bind_some, show w.fr - 1 = (k : Int) by omega, range_ix hk, Option.bind_some, Option.bind_some, Option.bind_some, Option.bind_some, addc_eq (by omega), Option.bind_some, show Int.toNat (t : Int) = t by omega, show Int.toNat (k : Int) = k by omega, mat_set]
        have e3 : updF f w = fun t' k' => if t' = t ∧ k' = k then w.goes else f t' k' := by
          unfold updF
          rw [if_neg h0]
          funext t' k'
          by_cases hc : t' = t ∧ k' = k
          · rw [if_pos hc, if_pos (by omega)]
          · rw [if_neg hc, if_neg (by omega)]
        rw [e3]; rfl
  · unfold y3
    simp
theorem laidG_mem {S T : Nat} {g h : Nat → Span} {R : Nat → Nat → Bool} {c : Nat → Nat → Int} {gs : Nat → Int} {ys : Nat → Nat → Int} {zs : Nat → Int} {w : Wy} :
    w ∈ laidG S g h R c gs ys zs T ↔ (∃ k, k < S ∧ w = { stripW g k with goes := gs k }) ∨ (∃ t k, t < T ∧ k < S ∧ R t k = true ∧ w = { innerW c t k with goes := ys t k }) ∨ (∃ t, t < T ∧ w = { tenW h t with goes := zs t }) := by
  unfold laidG
  rw [List.mem_append, List.mem_map, List.mem_flatMap]
  constructor
  · rintro (⟨k, hk, rfl⟩ | ⟨t, ht, hw⟩)
    · exact .inl ⟨k, by simpa using hk, rfl⟩
    · rcases List.mem_append.1 hw with hw | hw
      · obtain ⟨k, hk, rfl⟩ := List.mem_map.1 hw
        obtain ⟨h1, h2⟩ := List.mem_filter.1 hk
        exact .inr (.inl ⟨t, k, by simpa using ht, by simpa using h1, h2, rfl⟩)
      · rw [List.mem_singleton] at hw
        exact .inr (.inr ⟨t, by simpa using ht, hw⟩)
  · rintro (⟨k, hk, rfl⟩ | ⟨t, k, ht, hk, hr, rfl⟩ | ⟨t, ht, rfl⟩)
    · exact .inl ⟨k, by simpa using hk, rfl⟩
    · exact .inr ⟨t, by simpa using ht, List.mem_append_left _ (List.mem_map.2 ⟨k, List.mem_filter.2 ⟨by simpa using hk, hr⟩, rfl⟩)⟩
    · exact .inr ⟨t, by simpa using ht, List.mem_append_right _ (by simp)⟩
theorem Zp {st : List Strip} {ca : List Span} (h6 : st.length ≤ 6) (h5 : ca.length ≤ 5) {g h : Nat → Span} {R : Nat → Nat → Bool} {c : Nat → Nat → Int} {gs : Nat → Int} {ys : Nat → Nat → Int} {zs : Nat → Int} (hl : (laidG st.length g h R c gs ys zs ca.length).length ≤ 1000) :
    yx (laidG st.length g h R c gs ys zs ca.length) st ca = some (mat ca.length st.length (Yr R ys)) := by
  rw [Z6 h6 h5 hl]
  · congr 1
    unfold mat
    refine List.map_congr_left fun t ht => List.map_congr_left fun k hk => ?_
    have ht' := List.mem_range.1 ht
    have hk' := List.mem_range.1 hk
    have hall : ∀ w, w ∈ laidG st.length g h R c gs ys zs ca.length → Hits w t k → R t k = true ∧ w.goes = ys t k := fun w hw hh => by
      unfold Hits at hh
      rcases laidG_mem.1 hw with ⟨k', hk', rfl⟩ | ⟨t', k', ht', hk', hr, rfl⟩ | ⟨t', ht', rfl⟩
      · simp only [stripW] at hh; omega
      · simp only [innerW] at hh
        have e1 : k' = k := by omega
        have e2 : t' = t := by omega
        subst e1; subst e2
        exact ⟨hr, rfl⟩
      · simp only [tenW] at hh; omega
    unfold Yr
    split
    · rename_i hr
      refine foldU_hit (fun w hw hh => (hall w hw hh).2) ⟨_, laidG_mem.2 (.inr (.inl ⟨t, k, ht', hk', hr, rfl⟩)), ?_⟩
      unfold Hits innerW
      exact ⟨rfl, rfl⟩
    · rename_i hr
      exact foldU_same (fun w hw hh => absurd (hall w hw hh).1 hr) rfl
  · intro w hw
    rcases laidG_mem.1 hw with ⟨k', hk', rfl⟩ | ⟨t', k', ht', hk', hr, rfl⟩ | ⟨t', ht', rfl⟩
    · exact .inl rfl
    · exact .inr (.inr ⟨t', k', ht', hk', rfl, rfl⟩)
    · exact .inr (.inl rfl)
structure FitsS (s : Scalps) (y : Nat → Nat → Int) : Prop where
  pos : ∀ t k, t < s.carried.length → k < s.strips.length → 0 ≤ y t k ∧ (0 < y t k → reachB s.strips t k = true)
  ten : ∀ t, t < s.carried.length → (hOf s.carried t).lo ≤ sumTo (fun k => y t k) s.strips.length ∧ sumTo (fun k => y t k) s.strips.length ≤ (hOf s.carried t).hi
  str : ∀ k, k < s.strips.length → (gOf s.strips k).lo ≤ sumTo (fun t => y t k) s.carried.length ∧ sumTo (fun t => y t k) s.carried.length ≤ (gOf s.strips k).hi
theorem fitsY_iff {s : Scalps} {mp : List (Pair × Bool)} (hm : MapOK s.strips mp) {y : Nat → Nat → Int} : FitsY s.strips s.carried mp y ↔ FitsS s y := by
  constructor
  · intro h
    exact ⟨fun t k ht hk => by rw [← rOf_reach hm hk]; exact h.pos t k ht hk, h.ten, h.str⟩
  · intro h
    exact ⟨fun t k ht hk => by rw [rOf_reach hm hk]; exact h.pos t k ht hk, h.ten, h.str⟩
def countS (s : Scalps) (c y : Nat → Nat → Int) : Int := countY s.strips s.carried c y
theorem filled_min {s : Scalps} (h : Right s) {mp : List (Pair × Bool)} (hm : MapOK s.strips mp) {cf : Pair → Option Int} (hc : CfOK s.strips s.carried cf) :
    (∃ l y, j5 s.strips s.carried mp cf = some (.inr ⟨⟨false, []⟩, l⟩) ∧ (∃ π : Int → Int, PotB π l) ∧ Good (laidS s.strips s.carried mp cf) l ∧ Within l ∧ y5 l = some (countS s (cOf cf) y) ∧ yx l s.strips s.carried = some (mat s.carried.length s.strips.length y) ∧ FitsS s y ∧ ∀ y', FitsS s y' → countS s (cOf cf) y ≤ countS s (cOf cf) y') ∨
    (∃ w met, j5 s.strips s.carried mp cf = some (.inl (lackP s.strips s.carried w met)) ∧ Lk (laidS s.strips s.carried mp cf) w met ∧ ∀ y, ¬ FitsS s y) := by
  rcases Zo h.net (mp := mp) hc with ⟨l, h1, hg, hw, π, hp⟩ | ⟨w, met, h1, hlk⟩
  · left
    obtain ⟨gs, ys, zs, e, hf, hcost⟩ := net_shares h.net hg hw
    refine ⟨l, _, h1, ⟨π, hp⟩, hg, hw, ?_, ?_, (fitsY_iff hm).1 hf, fun y' hy' => ?_⟩
    · rw [YP hg.ok, hcost]; rfl
    · have hlen := hg.ok.1
      rw [e]
      rw [e] at hlen
      exact Zp h.net.s6 h.net.c5 (by omega)
    · have := net_least h.net hg hp.1 ((fitsY_iff hm).2 hy')
      rw [hcost] at this
      exact this
  · right
    exact ⟨w, met, h1, hlk, fun y hy => lk_none h.net hlk ((fitsY_iff hm).2 hy)⟩
end Go.Proofs.Ws

namespace Go.Proofs.Ws
open Go Go.Fw Go.Gx Go.Sp
def CfIs (s : Scalps) (cf : Pair → Option Int) (c : Nat → Nat → Int) : Prop := ∀ t k : Nat, t < s.carried.length → k < s.strips.length → cf ⟨(t : Int), (k : Int)⟩ = some (c t k) ∧ -1 ≤ c t k ∧ c t k ≤ 1
theorem CfIs.ok {s : Scalps} {cf : Pair → Option Int} {c : Nat → Nat → Int} (h : CfIs s cf c) : CfOK s.strips s.carried cf := fun t k ht hk => ⟨c t k, h t k ht hk⟩
theorem CfIs.count {s : Scalps} {cf : Pair → Option Int} {c : Nat → Nat → Int} (h : CfIs s cf c) (y : Nat → Nat → Int) : countS s (cOf cf) y = countS s c y := by
  unfold countS countY
  refine sumTo_congr fun t ht => sumTo_congr fun k hk => ?_
  have : cOf cf t k = c t k := by unfold cOf; rw [(h t k ht hk).1]; rfl
  rw [this]
theorem countS_neg {s : Scalps} {c y : Nat → Nat → Int} : countS s (fun t k => - c t k) y = - countS s c y := by
  unfold countS countY
  rw [← Int.neg_one_mul, ← sumTo_mul]
  refine sumTo_congr fun t ht => ?_
  rw [← sumTo_mul]
  refine sumTo_congr fun k hk => ?_
  rw [Int.neg_one_mul, Int.neg_mul]
theorem CfIs.neg {s : Scalps} {cf cf' : Pair → Option Int} {c : Nat → Nat → Int} (h : CfIs s cf c) (h' : ∀ p, cf' p = (cf p).bind fun t => (negc t).bind fun x => some x) : CfIs s cf' fun t k => - c t k := fun t k ht hk => by
  obtain ⟨a, b, d⟩ := h t k ht hk
  refine ⟨?_, (by omega : -1 ≤ - c t k), (by omega : - c t k ≤ 1)⟩
  rw [h', a, Option.bind_some, negc_eq (by omega)]; rfl
def cnt (b : Bool) : Int := if b = true then 1 else 0
theorem cnt_range (b : Bool) : -1 ≤ cnt b ∧ cnt b ≤ 1 ∧ 0 ≤ cnt b := by unfold cnt; split <;> omega
def othB (s : Scalps) (t k : Nat) : Bool := !decide ((s.strips.getD k default).tenant = (t : Int))
def thC (s : Scalps) (t k : Nat) : Int := cnt (othB s t k)
theorem jaw {s : Scalps} {t k : Nat} (hk : k < s.strips.length) : J5 s.strips s.carried ⟨(t : Int), (k : Int)⟩ = some (othB s t k) := by
  unfold J5 othB
  rw [ix_nat default hk, Option.bind_some]
theorem cf_theft (s : Scalps) : CfIs s (fun p => jU p s.strips s.carried) (thC s) := fun t k _ hk => by
  refine ⟨?_, (cnt_range _).1, (cnt_range _).2.1⟩
  unfold jU thC cnt
  simp only
  rw [jaw hk, Option.bind_some]
  split <;> rfl
def IsRange (s : Scalps) (c : Nat → Nat → Int) (lo hi : Int) : Prop := (∃ y, FitsS s y ∧ countS s c y = lo) ∧ (∃ y, FitsS s y ∧ countS s c y = hi) ∧ ∀ y, FitsS s y → lo ≤ countS s c y ∧ countS s c y ≤ hi
def NoFit (s : Scalps) : Prop := ∀ y, ¬ FitsS s y
theorem IsRange.uniq {s : Scalps} {c : Nat → Nat → Int} {a b a' b' : Int} (h : IsRange s c a b) (h' : IsRange s c a' b') : a = a' ∧ b = b' := by
  obtain ⟨⟨y1, f1, e1⟩, ⟨y2, f2, e2⟩, h3⟩ := h
  obtain ⟨⟨z1, g1, d1⟩, ⟨z2, g2, d2⟩, h4⟩ := h'
  have := h3 _ g1; have := h3 _ g2; have := h4 _ f1; have := h4 _ f2
  omega
theorem spread_spec {s : Scalps} (h : Right s) {mp : List (Pair × Bool)} (hm : MapOK s.strips mp) {cf : Pair → Option Int} {c : Nat → Nat → Int} (hc : CfIs s cf c) :
    (∃ lo hi, yC s.strips s.carried mp cf = some ⟨⟨lo, hi⟩, 0⟩ ∧ IsRange s c lo hi) ∨ (yC s.strips s.carried mp cf = some ⟨⟨0, 0⟩, 7⟩ ∧ NoFit s) := by
  have hc2 : CfIs s (fun p : Pair => jX p cf) fun t k => - c t k := hc.neg fun p => rfl
  unfold yC
  rcases filled_min h hm hc.ok with ⟨l, y, h1, _, hg, _, h2, _, h3, h4⟩ | ⟨w, met, h1, _, h3⟩
  · left
    rcases filled_min h hm hc2.ok with ⟨l', y', g1, _, hg', _, g2, _, g3, g4⟩ | ⟨w, met, _, _, g3⟩
    · rw [h1, Option.bind_some, oc_inr, g1, Option.bind_some, oc_inr]
      simp only
      rw [hc.count] at h2
      rw [hc2.count, countS_neg] at g2
      have hb := costs_bound hg'.ok.2
      have hln := hg'.ok.1
      have e : costs l' = - countS s c y' := by
        have := YP hg'.ok
        rw [this] at g2
        exact Option.some.inj g2
      rw [h2, Option.bind_some, g2, Option.bind_some, negc_eq (by omega), Option.bind_some, Int.neg_neg]
      refine ⟨_, _, rfl, ⟨y, h3, rfl⟩, ⟨y', g3, rfl⟩, fun z hz => ?_⟩
      have a := h4 z hz
      have b := g4 z hz
      rw [hc.count, hc.count] at a
      rw [hc2.count, hc2.count, countS_neg, countS_neg] at b
      omega
    · exact absurd h3 (g3 y)
  · right
    rcases filled_min h hm hc2.ok with ⟨l', y', g1, _, _, _, _, _, g3, _⟩ | ⟨w', met', g1, _, _⟩
    · exact absurd g3 (h3 y')
    · rw [h1, Option.bind_some, oc_inl, g1, Option.bind_some, oc_inl]
      exact ⟨rfl, h3⟩
theorem Za (st : List Strip) (ca : List Span) : Ka st ca = some () := rfl
end Go.Proofs.Ws

namespace Go.Proofs.Ws
open Go Go.Fw Go.Gx Go.Sp
def gtI (l : List Int) (j : Nat) : Int := l.getD j 0
def ascB (l : List Int) : Bool := (List.range (l.length - 1)).all fun j => decide (gtI l j < gtI l (j + 1))
theorem compact_short {l : List Int} : (Go.Lib.compact l).length < l.length ↔ ∃ j, j + 1 < l.length ∧ gtI l (j + 1) = gtI l j := by
  unfold Go.Lib.compact Go.Lib.compactUpTo
  rw [List.length_map]
  have hget : ∀ i, i < l.length → l.toArray[i]! = gtI l i := fun i hi => by simp [gtI, hi, List.getD_eq_getElem?_getD]
  constructor
  · intro h
    have h2 : ¬ ∀ j ∈ List.range l.length, Go.Lib.keeps l.toArray j = true := fun hall => by
      rw [List.filter_eq_self.2 hall, List.length_range] at h; omega
    obtain ⟨j, hj⟩ := Classical.not_forall.1 h2
    obtain ⟨hj1, hj2⟩ := Classical.not_imp.1 hj
    have hj1' := List.mem_range.1 hj1
    unfold Go.Lib.keeps at hj2
    have hj3 : ¬ (j = 0 ∨ l.toArray[j]! ≠ l.toArray[j - 1]!) := fun hh => hj2 (decide_eq_true hh)
    have hj0 : j ≠ 0 := fun e => hj3 (.inl e)
    have heq : l.toArray[j]! = l.toArray[j - 1]! := Classical.not_not.1 fun e => hj3 (.inr e)
    refine ⟨j - 1, by omega, ?_⟩
    rw [← hget _ (by omega), ← hget _ (by omega), show j - 1 + 1 = j by omega]
    exact heq
  · rintro ⟨j, hj, he⟩
    have hlt : ((List.range l.length).filter (Go.Lib.keeps l.toArray)).length < (List.range l.length).length := by
      apply List.length_filter_lt_length_iff_exists.2
      refine ⟨j + 1, List.mem_range.2 hj, ?_⟩
      unfold Go.Lib.keeps
      intro hh
      rcases of_decide_eq_true hh with h | h
      · omega
      · apply h
        rw [hget _ hj, show j + 1 - 1 = j by omega, hget _ (by omega)]
        exact he
    simpa using hlt
theorem jaJ (x y : Int) : za x y = some (decide (x < y)) := by
  unfold za yq
  simp
theorem jac {l : List Int} (hl : l.length < 100000) : j9 l = some (decide (∀ j, j < l.length - 1 → gtI l j ≤ gtI l (j + 1))) := by
  unfold j9
  rw [subc_eq (by omega), Option.bind_some]
  by_cases h0 : l.length = 0
  · have e : jZ l ((l.length : Int) - 1) = some (.inr (.inl ())) := by
      unfold jZ
      rw [if_neg (by omega)]
    obtain ⟨N, hN⟩ : ∃ N, FU = N + 1 := ⟨FU - 1, by unfold FU; omega⟩
    rw [hN, iterM_done e, Option.bind_some, oc_inl, decide_eq_true (fun j hj => by omega)]
  · have key := iterM_find (f := jZ l) (fun k => (l.length : Int) - 1 - (k : Int)) (l.length - 1) (fun k => decide (gtI l (l.length - 1 - k) < gtI l (l.length - 2 - k))) (fun _ => .inr false) (.inl ()) (fun k hk _ => ?_) ?_ (N := FU) (FU_lt (by omega))
    · have e0 : (l.length : Int) - 1 = (l.length : Int) - 1 - ((0 : Nat) : Int) := by omega
      rw [e0, key, Option.bind_some]
      cases hf : (List.range (l.length - 1)).find? (fun k => decide (gtI l (l.length - 1 - k) < gtI l (l.length - 2 - k))) with
      | none =>
        rw [List.find?_eq_none] at hf
        simp only [oc_inl]
        rw [decide_eq_true]
        intro j hj
        have := hf (l.length - 2 - j) (List.mem_range.2 (by omega))
        rw [show l.length - 1 - (l.length - 2 - j) = j + 1 by omega, show l.length - 2 - (l.length - 2 - j) = j by omega] at this
        have h3 : ¬ gtI l (j + 1) < gtI l j := fun h => this (decide_eq_true h)
        omega
      | some k =>
        have h1' := List.find?_some hf
        have h1 := of_decide_eq_true h1'
        have h2 := List.mem_range.1 (List.mem_of_find?_eq_some hf)
        simp only [oc_inr]
        rw [decide_eq_false]
        intro hall
        have := hall (l.length - 2 - k) (by omega)
        rw [show l.length - 2 - k + 1 = l.length - 1 - k by omega] at this
        omega
    · unfold jZ
      have hpos : 0 < (l.length : Int) - 1 - (k : Int) := by omega
      rw [if_pos hpos, show (l.length : Int) - 1 - (k : Int) = ((l.length - 1 - k : Nat) : Int) by omega, ix_nat 0 (by omega), Option.bind_some, subc_eq (by omega), Option.bind_some, show ((l.length - 1 - k : Nat) : Int) - 1 = ((l.length - 2 - k : Nat) : Int) by omega, ix_nat 0 (by omega), Option.bind_some, jaJ, Option.bind_some]
      unfold gtI
      split
      · rfl
      · rw [Option.bind_some]; congr 2; omega
    · unfold jZ
      rw [if_neg (by omega)]
theorem Zj {l : List Int} (hl : l.length < 100000) : (if (l.length : Int) = 0 then (some true) else ((j9 l).bind fun t38 => if (!t38) = true then (some true) else ((kQ l).bind fun t44 => (qk t44).bind fun t45 => some (decide ((t45.length : Int) < (l.length : Int)))))) = some (!(decide (l.length ≠ 0) && ascB l)) := by
  by_cases h0 : l.length = 0
  · rw [if_pos (by omega), decide_eq_false (fun h => h h0)]; rfl
  · rw [if_neg (by omega), jac hl, Option.bind_some, decide_eq_true h0, Bool.true_and, not_true_if]
    unfold ascB
    by_cases hs : ∀ j, j < l.length - 1 → gtI l j ≤ gtI l (j + 1)
    · rw [decide_eq_true hs, if_pos rfl]
      unfold kQ qk
      rw [if_pos (by omega), appc_eq (by simp; omega), Option.bind_some, Option.bind_some, List.nil_append, if_pos (by omega), Option.bind_some]
      congr 1
      rw [Bool.eq_iff_iff, decide_eq_true_iff, Bool.not_eq_true', ← Bool.not_eq_true, List.all_eq_true, Int.ofNat_lt, compact_short]
      constructor
      · rintro ⟨j, hj, he⟩ h
        have := of_decide_eq_true (h j (List.mem_range.2 (by omega)))
        omega
      · intro h
        obtain ⟨j, hj⟩ := Classical.not_forall.1 h
        obtain ⟨hj1, hj2⟩ := Classical.not_imp.1 hj
        have hj1' := List.mem_range.1 hj1
        refine ⟨j, by omega, ?_⟩
        have := hs j (by omega)
        have : ¬ gtI l j < gtI l (j + 1) := fun hh => hj2 (decide_eq_true hh)
        omega
    · rw [decide_eq_false hs, if_neg (by simp)]
      congr 1
      symm
      rw [Bool.not_eq_true', ← Bool.not_eq_true, List.all_eq_true]
      intro h
      apply hs
      intro j hj
      have := of_decide_eq_true (h j (List.mem_range.2 (by omega)))
      omega
theorem Q3 {l : List Int} (hl : l.length < 100000) (v : Int) : ko l v = some (l.any fun x => decide (v = x)) := by
  have := any_loop l 0 (fun x => some (decide (v = x))) (fun x => decide (v = x)) (by omega) (fun x _ => rfl) (f := qw l v) (fun s => by
    unfold qw
    by_cases h : s < (l.length : Int)
    · rw [if_pos h, if_pos h]
      cases hx : ix l s with
      | none => rfl
      | some x =>
        rw [Option.bind_some, Option.bind_some, Option.bind_some]
        by_cases hv : v = x
        · rw [if_pos hv, if_pos (decide_eq_true hv)]
        · rw [if_neg hv, if_neg (by simpa using hv)]
    · rw [if_neg h, if_neg h])
  unfold ko yG
  exact this
def hasZ (l : List Int) (v : Nat) : Bool := l.any fun x => decide ((v : Int) = x)
def reI (mp : List (Pair × Bool)) (t k : Int) : Bool := (aget mp ⟨t, k⟩).getD false
theorem ZX {l : List Int} (hl : l.length < 100000) (st : List Strip) (ca : List Span) (mp : List (Pair × Bool)) (t : Int) : j6 l st ca mp t = some (l.any fun k => reI mp t k) := by
  have := any_loop l 0 (fun x => zg x st ca mp t) (fun k => reI mp t k) (by omega) (fun x _ => rfl) (f := qc l st ca mp t) (fun s => rfl)
  unfold j6 kL
  exact this
theorem ZK {l : List Int} (hl : l.length < 100000) (st : List Strip) (ca : List Span) (mp : List (Pair × Bool)) (k : Int) : j7 l st ca mp k = some (l.any fun t => reI mp t k) := by
  have := any_loop l 0 (fun x => zf x st ca mp k) (fun t => reI mp t k) (by omega) (fun x _ => rfl) (f := qb l st ca mp k) (fun s => rfl)
  unfold j7 kK
  exact this
def needT (s : Scalps) (l : List Int) (t : Nat) : Int := if hasZ l t = true then (hOf s.carried t).lo else 0
def canT (s : Scalps) (mp : List (Pair × Bool)) (l : List Int) (k : Nat) : Int := if (l.any fun t => reI mp t (k : Int)) = true then (gOf s.strips k).hi else 0
def needK (s : Scalps) (l : List Int) (k : Nat) : Int := if hasZ l k = true then (gOf s.strips k).lo else 0
def canK (s : Scalps) (mp : List (Pair × Bool)) (l : List Int) (t : Nat) : Int := if (l.any fun k => reI mp (t : Int) k) = true then (hOf s.carried t).hi else 0
def lackV (s : Scalps) (mp : List (Pair × Bool)) (l : Lack) : Int :=
  if l.tenants = true then sumTo (needT s l.of_) s.carried.length - sumTo (canT s mp l.of_) s.strips.length
  else sumTo (needK s l.of_) s.strips.length - sumTo (canK s mp l.of_) s.carried.length
theorem sumTo_bound {f : Nat → Int} {b : Int} : ∀ {n : Nat}, (∀ j, j < n → 0 ≤ f j ∧ f j ≤ b) → 0 ≤ sumTo f n ∧ sumTo f n ≤ b * (n : Int)
  | 0, _ => by simp [sumTo]
  | n + 1, h => by
    have ih := sumTo_bound (n := n) (fun j hj => h j (by omega))
    have := h n (by omega)
    simp only [sumTo]
    rw [show ((n + 1 : Nat) : Int) = (n : Int) + 1 by omega, Int.mul_add, Int.mul_one]
    omega
theorem Yu {s : Scalps} (h : Right s) {mp : List (Pair × Bool)} {l : Lack} (hl : l.of_.length < 100000) : kO s.strips s.carried mp l = some (lackV s mp l) := by
  have hS := h.net
  have h6 := hS.s6; have h5 := hS.c5
  unfold kO lackV
  obtain ⟨b, o⟩ := l
  simp only at hl ⊢
  cases b with
  | true =>
    have k1 : iterM FU (j1 s.carried ⟨true, o⟩ s.strips mp) ⟨0, 0, 0⟩ = some ⟨sumTo (needT s o) s.carried.length, 0⟩ := by
      have key := iterM_run (f := j1 s.carried ⟨true, o⟩ s.strips mp) (fun j => ⟨sumTo (needT s o) j, 0, (j : Int)⟩) s.carried.length (b := ⟨sumTo (needT s o) s.carried.length, 0⟩) (fun j hj => ?_) ?_ FU (FU_lt (by omega))
      · exact key
      · unfold j1
        have hlt : (j : Int) < (s.carried.length : Int) := by omega
        have hb := sumTo_bound (f := needT s o) (b := 30) (n := j) (fun i hi => by have := hOf_ok hS (t := i) (by omega); unfold needT; split <;> omega)
        have hj2 := hOf_ok hS hj
        unfold hOf at hj2
        simp only [hlt, if_true]
        rw [ix_nat default hj, Option.bind_some, Q3 hl, Option.bind_some, Option.bind_some]
        simp only [Bool.not_true, Bool.false_eq_true, if_false, Option.bind_some]
        simp only [sumTo]
        unfold needT hasZ hOf
        split
        · rw [addc_eq (by unfold needT hasZ hOf at hb; omega), Option.bind_some, Option.bind_some, addc_eq (by omega), Option.bind_some]; rfl
        · rw [Option.bind_some, addc_eq (by omega), Option.bind_some, Int.add_zero]; rfl
      · unfold j1
        simp
    have k2 : iterM FU (j2 s.strips ⟨true, o⟩ s.carried mp) ⟨sumTo (needT s o) s.carried.length, 0, 0⟩ = some ⟨sumTo (needT s o) s.carried.length, sumTo (canT s mp o) s.strips.length⟩ := by
      have key := iterM_run (f := j2 s.strips ⟨true, o⟩ s.carried mp) (fun j => ⟨sumTo (needT s o) s.carried.length, sumTo (canT s mp o) j, (j : Int)⟩) s.strips.length (b := ⟨sumTo (needT s o) s.carried.length, sumTo (canT s mp o) s.strips.length⟩) (fun j hj => ?_) ?_ FU (FU_lt (by omega))
      · exact key
      · unfold j2
        have hlt : (j : Int) < (s.strips.length : Int) := by omega
        have hb := sumTo_bound (f := canT s mp o) (b := 60) (n := j) (fun i hi => by have := gOf_ok hS (k := i) (by omega); unfold canT; split <;> omega)
        have hj2 := gOf_ok hS hj
        have hx : s.strips.getD j default = s.strips[j] := by simp [List.getD_eq_getElem?_getD, hj]
        obtain ⟨b1, b2, b3, b4⟩ := hS.sp _ (List.getElem_mem hj)
        unfold gOf at hj2
        simp only [hlt, if_true]
        rw [ix_nat default hj, Option.bind_some]
        simp only [Bool.not_true, Bool.false_eq_true, if_false, Option.bind_some]
        rw [ZK hl, Option.bind_some, Option.bind_some]
        simp only [sumTo]
        unfold canT gOf
        split
        · rw [hx, Ql b1 b2 b3, Option.bind_some, addc_eq (by unfold canT gOf at hb; rw [hx] at hj2; omega), Option.bind_some, Option.bind_some, addc_eq (by omega), Option.bind_some]; rfl
        · rw [Option.bind_some, addc_eq (by omega), Option.bind_some, Int.add_zero]; rfl
      · unfold j2
        simp
    have hb1 := sumTo_bound (f := needT s o) (b := 30) (n := s.carried.length) (fun i hi => by have := hOf_ok hS (t := i) (by omega); unfold needT; split <;> omega)
    have hb2 := sumTo_bound (f := canT s mp o) (b := 60) (n := s.strips.length) (fun i hi => by have := gOf_ok hS (k := i) (by omega); unfold canT; split <;> omega)
    rw [k1, Option.bind_some, k2, Option.bind_some, subc_eq (by simp only; omega), Option.bind_some, if_pos rfl]
  | false =>
    have k1 : iterM FU (j1 s.carried ⟨false, o⟩ s.strips mp) ⟨0, 0, 0⟩ = some ⟨0, sumTo (canK s mp o) s.carried.length⟩ := by
      have key := iterM_run (f := j1 s.carried ⟨false, o⟩ s.strips mp) (fun j => ⟨0, sumTo (canK s mp o) j, (j : Int)⟩) s.carried.length (b := ⟨0, sumTo (canK s mp o) s.carried.length⟩) (fun j hj => ?_) ?_ FU (FU_lt (by omega))
      · exact key
      · unfold j1
        have hlt : (j : Int) < (s.carried.length : Int) := by omega
        have hb := sumTo_bound (f := canK s mp o) (b := 30) (n := j) (fun i hi => by have := hOf_ok hS (t := i) (by omega); unfold canK; split <;> omega)
        have hj2 := hOf_ok hS hj
        unfold hOf at hj2
        simp only [hlt, if_true]
        rw [ix_nat default hj, Option.bind_some]
        simp only [Bool.not_false, Bool.false_eq_true, if_false, if_true, Option.bind_some]
        rw [ZX hl, Option.bind_some, Option.bind_some]
        simp only [sumTo]
        unfold canK hOf
        split
        · rw [addc_eq (by unfold canK hOf at hb; omega), Option.bind_some, Option.bind_some, addc_eq (by omega), Option.bind_some]; rfl
        · rw [Option.bind_some, addc_eq (by omega), Option.bind_some, Int.add_zero]; rfl
      · unfold j1
        simp
    have k2 : iterM FU (j2 s.strips ⟨false, o⟩ s.carried mp) ⟨0, sumTo (canK s mp o) s.carried.length, 0⟩ = some ⟨sumTo (needK s o) s.strips.length, sumTo (canK s mp o) s.carried.length⟩ := by
      have key := iterM_run (f := j2 s.strips ⟨false, o⟩ s.carried mp) (fun j => ⟨sumTo (needK s o) j, sumTo (canK s mp o) s.carried.length, (j : Int)⟩) s.strips.length (b := ⟨sumTo (needK s o) s.strips.length, sumTo (canK s mp o) s.carried.length⟩) (fun j hj => ?_) ?_ FU (FU_lt (by omega))
      · exact key
      · unfold j2
        have hlt : (j : Int) < (s.strips.length : Int) := by omega
        have hb := sumTo_bound (f := needK s o) (b := 60) (n := j) (fun i hi => by have := gOf_ok hS (k := i) (by omega); unfold needK; split <;> omega)
        have hj2 := gOf_ok hS hj
        have hx : s.strips.getD j default = s.strips[j] := by simp [List.getD_eq_getElem?_getD, hj]
        obtain ⟨b1, b2, b3, b4⟩ := hS.sp _ (List.getElem_mem hj)
        unfold gOf at hj2
        simp only [hlt, if_true]
        rw [ix_nat default hj, Option.bind_some]
        simp only [Bool.not_false, Bool.false_eq_true, if_false, if_true, Option.bind_some]
        rw [Q3 hl, Option.bind_some, Option.bind_some]
        simp only [sumTo]
        unfold needK hasZ gOf
        split
        · rw [hx, Ql b1 b2 b3, Option.bind_some, addc_eq (by unfold needK hasZ gOf at hb; rw [hx] at hj2; omega), Option.bind_some, Option.bind_some, addc_eq (by omega), Option.bind_some]; rfl
        · rw [Option.bind_some, addc_eq (by omega), Option.bind_some, Int.add_zero]; rfl
      · unfold j2
        simp
    have hb1 := sumTo_bound (f := needK s o) (b := 60) (n := s.strips.length) (fun i hi => by have := gOf_ok hS (k := i) (by omega); unfold needK; split <;> omega)
    have hb2 := sumTo_bound (f := canK s mp o) (b := 30) (n := s.carried.length) (fun i hi => by have := hOf_ok hS (t := i) (by omega); unfold canK; split <;> omega)
    rw [k1, Option.bind_some, k2, Option.bind_some, subc_eq (by simp only; omega), Option.bind_some, if_neg (by simp)]
end Go.Proofs.Ws

