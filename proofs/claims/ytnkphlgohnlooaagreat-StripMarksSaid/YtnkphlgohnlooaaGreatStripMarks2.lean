/- What the functions that the law StripMarks reaches come to, and why it holds: part 2. -/
import Derived.Test.YtnkphlgohnlooaaGreatStripMarks1
namespace Go.Gx
open Go Go.Fw
def iterX {α σ β : Type} (f : α → σ → Option (σ ⊕ β)) : List α → σ → Option (σ ⊕ β)
  | [], s => some (.inl s)
  | x :: l, s => (f x s).bind fun r => oc r (fun s' => iterX f l s') (fun b => some (.inr b))
theorem iterX_append {α σ β : Type} {f : α → σ → Option (σ ⊕ β)} : ∀ (l m : List α) (s : σ), iterX f (l ++ m) s = (iterX f l s).bind fun r => oc r (fun s' => iterX f m s') (fun b => some (.inr b))
  | [], m, s => rfl
  | x :: l, m, s => by
    simp only [List.cons_append, iterX]
    cases f x s with
    | none => rfl
    | some r =>
      cases r with
      | inl s' => exact iterX_append l m s'
      | inr b => rfl
theorem iterX_step {α σ β : Type} {f : α → σ → Option (σ ⊕ β)} {l : List α} {s0 : σ} {o : σ ⊕ β} (h : iterX f l s0 = some o) {j : Nat} {x : α} (hx : l[j]? = some x) {s : σ} (hs : iterX f (l.take j) s0 = some (.inl s)) :
    ∃ r, f x s = some r ∧ (∀ s', r = .inl s' → iterX f (l.take (j + 1)) s0 = some (.inl s')) ∧ (∀ b, r = .inr b → o = .inr b) := by
  obtain ⟨hj, rfl⟩ := List.getElem?_eq_some_iff.1 hx
  have e1 : l = l.take (j + 1) ++ l.drop (j + 1) := (List.take_append_drop _ _).symm
  have e2 : l.take (j + 1) = l.take j ++ [l[j]] := by rw [List.take_append_getElem]
  rw [e1, iterX_append, e2, iterX_append, hs] at h
  simp only [Option.bind_some, oc, iterX] at h
  cases hf : f l[j] s with
  | none => rw [hf] at h; simp at h
  | some r =>
    refine ⟨r, rfl, fun s' hr => ?_, fun b hr => ?_⟩
    · subst hr
      rw [e2, iterX_append, hs]
      simp [iterX, oc, hf]
    · subst hr
      rw [hf] at h
      simpa [oc] using h.symm
def ItX (P : Program) (gf : FuncId) (cap : List Value) (vals : List Value) (w0 : World) (M : List Nat) (ro : List Sg) (rd : World → Prop) : Prop :=
  ∀ {γ : Type} (Y : γ → List (Nat × Obj)) (St : Nat → γ → Prop) (Sp : γ → Prop) (l : Nat), (∀ k g X w, St k g → HS w0 M (Y g ++ X) ro w → rd w) → (∀ g X w, Sp g → HS w0 M (Y g ++ X) ro w → rd w) →
    (∀ j v g X w, vals[j]? = some v → St j g → HS w0 M (Y g ++ X) ro w → YieldOK P l [v] w (fun en w' => (en = .returned (.bool true) ∧ ∃ g', St (j + 1) g' ∧ HS w0 M (Y g' ++ X) ro w') ∨ (en = .returned (.bool false) ∧ ∃ g', Sp g' ∧ HS w0 M (Y g' ++ X) ro w'))) →
    ∀ g0, St 0 g0 → ∀ w X0, HS w0 M (Y g0 ++ X0) ro w → Calls P gf ([Value.func (.yield l) #[] #[]] ++ cap).toArray w (fun en w' => ∃ v, en = .returned v ∧ ∃ g, (St vals.length g ∨ Sp g) ∧ HS w0 M (Y g ++ X0) ro w')
def bodyX {σ β ι ι' : Type} (w1 : World) (K : List Nat) (r : σ ⊕ β) (pl : σ → ι → Prop) (mo : σ → ι → List (Nat × Obj)) (mv : σ → ι → List VR) (pl' : β → ι' → Prop) (mo' : β → ι' → List (Nat × Obj)) (mv' : β → ι' → List VR) : Exit → Act → World → Prop := fun x _ w' =>
  (x = .normal ∧ ∃ s l, r = .inl s ∧ pl s l ∧ HV w1 K (mo s l) (mv s l) [] w') ∨ (x = .ret ∧ ∃ b l, r = .inr b ∧ pl' b l ∧ HV w1 K (mo' b l) (mv' b l) [] w')
section
variable {n : Nat} {ds : List Deferred} {e : EnvL} {P : Program} {Q : Exit → Act → World → Prop} {w0 : World} {M : List Nat} {S : List (Nat × Obj)} {vs : List VR} {ro : List Sg}
theorem jbu {σ β ι ι' : Type} {w1 : World} {K : List Nat} {r : σ ⊕ β} {pl : σ → ι → Prop} {mo : σ → ι → List (Nat × Obj)} {mv : σ → ι → List VR} {pl' : β → ι' → Prop} {mo' : β → ι' → List (Nat × Obj)} {mv' : β → ι' → List VR} (s : σ) (l : ι) (hr : r = .inl s) (hp : pl s l) (hw : ∀ w, HV w1 K S vs ro w → HV w1 K (mo s l) (mv s l) [] w) :
    G n ds e (HV w1 K S vs ro) (bodyX w1 K r pl mo mv pl' mo' mv' .normal) := fun _ w _ hh => .inl ⟨rfl, s, l, hr, hp, hw w hh⟩
theorem jbg {σ β ι ι' : Type} {w1 : World} {K : List Nat} {r : σ ⊕ β} {pl : σ → ι → Prop} {mo : σ → ι → List (Nat × Obj)} {mv : σ → ι → List VR} {pl' : β → ι' → Prop} {mo' : β → ι' → List (Nat × Obj)} {mv' : β → ι' → List VR} (b : β) (l : ι') (hr : r = .inr b) (hp : pl' b l) (hw : ∀ w, HV w1 K S vs ro w → HV w1 K (mo' b l) (mv' b l) [] w) :
    G n ds e (HV w1 K S vs ro) (bodyX w1 K r pl mo mv pl' mo' mv' .ret) := fun _ w _ hh => .inr ⟨rfl, b, l, hr, hp, hw w hh⟩
theorem jag {α σ β ι ι' : Type} (L : List α) (enc : α → Value) {f : α → σ → Option (σ ⊕ β)} {s0 : σ} {o : σ ⊕ β} (hN : iterX f L s0 = some o) (pl : σ → ι → Prop) (mo : σ → ι → List (Nat × Obj)) (mv : σ → ι → List VR) (pl' : β → ι' → Prop) (mo' : β → ι' → List (Nat × Obj)) (mv' : β → ι' → List VR)
    (l0 : ι) (h0 : pl s0 l0) (hw0 : ∀ w, HV w0 M S vs ro w → HV w0 M (mo s0 l0) (mv s0 l0) ro w)
    (rd : World → Prop) (hrd : ∀ s l w, pl s l → HV w0 M (mo s l) (mv s l) ro w → rd w) (hrdR : ∀ b l w, pl' b l → HV w0 M (mo' b l) (mv' b l) ro w → rd w) {g : Operand} {p : Nat} {assign body : Code} {gf : FuncId} {cap : Array Value} {e1 : α → EnvL}
    (hit : ItX P gf cap.toList (L.map enc) w0 M ro rd) (hg : ev e g = some (.func (.func gf) #[] cap)) (hcall : ∀ args w, (callFunc gf args).run P w = .ok (.enter gf args) w) (hpn : Nat.blt p n = true)
    (ha : ∀ (x : α) (lr : Nat) (H : World → Prop) (X : Act → World → Prop), G n [] (e1 x) H X → G n [] ((p, enc x) :: e) H (assign.wpIn (fw (some lr)) 0 P (thenQ X (fun _ _ _ => False))))
    (hb : ∀ x s r l lr w1, pl s l → f x s = some r → (∀ b, r = .inr b → o = .inr b) → G n [] (e1 x) (HV w1 (keys (mo s l) (mv s l)) (mo s l) (mv s l) ro) (body.wpIn (fw (some lr)) 0 P (bodyX w1 (keys (mo s l) (mv s l)) r pl mo mv pl' mo' mv')))
    (next : ∀ s l D, o = .inl s → pl s l → G n (Go.Fw.mark D :: ds) e (HV w0 M ((D, .deferred (some [])) :: mo s l) (mv s l) ro) (Q .normal))
    (nextR : ∀ b l D, o = .inr b → pl' b l → G n (Go.Fw.mark D :: ds) e (HV w0 M ((D, .deferred (some [])) :: mo' b l) (mv' b l) ro) (Q .ret)) :
    G n ds e (HV w0 M S vs ro) ((Code.rangeFunc g #[p] assign body).wpIn (fw none) 0 P Q) := by
  refine G.pre (H' := HV w0 M (mo s0 l0) (mv s0 l0) ro) ?_ hw0
  intro a w he hh
  refine wpIn_rangeFunc ?_
  intro fn _
  have hgv := he.eval hg
  have hh0 : HS w0 M (mo s0 l0 ++ vbl (mv s0 l0)) ro w := hh
  have h1 := hh0.alloc (.deferred (some []))
  have h2 := h1.alloc (lrec fn a.tmps #[p] assign body w.heap.size .ready none)
  have hsz : (w.alloc (.deferred (some []))).heap.size = w.heap.size + 1 := by simp
  rw [hsz] at h2
  generalize hD : w.heap.size = D at *
  have hD0 : w0.heap.size ≤ D := by rw [← hD]; exact hh0.size
  refine ⟨D + 1, [Go.Fw.mark D], _, { target := .fn (.func gf) cap, args := #[.func (.yield (D + 1)) #[] #[]] }, (w.alloc (.deferred (some []))).alloc (lrec fn a.tmps #[p] assign body D .ready none), gf, #[.func (.yield (D + 1)) #[] #[]] ++ cap, (w.alloc (.deferred (some []))).alloc (lrec fn a.tmps #[p] assign body D .ready none), (by rw [← hD]; exact run_enterLoop_outer fn a.tmps #[p] assign body), ?_, fun _ _ => trivial, ?_, fun h => by simp [fw] at h, ?_⟩
  · subst hD
    simp only [resolve, hgv]
    simp [Deferred.ofValue, Act.eval]
    rfl
  · simp [invoke, hcall]
  have key := hit (γ := (σ × ι) ⊕ (β × ι')) (fun c => match c with
      | .inl (s, l) => (D + 1, lrec fn a.tmps #[p] assign body D .ready none) :: (D, .deferred (some [])) :: (mo s l ++ vbl (mv s l))
      | .inr (b, l) => (D + 1, lrec fn a.tmps #[p] assign body D .done (some .ret)) :: (D, .deferred (some [])) :: (mo' b l ++ vbl (mv' b l)))
    (fun k c => match c with
      | .inl (s, l) => iterX f (L.take k) s0 = some (.inl s) ∧ pl s l
      | .inr _ => False)
    (fun c => match c with
      | .inl _ => False
      | .inr (b, l) => o = .inr b ∧ pl' b l) (D + 1)
    (fun k c X w hS hX => by
      cases c with
      | inr c => exact hS.elim
      | inl c =>
        exact hrd c.1 c.2 w hS.2 (hX.drop (List.Sublist.cons _ (List.Sublist.cons _ (List.sublist_append_left _ _)))))
    (fun c X w hS hX => by
      cases c with
      | inl c => exact hS.elim
      | inr c =>
        exact hrdR c.1 c.2 w hS.2 (hX.drop (List.Sublist.cons _ (List.Sublist.cons _ (List.sublist_append_left _ _)))))
    (fun j v c X w hv hS hX => ?_) (.inl (s0, l0)) ⟨by simp [iterX], h0⟩ _ [] (by simpa using h2)
  · have hargs : ([Value.func (.yield (D + 1)) #[] #[]] ++ cap.toList).toArray = #[.func (.yield (D + 1)) #[] #[]] ++ cap := by apply Array.toList_inj.1; simp
    rw [hargs] at key
    refine callsIn_fw.2 (key.mono ?_)
    rintro en w' ⟨v, rfl, c, hc, hx⟩
    simp only [List.append_nil] at hx
    cases c with
    | inl c =>
      obtain ⟨s, l⟩ := c
      rcases hc with ⟨hc1, hc2⟩ | hc
      · rw [List.length_map, List.take_length, hN] at hc1
        simp only [Option.some.injEq] at hc1
        refine ⟨none, _, run_endLoop (hx.get 0 rfl) (by simp), ?_⟩
        have hfin := (hx.put 0 (lrec fn a.tmps #[p] assign body D .exhausted none) rfl rfl).dropN 1 rfl
        exact next s l D hc1 hc2 ⟨a.tmps, [Go.Fw.mark D] ++ a.defers⟩ _ ⟨he.size, by simp [he.defs], he.get⟩ hfin
      · exact hc.elim
    | inr c =>
      obtain ⟨b, l⟩ := c
      rcases hc with hc | ⟨hc1, hc2⟩
      · exact hc.elim
      · refine ⟨some .ret, _, run_endLoop (hx.get 0 rfl) (by simp), ?_⟩
        have hfin := (hx.put 0 (lrec fn a.tmps #[p] assign body D .exhausted (some .ret)) rfl rfl).dropN 1 rfl
        exact wpIn_ret (nextR b l D hc1 hc2 ⟨a.tmps, [Go.Fw.mark D] ++ a.defers⟩ _ ⟨he.size, by simp [he.defs], he.get⟩ hfin)
  · cases c with
    | inr c => exact hS.elim
    | inl c =>
    obtain ⟨s, l⟩ := c
    obtain ⟨hS1, hS2⟩ := hS
    rw [List.getElem?_map, Option.map_eq_some_iff] at hv
    obtain ⟨x, hx, rfl⟩ := hv
    obtain ⟨r, hr1, hr2, hr3⟩ := iterX_step hN hx hS1
    have hl := hX.get 0 rfl
    refine ⟨fn, _, assign, body, run_yield (P := P) (args := #[enc x]) hl (by simp), ?_⟩
    refine roundIn_of_wpIn (F := fw none) trivial ?_
    rw [← thenQ_eq]
    have hE' : Env n [] ((p, enc x) :: e) ⟨(#[p].zip #[enc x]).foldl (fun t (y : Nat × Value) => t.setIfInBounds y.1 y.2) a.tmps, []⟩ := by
      have hz := yenv_ok (n := n) [p] [enc x] e a.tmps rfl (by intro q hq; simp at hq; subst hq; simpa using hpn) ⟨he.size, rfl, he.get⟩
      simpa [yenv] using hz
    refine ha x _ _ _ ?_ _ w hE' hX
    intro a1 w1 he1 hh1
    have hl1 := hh1.get 0 rfl
    refine ⟨_, run_beginRound hl1 rfl, ?_⟩
    have hbusy := hh1.put 0 (lrec fn a.tmps #[p] assign body D .busy none) rfl rfl
    obtain ⟨w2, hw2⟩ : ∃ w2, w2 = w1.putObj (D + 1) (lrec fn a.tmps #[p] assign body D .busy none) := ⟨_, rfl⟩
    rw [← hw2] at hbusy
    show Code.wpIn (fw (some (D + 1))) 0 P body _ a1 (w1.putObj (D + 1) (lrec fn a.tmps #[p] assign body D .busy none))
    rw [← hw2]
    have hh2 : HS w0 M ((mo s l ++ vbl (mv s l)) ++ ((D + 1, lrec fn a.tmps #[p] assign body D .busy none) :: (D, .deferred (some [])) :: X)) ro w2 := HS.perm hbusy (by
      show ((D + 1, lrec fn a.tmps #[p] assign body D .busy none) :: (D, Obj.deferred (some [])) :: ((mo s l ++ vbl (mv s l)) ++ X)).Perm _
      exact (List.perm_middle.trans (List.Perm.cons _ List.perm_middle)).symm)
    have hh3 : HV w0 M (mo s l ++ ((D + 1, lrec fn a.tmps #[p] assign body D .busy none) :: (D, .deferred (some [])) :: X)) (mv s l ++ []) ro w2 := HS.perm hh2 (by
      simp only [List.append_nil]
      rw [List.append_assoc, List.append_assoc]
      exact List.Perm.append_left _ List.perm_append_comm)
    have hc := HV.callee (S0 := mo s l) (vs0 := mv s l) (ro0 := ro) hh3 (fun t ht => hh3.rsepM ht)
    refine Go.wpIn_mono (hb x s r l _ w2 hS2 hr1 hr3 a1 w2 he1 hc) ?_
    have back : ∀ (S1 : List (Nat × Obj)) (vs1 : List VR) (w3 : World), HV w2 (keys (mo s l) (mv s l)) S1 vs1 [] w3 → HS w0 M ((D + 1, lrec fn a.tmps #[p] assign body D .busy none) :: (D, .deferred (some [])) :: ((S1 ++ vbl vs1) ++ X)) ro w3 := fun S1 vs1 w3 hv' => by
      have hb2 := HV.back hh3 hv'
      refine HS.perm hb2 ?_
      simp only [List.append_nil]
      rw [List.append_assoc]
      refine (List.Perm.append_left _ List.perm_append_comm).trans ?_
      rw [← List.append_assoc]
      exact (List.perm_middle.trans (List.Perm.cons _ List.perm_middle))
    rintro ex a2 w3 (⟨rfl, s', l', rfl, hp', hv'⟩ | ⟨rfl, b', l', rfl, hp', hv'⟩)
    · have hb3 := back _ _ _ hv'
      refine ⟨_, _, run_endRound none (hb3.get 0 rfl), .inl ⟨rfl, .inl (s', l'), ⟨hr2 s' rfl, hp'⟩, ?_⟩⟩
      exact hb3.put 0 (lrec fn a.tmps #[p] assign body D .ready none) rfl rfl
    · have hb3 := back _ _ _ hv'
      refine ⟨_, _, run_endRound (some .ret) (hb3.get 0 rfl), .inr ⟨rfl, .inr (b', l'), ⟨hr3 b' rfl, hp'⟩, ?_⟩⟩
      exact hb3.put 0 (lrec fn a.tmps #[p] assign body D .done (some .ret)) rfl rfl
end
section
variable {n : Nat} {ds : List Deferred} {e : EnvL} {P : Program} {Q : Exit → Act → World → Prop} {w0 : World} {M : List Nat} {S : List (Nat × Obj)} {vs : List VR} {ro : List Sg}
theorem iterX_L {α σ : Type} {f : α → σ → Option σ} : ∀ (l : List α) (s : σ), iterX (β := Empty) (fun x s => (f x s).bind fun s' => some (.inl s')) l s = (iterL f l s).bind fun s' => some (.inl s')
  | [], s => rfl
  | x :: l, s => by
    simp only [iterX, iterL]
    cases f x s with
    | none => rfl
    | some s' => exact iterX_L l s'
def bodyL {σ ι : Type} (w1 : World) (K : List Nat) (r : σ) (pl : σ → ι → Prop) (mo : σ → ι → List (Nat × Obj)) (mv : σ → ι → List VR) : Exit → Act → World → Prop := fun x _ w' =>
  x = .normal ∧ ∃ s l, r = s ∧ pl s l ∧ HV w1 K (mo s l) (mv s l) [] w'
theorem jbo {σ ι : Type} {w1 : World} {K : List Nat} {r : σ} {pl : σ → ι → Prop} {mo : σ → ι → List (Nat × Obj)} {mv : σ → ι → List VR} (s : σ) (l : ι) (hr : r = s) (hp : pl s l) (hw : ∀ w, HV w1 K S vs ro w → HV w1 K (mo s l) (mv s l) [] w) :
    G n ds e (HV w1 K S vs ro) (bodyL w1 K r pl mo mv .normal) := fun _ w _ hh => ⟨rfl, s, l, hr, hp, hw w hh⟩
theorem jaL {α σ ι : Type} (L : List α) (enc : α → Value) {f : α → σ → Option σ} {s0 : σ} {o : σ} (hN : iterL f L s0 = some o) (pl : σ → ι → Prop) (mo : σ → ι → List (Nat × Obj)) (mv : σ → ι → List VR)
    (l0 : ι) (h0 : pl s0 l0) (hw0 : ∀ w, HV w0 M S vs ro w → HV w0 M (mo s0 l0) (mv s0 l0) ro w)
    (rd : World → Prop) (hrd : ∀ s l w, pl s l → HV w0 M (mo s l) (mv s l) ro w → rd w) {g : Operand} {p : Nat} {assign body : Code} {gf : FuncId} {cap : Array Value} {e1 : α → EnvL}
    (hit : ItX P gf cap.toList (L.map enc) w0 M ro rd) (hg : ev e g = some (.func (.func gf) #[] cap)) (hcall : ∀ args w, (callFunc gf args).run P w = .ok (.enter gf args) w) (hpn : Nat.blt p n = true)
    (ha : ∀ (x : α) (lr : Nat) (H : World → Prop) (X : Act → World → Prop), G n [] (e1 x) H X → G n [] ((p, enc x) :: e) H (assign.wpIn (fw (some lr)) 0 P (thenQ X (fun _ _ _ => False))))
    (hb : ∀ x s r l lr w1, pl s l → f x s = some r → G n [] (e1 x) (HV w1 (keys (mo s l) (mv s l)) (mo s l) (mv s l) ro) (body.wpIn (fw (some lr)) 0 P (bodyL w1 (keys (mo s l) (mv s l)) r pl mo mv)))
    (next : ∀ l D, pl o l → G n (Go.Fw.mark D :: ds) e (HV w0 M ((D, .deferred (some [])) :: mo o l) (mv o l) ro) (Q .normal)) :
    G n ds e (HV w0 M S vs ro) ((Code.rangeFunc g #[p] assign body).wpIn (fw none) 0 P Q) := by
  refine jag (β := Empty) (ι' := Unit) (f := fun x s => (f x s).bind fun s' => some (.inl s')) (s0 := s0) (o := .inl o) L enc (by rw [iterX_L, hN]; rfl) pl mo mv (fun _ _ => False) (fun _ _ => []) (fun _ _ => []) l0 h0 hw0 rd hrd (fun _ _ _ h => h.elim) hit hg hcall hpn ha ?_ ?_ (fun _ _ _ _ h => h.elim)
  · intro x s r l lr w1 hp hf _
    cases hfs : f x s with
    | none => rw [hfs] at hf; simp at hf
    | some s' =>
      rw [hfs] at hf
      simp only [Option.bind_some, Option.some.injEq] at hf
      subst hf
      refine (hb x s s' l lr w1 hp hfs).mono (fun a w h => Go.wpIn_mono h ?_)
      rintro ex a2 w2 ⟨rfl, s2, l2, rfl, h2, h3⟩
      exact .inl ⟨rfl, s', l2, rfl, h2, h3⟩
  · intro s l D ho hp
    injection ho with ho
    subst ho
    exact next l D hp
end
section
variable {n : Nat} {ds : List Deferred} {e : EnvL} {P : Program} {w0 : World} {M : List Nat} {S : List (Nat × Obj)} {vs : List VR} {ro : List Sg}
theorem QJ {Ds : List Nat} {fn : Func} {rs : List ResultVar} {R : Ending → World → Prop} {vr : List Value} (hi : vs.getLast? = some (mkV Ds)) (hd : ds = mks Ds) (hr : fn.results = rs.toArray) (hv : ∀ w, HV w0 M S vs.dropLast ro w → ResOK P e w rs vr) (hR : ∀ w, HV w0 M S vs.dropLast ro w → R (.returned (retv vr)) w) :
    G n ds e (HV w0 M S vs ro) (bodyPostM (fw none) 0 P fn R .ret) := by
  subst hd
  have h1 : vs = vs.dropLast ++ [mkV Ds] := by
    obtain ⟨h2, h3⟩ := List.getLast?_eq_some_iff.1 hi
    rw [h3, List.dropLast_concat]
  have h2 : vbl vs = vbl vs.dropLast ++ Ds.map (fun D => (D, Obj.deferred (some []))) := by
    conv => lhs; rw [h1]
    rw [vbl_append]
    simp [vbl, VR.bl, vown, mkV]
  refine G.pre (H' := HS w0 M (Ds.map (fun D => (D, Obj.deferred (some []))) ++ (S ++ vbl vs.dropLast)) ro) ?_ (fun w hh => HS.perm hh (by
    rw [h2, ← List.append_assoc]
    exact List.perm_append_comm))
  intro a w he hh
  show LeavesInM (fw none) 0 P fn a.tmps R a.defers .returning w
  rw [he.defs]
  exact leaves_marks Ds _ w hh fun w' hw' => ⟨_, results_ok hr he (hv w' hw'), hR w' hw'⟩
end
end Go.Gx

namespace Go.Gx
open Go Go.Fw
section
variable {P : Program}
theorem run_copy_rows (w : World) (dT sT ty elem : TypeId) (g dLen dCap : Nat) (a : Addr) (sLen sCap k n : Nat) (cur : Array Value) (t : TypeId) (cs : List Value)
    (hu : P.underlying dT = some (.slice elem)) (hs : (P.info? elem).map (·.size) = some k) (hg : w.heap[g]? = some (.cells cur t (0, 0))) (hn : n = Nat.min sLen dLen) (hc : cs.length = n * k)
    (hsrc : ∀ j v, cs[j]? = some v → w.cell? (a.add j) = some v) (hfit : cs.length ≤ cur.size) (h1 : ∀ v ∈ cs, v.oneCell' = true) :
    (Builtin.copy_ #[dT, sT] ty #[.slice (some ⟨g, 0, none⟩) dLen dCap, .slice (some a) sLen sCap]).run P w = .ok (goInt n) (w.setRow g (cs ++ cur.toList.drop cs.length).toArray) := by
  have hl := run_loadCells_list (P := P) w a cs hsrc
  have hst := run_storeCells_at P g 0 t cs 0 cur w hg (by simpa using hfit) h1
  simp only [Nat.zero_add, List.take_zero, List.nil_append] at hst
  cases hq : P.info? elem with
  | none => simp [hq] at hs
  | some i =>
    have hi : i.size = k := by simpa [hq] using hs
    simp [Builtin.copy_, run_underlying hu, Builtin.lenOf, Builtin.firstCells, sizeOf, typeInfo, hq, hi, ← hn, ← hc, hl, hst]
theorem run_copy_zero (w : World) (dT sT ty elem : TypeId) (d a : Option Addr) (dLen dCap sLen sCap k : Nat) (hu : P.underlying dT = some (.slice elem)) (hs : (P.info? elem).map (·.size) = some k) (hn : Nat.min sLen dLen = 0) :
    (Builtin.copy_ #[dT, sT] ty #[.slice d dLen dCap, .slice a sLen sCap]).run P w = .ok (goInt 0) w := by
  cases hq : P.info? elem with
  | none => simp [hq] at hs
  | some i =>
    have hi : i.size = k := by simpa [hq] using hs
    have hl : ∀ a : Addr, (loadCells a 0).run P w = .ok #[] w := fun a => by simp [loadCells, loadCellsFrom]
    cases d <;> cases a <;> simp [Builtin.copy_, run_underlying hu, Builtin.lenOf, Builtin.firstCells, sizeOf, typeInfo, hq, hi, hn, hl, storeCells]
end
section
variable {n : Nat} {ds : List Deferred} {e : EnvL} {P : Program} {r : Option Nat} {Q : Exit → Act → World → Prop} {ops : Array Oper} {w0 : World} {M : List Nat} {S : List (Nat × Obj)} {vs : List VR} {ro : List Sg} {rest : List Oper}
theorem jbE {α : Type} (R : Row α) (i : Nat) {d : Nat} {t ty E : TypeId} {x y : Operand} {sz ln cap : Nat} {l m lm : List α} {sp : List Value} {q : Option (Nat × Nat)} {q2 : Option Addr} {n2 c2 : Nat} {mo : List (Nat × Obj)} {pos : String} {after : Array Edge}
    (hu : P.underlying t = some (.slice E)) (hs : (P.info? E).map (·.size) = some sz) (hsz : sz = R.sz) (hs0 : Nat.blt 0 R.sz = true) (hx : ev e x = some (slv q ln cap)) (hy : ev e y = some (.slice q2 n2 c2)) (hvi : vs[i]? = some ⟨E, R.enc l, sp, q, mo⟩) (hv : VOK sz ln cap (R.enc l) sp q)
    (hm : m.length = n2) (hq2 : AOK n2 q2) (hsrc : ∀ w, HV w0 M S vs ro w → segOK w (aB q2, aO q2, R.enc m)) (hle : m.length ≤ l.length) (hlm : m ++ l.drop m.length = lm) (hn : Nat.blt d n = true)
    (h : VOK sz ln cap (R.enc lm) sp q → G n ds ((d, .int .i64 (m.length : Int)) :: e) (HV w0 M S (vs.set i ⟨E, R.enc lm, sp, q, mo⟩) ro) (wpListIn (fw r) 0 P ops Q rest)) :
    G n ds e (HV w0 M S vs ro) (wpListIn (fw r) 0 P ops Q (⟨some d, .call ⟨.builtin .copy, #[x, y], #[t, t]⟩, ty, pos, after, none⟩ :: rest)) := fun a w he hh => by
  subst hsz hm
  have hln := vlen R hv hs0
  have hlen2 : lm.length = l.length := by rw [← hlm]; simp; omega
  have hv' : VOK R.sz ln cap (R.enc lm) sp q := by
    have e1 : (R.enc lm).length = (R.enc l).length := by rw [R.enc_len, R.enc_len, hlen2]
    exact ⟨by rw [e1]; exact hv.hlen, by rw [List.length_append, e1, ← List.length_append]; exact hv.hcap, hv.hle, hv.hmax, (fun hn' => by
      have := hv.hnone hn'
      refine ⟨this.1, ?_⟩
      exact this.2), hv.hoff⟩
  by_cases h0 : m = []
  · subst h0
    have e1 : lm = l := by rw [← hlm]; simp
    subst e1
    have hrun := run_copy_zero (P := P) w t t ty E (q.map fun p => ⟨p.1, p.2, none⟩) q2 ln cap 0 c2 R.sz hu hs (by exact Nat.zero_min ln)
    refine wpListIn_value (wanted_none rfl _) (v := .int .i64 0) (w' := w) (by
      have hx' : a.eval x = .slice (q.map fun p => ⟨p.1, p.2, none⟩) ln cap := he.eval hx
      have hy' : a.eval y = .slice q2 0 c2 := he.eval hy
      simp only [execOp, resolve]
      simp [invoke, builtin, hx', hy', hrun, goInt]) ?_
    refine h hv _ _ (he.put hn _) ?_
    have : vs.set i ⟨E, R.enc lm, sp, q, mo⟩ = vs := by
      apply List.ext_getElem?
      intro j
      rw [List.getElem?_set]
      split
      · rename_i hj; subst hj; split
        · exact hvi.symm
        · rename_i hlt; rw [List.getElem?_eq_none (by omega)]
      · rfl
    rw [this]
    exact hh
  · have hm0 : 0 < m.length := List.length_pos_iff.2 h0
    obtain ⟨b2, o2, rfl⟩ := hq2 hm0
    cases q with
    | none => have := (hv.hnone rfl).1; omega
    | some p =>
      have hoff := hv.hoff p rfl
      have hbk : w.heap[p.1]? = some (.cells (R.enc l ++ sp).toArray E (0, 0)) := hh.hs.ownOK (p.1, _) (HV.vmem i hvi _ (by simp [VR.bl, vown]))
      have hx' : a.eval x = .slice (some ⟨p.1, 0, none⟩) ln cap := by rw [he.eval hx]; simp [slv, hoff]
      have hy' : a.eval y = .slice (some ⟨b2, o2, none⟩) m.length c2 := he.eval hy
      have hsr : ∀ j v, (R.enc m)[j]? = some v → w.cell? ((⟨b2, o2, none⟩ : Addr).add j) = some v := fun j v hj => by
        rw [addr_add]
        exact segOK.at (hsrc w hh) hj
      have hrun := run_copy_rows (P := P) w t t ty E p.1 ln cap ⟨b2, o2, none⟩ m.length c2 R.sz m.length (R.enc l ++ sp).toArray E (R.enc m) hu hs hbk (by rw [← hln]; exact (Nat.min_eq_left hle).symm) (R.enc_len m) hsr (by
        have : m.length * R.sz ≤ l.length * R.sz := Nat.mul_le_mul_right _ hle
        simp [R.enc_len]; omega) (R.enc_one m)
      have hcs : (R.enc m ++ (R.enc l ++ sp).toArray.toList.drop (R.enc m).length).toArray = (R.enc lm ++ sp).toArray := by
        congr 1
        have h2 : l.take m.length ++ l.drop m.length = l := List.take_append_drop _ _
        have h3 : (R.enc (l.take m.length)).length = (R.enc m).length := by rw [R.enc_len, R.enc_len]; congr 1; simp; omega
        have h4 : R.enc l = R.enc (l.take m.length) ++ R.enc (l.drop m.length) := by rw [← R.enc_append, h2]
        show R.enc m ++ (R.enc l ++ sp).drop (R.enc m).length = R.enc lm ++ sp
        rw [← hlm, R.enc_append, List.append_assoc]
        congr 1
        rw [h4, List.append_assoc, ← h3, List.drop_left]
      rw [hcs] at hrun
      refine wpListIn_value (wanted_none rfl _) (v := .int .i64 m.length) (w' := w.setRow p.1 (R.enc lm ++ sp).toArray) (by simp only [execOp, resolve]; simp [invoke, builtin, hx', hy', hrun, goInt]) ?_
      refine h hv' _ _ (he.put hn _) (hh.vupd i hvi Ext.setRow (setRow_heap w p.1 _ _ E (0, 0) hbk))
end
section
variable {P : Program} {e : EnvL} {w : World} {dst : Option Tmp} {ty : TypeId} {pos : String} {after : Array Edge} {g : Option (Nat × Bool)}
theorem run_eqPtr {t E : TypeId} {a : Option Addr} (hu : (underlying t).run P w = .ok (.pointer E) w) : (Op.equal t (.pointer a) (.pointer none)).run P w = .ok a.isNone w := by
  unfold Op.equal
  rw [show Op.maxDepth = 9999 + 1 from rfl, Op.equalIn]
  simp only [Sem.run_bind, hu, Result.andThen_ok]
  cases a <;> rfl
theorem Jr {t u E : TypeId} {x y : Operand} {a : Option Addr} (hu : (underlying t).run P w = .ok (.pointer E) w) (hx : ev e x = some (.pointer a)) (hy : ev e y = some (.pointer none)) :
    Val P e w ⟨dst, .binOp .eql t x y u, ty, pos, after, g⟩ (.bool a.isNone) := fun n ds ac he => by
  have h1 : (eqGuard .eql t x y (.pointer a) (.pointer none)).run P w = .ok () w := by cases a <;> rfl
  have h2 : (binOp .eql t (.pointer a) (.pointer none)).run P w = .ok (.bool a.isNone) w := by
    simp only [binOp, Sem.run_bind, run_eqPtr hu, Result.andThen_ok, Sem.run_pure]
  simp only [execOp, he.eval hx, he.eval hy, Sem.run_bind, h1, Result.andThen_ok, h2, Sem.run_pure]
end
end Go.Gx

namespace Go.Gx
open Go Go.Fw
structure ClOK (P : Program) (f : FuncId) (fs cs : Array Value) (T : List Sg) {α β : Type} (ea : α → List Value) (er : β → Value) (cf : α → Option β) : Prop where
  call : ∀ args w, (callFunc f args).run P w = .ok (.enter f args) w
  ok : ∀ x r, cf x = some r → ∀ w, (∀ t, t ∈ T → segOK w t) → Ret P f (fs.toList ++ ea x ++ cs.toList) w (er r)
theorem HVstart {w : World} {ro : List Sg} (h : ∀ s, s ∈ ro → segOK w s) : HV w (keys [] []) [] [] ro w := HS.start w [] ro h
theorem clRet {P : Program} {f : FuncId} {args : List Value} {w : World} {v : Value} (h : Calls P f args.toArray w (fun en w' => ∃ _ : Unit, en = .returned v ∧ True ∧ HV w (keys [] []) [] [] [] w')) : Ret P f args w v :=
  Calls.mono h fun _ _ hr => ⟨hr.choose_spec.1, HS.toExt hr.choose_spec.2.2⟩
theorem HV.selN {w0 w : World} {M : List Nat} {S S' : List (Nat × Obj)} {vs vs' : List VR} {ro : List Sg} (h : HV w0 M S vs ro w) (iS iV : List Nat) (hn : iS.Nodup) (hm : iV.Nodup) (hS : iS.map (fun i => S[i]?) = S'.map some) (hV : iV.map (fun i => vs[i]?) = vs'.map some) : HV w0 M S' vs' [] w :=
  h.sel iS iV ro.length hn hm hS hV (List.drop_length)
section
variable {n : Nat} {ds : List Deferred} {e : EnvL} {P : Program} {r : Option Nat} {Q : Exit → Act → World → Prop} {ops : Array Oper} {w0 : World} {M : List Nat} {S : List (Nat × Obj)} {vs : List VR} {ro : List Sg}
theorem Zq {α β : Type} {ea : α → List Value} {er : β → Value} {cf : α → Option β} {f : FuncId} {fs cs : Array Value} {T : List Sg} (hc : ClOK P f fs cs T ea er cf) (hT : ∀ t, t ∈ T → t ∈ ro) {y : α} {z : β} (hy : cf y = some z)
    {o : Oper} {rest : List Oper} {d : Nat} {x : Operand} {xs : List Operand} {ts : Array TypeId}
    (ho : o.op = .call ⟨.value x, xs.toArray, ts⟩) (hd : o.dst = some d) (hg : o.guard = none) (hn : Nat.blt d n = true)
    (hx : ev e x = some (.func (.func f) fs cs)) (hxs : evs e xs = some (ea y))
    (h : G n ds ((d, er z) :: e) (HV w0 M S vs ro) (wpListIn (fw r) 0 P ops Q rest)) : G n ds e (HV w0 M S vs ro) (wpListIn (fw r) 0 P ops Q (o :: rest)) := by
  exact jbC ho hd hg hn hx hxs rfl hc.call (fun w hh => hc.ok y z hy w (fun t ht => HV.segm (show HV w0 M S vs ro w from hh) (hT t ht))) h
end
end Go.Gx

namespace Go.Gx
open Go Go.Fw
section
variable {n : Nat} {ds : List Deferred} {e : EnvL} {P : Program} {r : Option Nat} {Q : Exit → Act → World → Prop} {ops : Array Oper} {w0 : World} {M : List Nat} {S : List (Nat × Obj)} {vs : List VR} {ro : List Sg} {rest : List Oper}
theorem Row.part {α : Type} (R : Row α) (l : List α) (j f : Nat) (x0 x1 : α) (us sp : List Value) (hx : l[j]? = some x0) (hf : f + us.length ≤ R.sz) (hset : (R.cells x0).take f ++ us ++ (R.cells x0).drop (f + us.length) = R.cells x1) :
    (R.enc l ++ sp).take (j * R.sz + f) ++ us ++ (R.enc l ++ sp).drop (j * R.sz + f + us.length) = R.enc (l.set j x1) ++ sp := by
  have hjl : j < l.length := (List.getElem?_eq_some_iff.1 hx).1
  have e0 := R.enc_set l j x0 x0 hx
  have e1 := R.enc_set l j x0 x1 hx
  have es : l.set j x0 = l := by
    apply List.ext_getElem?
    intro k
    rw [List.getElem?_set]
    split
    · rename_i hk; subst hk; simp [hjl]; exact (List.getElem?_eq_some_iff.1 hx).2.symm
    · rfl
  rw [es] at e0
  have hle : (j + 1) * R.sz ≤ l.length * R.sz := Nat.mul_le_mul_right _ hjl
  rw [Nat.add_mul, Nat.one_mul] at hle
  have hA : ((R.enc l).take (j * R.sz)).length = j * R.sz := by rw [List.length_take, R.enc_len]; omega
  have hC : (R.cells x0).length = R.sz := R.len x0
  generalize hAd : (R.enc l).take (j * R.sz) = A at e0 e1 hA
  generalize (R.enc l).drop (j * R.sz + R.sz) = D at e0 e1
  rw [← e0, ← e1, ← hset]
  have t1 : (A ++ R.cells x0 ++ D ++ sp).take (j * R.sz + f) = A ++ (R.cells x0).take f := by
    rw [List.append_assoc, List.append_assoc, List.take_append, hA, List.take_of_length_le (by omega), show j * R.sz + f - j * R.sz = f by omega, List.take_append_of_le_length (by omega)]
  have t2 : (A ++ R.cells x0 ++ D ++ sp).drop (j * R.sz + f + us.length) = (R.cells x0).drop (f + us.length) ++ D ++ sp := by
    rw [List.append_assoc, List.append_assoc, List.drop_append, hA, List.drop_eq_nil_of_le (by omega), List.nil_append, show j * R.sz + f + us.length - j * R.sz = f + us.length by omega, List.drop_append_of_le_length (by omega), List.append_assoc]
  rw [t1, t2]
  simp only [List.append_assoc]
end
end Go.Gx

namespace Go.Proofs.Ws
open Go Go.Fw Go.Gx Go.Sp
set_option maxRecDepth 100000 in
theorem jbI : Tryz.prog.stoodInHeld 126 = false := by decide +kernel
set_option maxRecDepth 100000 in
theorem jbM (x y : Pair) (w : World) : (Op.equalIn 10000 126 (.agg (RPr.cells x).toArray) (.agg (RPr.cells y).toArray)).run Tryz.prog w = .ok (decide (x = y)) w := by
  have h := equal_struct (xs := (RPr.cells x).toArray) (ys := (RPr.cells y).toArray) Tryz.underlying126 jbI (.int rfl (fun w => Tryz.isAgg3 w) ⟨_, Tryz.underlying3⟩ rfl rfl (.int rfl (fun w => Tryz.isAgg3 w) ⟨_, Tryz.underlying3⟩ rfl rfl .nil)) w
  rw [h]
  congr 1
  cases x; cases y
  rw [Bool.eq_iff_iff]
  simp only [Bool.and_eq_true, decide_eq_true_eq, Pair.mk.injEq, and_true]
theorem jbG : KeyOK Tryz.prog 126 (kR RPr) := KeyOK.row RPr (fun w => Tryz.runUnderlying126 w) (fun x => (.int (fun w => Tryz.isAgg3 w) (fun w => Tryz.runUnderlying3 w) rfl (.int (fun w => Tryz.isAgg3 w) (fun w => Tryz.runUnderlying3 w) rfl .nil))) jbM (fun x => by cases x; simp [RPr, Instr.sameBits])
def reachL (n : Nat) (mp : List (Pair × Bool)) (t : Int) : List Int := ((List.range n).map fun k : Nat => (k : Int)).filter fun k => (aget mp ⟨t, k⟩).getD false
structure RdReach (b2 b3 bd bm : Nat) (t : Int) (q : Option Addr) (n c : Nat) (mp : List (Pair × Bool)) (w : World) : Prop where
  c2 : w.cell? ⟨b2, 0, none⟩ = some (ptr bd 0)
  c3 : w.cell? ⟨b3, 0, none⟩ = some (.int .i64 t)
  st : w.cell? ⟨bd, 0, none⟩ = some (.slice q n c)
  mc : w.cell? ⟨bd, 2, none⟩ = some (.map (some bm))
  mo : w.heap[bm]? = some (gobj (kR RPr) kB mp)
def rIdx (mp : List (Pair × Bool)) (t : Int) (k : Nat) : Nat := (reachL k mp t).length
theorem reachL_succ {mp : List (Pair × Bool)} {t : Int} {k : Nat} : reachL (k + 1) mp t = if (aget mp ⟨t, (k : Int)⟩).getD false = true then reachL k mp t ++ [(k : Int)] else reachL k mp t := by
  unfold reachL
  rw [List.range_succ, List.map_append, List.filter_append]
  simp only [List.map_cons, List.map_nil, List.filter_cons, List.filter_nil]
  split <;> simp_all
theorem reachL_pre {mp : List (Pair × Bool)} {t : Int} {k n : Nat} (h : k ≤ n) : ∃ r, reachL n mp t = reachL k mp t ++ r := by
  induction n with
  | zero => obtain rfl : k = 0 := by omega
            exact ⟨[], by simp⟩
  | succ n ih =>
    by_cases hk : k = n + 1
    · subst hk; exact ⟨[], by simp⟩
    · obtain ⟨r, hr⟩ := ih (by omega)
      rw [reachL_succ]
      split
      · exact ⟨r ++ [(n : Int)], by rw [hr, List.append_assoc]⟩
      · exact ⟨r, hr⟩
theorem reach_at {mp : List (Pair × Bool)} {t : Int} {k n : Nat} (h : k < n) (hr : (aget mp ⟨t, (k : Int)⟩).getD false = true) : ((reachL n mp t).map (fun k => Value.int .i64 k))[rIdx mp t k]? = some (.int .i64 (k : Int)) ∧ rIdx mp t (k + 1) = rIdx mp t k + 1 := by
  obtain ⟨r, h1⟩ := reachL_pre (mp := mp) (t := t) (show k + 1 ≤ n by omega)
  have h2 := reachL_succ (mp := mp) (t := t) (k := k)
  rw [if_pos hr] at h2
  constructor
  · rw [List.getElem?_map, h1, h2, List.append_assoc, rIdx, List.getElem?_append_right (Nat.le_refl _)]
    simp
  · unfold rIdx
    rw [h2]
    simp
theorem reach_no {mp : List (Pair × Bool)} {t : Int} {k : Nat} (hr : ¬ (aget mp ⟨t, (k : Int)⟩).getD false = true) : rIdx mp t (k + 1) = rIdx mp t k := by
  unfold rIdx
  rw [reachL_succ, if_neg hr]
set_option maxRecDepth 100000 in
theorem it_reach0 (w0 : World) (M : List Nat) (ro : List Sg) (b2 b3 bd bm : Nat) (t : Int) (q : Option Addr) (n c : Nat) (mp : List (Pair × Bool)) (hn : n ≤ 1000000) :
    ItX Tryz.prog 112 [ptr b2 0, ptr b3 0] ((reachL n mp t).map (fun k => Value.int .i64 k)) w0 M ro (RdReach b2 b3 bd bm t q n c mp) := by
  intro γ Y St Sp l hrd hrdS hy g0 h0 w X0 hh
  refine jay (args := [.func (.yield l) #[] #[], ptr b2 0, ptr b3 0]) Tryz.func112 rfl Tryz.ntmps112 rfl (e := [(0, _), (1, _), (2, _)]) rfl (hh) ?_
  refine jk ?_
  refine jh ?_
  refine jc rfl rfl rfl (fun w hh => j0 (Tryz.isAgg107 w) rfl (hrd 0 g0 X0 w h0 hh).c2) ?_
  refine jc rfl rfl rfl (fun _ _ => jN rfl) ?_
  refine jc rfl rfl rfl (fun w _ => kT 0 (Tryz.runUnderlying144 w) rfl (Tryz.sizeOf25 w) rfl) ?_
  refine jc rfl rfl rfl (fun w _ => kT 0 (Tryz.runUnderlying25 w) rfl (Tryz.sizeOf22 w) rfl) ?_
  refine jc rfl rfl rfl (fun w hh => j0 (Tryz.isAgg22 w) rfl (hrd 0 g0 X0 w h0 hh).st) ?_
  refine jc rfl rfl rfl (fun w _ => jbq (Tryz.runUnderlying22 w) rfl) ?_
  refine jc rfl rfl rfl (fun _ _ => k7 rfl) ?_
  refine jv ?_
  refine ja ?_
  refine jl ?_
  refine jat (e' := [(11, _), (0, _), (1, _), (2, _), (10, _)]) ((.cons rfl (.cons rfl (.cons rfl (.cons rfl (.cons rfl .nil)))))) ?_
  refine jbj (ι := Nat × γ) (fun (k, g) => [(11, .int .i64 (k : Nat))]) (fun (k, g) => Y g) (fun (k, g) => k ≤ n ∧ St (rIdx mp t k) g) (fun (k, g) => n - k) (0, g0) (⟨Nat.zero_le _, h0⟩) ?_
  intro ⟨k, g⟩ hI0
  simp only at hI0
  refine jk ?_
  refine jh ?_
  refine jc rfl rfl rfl (fun _ _ => Z5 rfl rfl) ?_
  refine jv ?_
  refine ja ?_
  refine jk ?_
  refine jq rfl (fun hc => ?_) (fun hc => ?_)
  · replace hc := of_decide_eq_true hc
    have hc' : k < n := by omega
    refine jt ?_
    refine ja ?_
    refine jk ?_
    refine jl ?_
    refine jk ?_
    refine jh ?_
    refine jc rfl rfl rfl (fun _ _ => k7 rfl) ?_
    refine jc rfl rfl rfl (fun _ _ => jQ rfl) ?_
    refine jv ?_
    refine ja ?_
    refine jk ?_
    refine jV none (.hoist 0 (.free 1 (.free 2 (.hoist 3 (.hoist 4 (.free 5 (.free 6 (.hoist 7 (.free 8 (.free 9 (.free 10 (.one 11 (.free 12 (.free 13 .done)))))))))))))) (RdReach b2 b3 bd bm t q n c mp) rfl (by decide +kernel) (fun w k hh => HS.draw hh k) (fun w hh => hrd _ g X0 w hI0.2 hh) ?_
    refine jA rfl rfl rfl rfl (fun w hh => j0 (Tryz.isAgg107 w) rfl hh.c2) ?_
    refine ji rfl rfl rfl rfl (fun w hh => jN rfl) ?_
    refine ji rfl rfl rfl rfl (fun w hh => kT 2 (Tryz.runUnderlying144 w) rfl (Tryz.sizeOf142 w) rfl) ?_
    refine jA rfl rfl rfl rfl (fun w hh => j0 (Tryz.isAgg142 w) rfl hh.mc) ?_
    refine jA rfl rfl rfl rfl (fun w hh => j0 (Tryz.isAgg3 w) rfl hh.c3) ?_
    refine ji rfl rfl rfl rfl (fun w hh => k7 rfl) ?_
    refine ji rfl rfl rfl rfl (fun w hh => jG (vs := [(0, _), (1, _)]) (cells := [_, _]) rfl rfl) ?_
    refine jA rfl rfl rfl rfl (fun w hh => Z4 (k := (⟨t, (k : Int)⟩ : Pair)) (z := false) (Tryz.runUnderlying142 w) jbG (Tryz.zeroValue4 w) rfl rfl hh.mo) ?_
    refine ji rfl rfl rfl rfl (fun w hh => k7 rfl) ?_
    refine jH 22 rfl (fun hA => ?_) (fun hA => ?_)
    · obtain ⟨hat, hix⟩ := reach_at hc' hA
      refine jP rfl rfl rfl rfl rfl rfl (fun w hh => k7 rfl) ?_
      refine jP rfl rfl rfl rfl rfl rfl (fun w hh => k7 rfl) ?_
      refine jJ rfl ?_
      refine jb rfl rfl ?_
      refine jaT (ι := γ × Bool) (ret := fun z => .bool z.2) (H' := fun z w' => (if z.2 = true then St (rIdx mp t (k + 1)) z.1 else Sp z.1) ∧ HS w0 M (Y z.1 ++ X0) ro w') rfl rfl (fun a he => rfl) rfl rfl rfl (fun w hh => ?_) ?_
      · refine (hy _ _ g X0 w hat hI0.2 hh).mono ?_
        rintro en w' (⟨rfl, g', hs', hh'⟩ | ⟨rfl, g', hs', hh'⟩)
        · exact ⟨(g', true), rfl, by rw [hix]; exact hs', hh'⟩
        · exact ⟨(g', false), rfl, hs', hh'⟩
      intro ⟨g2, b⟩
      cases b with
      | true =>
      refine jaA (fun w hh => hh.1) (fun hsg2 => ?_)
      replace hsg2 : St (rIdx mp t (k + 1)) g2 := hsg2
      refine G.pre (H' := HS w0 M (Y g2 ++ X0) ro) ?_ (fun w hh => hh.2)
      refine jr (fun w hh => hrd _ g2 X0 w hsg2 hh) ?_
      refine jP rfl rfl rfl rfl rfl rfl (fun w hh => kV rfl) ?_
      refine ji rfl rfl rfl rfl (fun w hh => yT rfl rfl) ?_
      refine jI ?_
      refine ja ?_
      refine yr rfl rfl ?_
      refine jt ?_
      refine js ?_
      refine ja ?_
      refine jh ?_
      refine jc rfl rfl rfl (fun _ _ => jbn rfl rfl (wrap_i64 (by omega))) ?_
      refine jc rfl rfl rfl (fun _ _ => k7 rfl) ?_
      refine jv ?_
      refine ja ?_
      exact jai (i := ⟨k, g⟩) (k + 1, g2) 0 ((.cons rfl (.cons rfl (.cons rfl (.cons rfl (.cons rfl .nil)))))) rfl (⟨by omega, hsg2⟩) (by simp only; omega)
      | false =>
      refine jaA (fun w hh => hh.1) (fun hsg2 => ?_)
      replace hsg2 : Sp g2 := hsg2
      refine G.pre (H' := HS w0 M (Y g2 ++ X0) ro) ?_ (fun w hh => hh.2)
      refine jr (fun w hh => hrdS g2 X0 w hsg2 hh) ?_
      refine jP rfl rfl rfl rfl rfl rfl (fun w hh => kV rfl) ?_
      refine ji rfl rfl rfl rfl (fun w hh => yT rfl rfl) ?_
      refine jI ?_
      refine ja ?_
      refine Jg rfl rfl ?_
      refine jw ?_
      refine jz ?_
      refine jf ?_
      refine jf ?_
      refine jz ?_
      refine jn rfl (fun w hh => .nil) (fun w hh => ⟨_, rfl, g2, .inr hsg2, hh⟩)
    · have hA' : ¬ (aget mp ⟨t, (k : Int)⟩).getD false = true := by rw [hA]; decide
      have hno := reach_no (k := k) hA'
      refine jL rfl rfl rfl rfl rfl rfl rfl ?_
      refine jL rfl rfl rfl rfl rfl rfl rfl ?_
      refine jJ rfl ?_
      refine jaO rfl rfl rfl rfl rfl rfl ?_
      refine jr (fun w hh => hrd _ g X0 w hI0.2 hh) ?_
      refine jL rfl rfl rfl rfl rfl rfl rfl ?_
      refine ji rfl rfl rfl rfl (fun w hh => yW rfl rfl) ?_
      refine jI ?_
      refine ja ?_
      refine yr rfl rfl ?_
      refine jt ?_
      refine js ?_
      refine ja ?_
      refine jh ?_
      refine jc rfl rfl rfl (fun _ _ => jbn rfl rfl (wrap_i64 (by omega))) ?_
      refine jc rfl rfl rfl (fun _ _ => k7 rfl) ?_
      refine jv ?_
      refine ja ?_
      exact jai (i := ⟨k, g⟩) (k + 1, g) 0 ((.cons rfl (.cons rfl (.cons rfl (.cons rfl (.cons rfl .nil)))))) rfl (⟨by omega, by rw [hno]; exact hI0.2⟩) (by simp only; omega)
  · replace hc := of_decide_eq_false hc
    refine jO ?_
    refine jj ?_
    refine jj ?_
    refine jC ?_
    have ek : k = n := by omega
    subst ek
    refine JP rfl (fun w hh => .nil) (fun w hh => ⟨_, rfl, g, .inl (by simpa [rIdx] using hI0.2), hh⟩)
theorem it_reach (w0 : World) (M : List Nat) (ro : List Sg) (b2 b3 bd bm : Nat) (t : Int) (q : Option Addr) (n c : Nat) (l : List Strip) (mp : List (Pair × Bool)) (hl : l.length = n) (hn : (l.length : Int) ≤ 1000000) :
    ItX Tryz.prog 112 [ptr b2 0, ptr b3 0] ((reachL l.length mp t).map (fun k => Value.int .i64 k)) w0 M ro (RdReach b2 b3 bd bm t q n c mp) := by
  subst hl
  exact it_reach0 w0 M ro b2 b3 bd bm t q _ c mp (by omega)
end Go.Proofs.Ws

