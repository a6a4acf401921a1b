/- What the functions that the law TideLooks reaches come to, and why it holds: part 5. -/
import Derived.Test.YtaicfimbclibpaaTideLooks4
namespace Go.Proofs.Wk
open Go Go.Gx Go.Pl
set_option linter.unusedVariables false
/-! ### the reference's gates -/
theorem has_eq {l : List Int} {n : Int} (hl : l.length ≤ 1000000) : m_laurelref01_has l n = some (hasI l n) := by
  unfold m_laurelref01_has
  have key := iterM_any0 (f := m_laurelref01_has_L0 l n) l.length (fun k => decide (l.getD k 0 = n)) true (fun k hk => by
    unfold m_laurelref01_has_L0
    rw [if_pos (by omega), ix_nat 0 hk, Option.bind_some]
    by_cases h : l.getD k 0 = n
    · rw [if_pos h]; simpa using h
    · rw [if_neg h, addc_eq (by omega), Option.bind_some]; simpa using h) (by
    unfold m_laurelref01_has_L0
    rw [if_neg (by omega)]) (N := FU) (FU_lt (by omega))
  rw [key, Option.bind_some]
  have e : (List.range l.length).any (fun k => decide (l.getD k 0 = n)) = hasI l n := by
    rw [any_range (l := l) (d := 0) (p := fun x => decide (x = n))]
    unfold hasI
    congr 1
    funext x
    rw [Bool.eq_iff_iff]; simp [eq_comm]
  rw [e]
  cases hasI l n <;> rfl
/-- one step of the water -/
structure Stp (s : Sands) (sl pl : List Int) (h a q : Int) (k : Nat) : Prop where
  kl : k < s.sills.length
  jn : joins (s.sills.getD k default) a q
  qn : 0 ≤ q
  sn : hasI sl (k : Int) = false
  pn : hasI pl q = false
  hh : (s.sills.getD k default).h ≤ h
  ff : s.floors.getD q.toNat 0 ≤ h
/-- a way on, that meets no place twice -/
inductive Path (s : Sands) (sl pl : List Int) (h to : Int) : List Int → Int → Prop
  | done {met : List Int} : Path s sl pl h to met to
  | step {met : List Int} {a q : Int} {k : Nat} : Stp s sl pl h a q k → q ∉ met → Path s sl pl h to (met ++ [q]) q → Path s sl pl h to met a
/-- what water reaches, some sills and places left out -/
inductive Rch (s : Sands) (sl pl : List Int) (h : Int) : Int → Prop
  | sea : Rch s sl pl h (-1)
  | step {a q : Int} {k : Nat} : Rch s sl pl h a → Stp s sl pl h a q k → Rch s sl pl h q
theorem Path.rch {s : Sands} {sl pl : List Int} {h to : Int} {met : List Int} {a : Int} (p : Path s sl pl h to met a) (ha : Rch s sl pl h a) : Rch s sl pl h to := by
  induction p with
  | done => exact ha
  | step hs _ _ ih => exact ih (.step ha hs)
/-- steps one behind the other -/
def Chn (s : Sands) (sl pl : List Int) (h : Int) : Int → List Int → Prop
  | _, [] => True
  | a, q :: l => (∃ k, Stp s sl pl h a q k) ∧ Chn s sl pl h q l
def endOf : Int → List Int → Int
  | a, [] => a
  | _, q :: l => endOf q l
theorem Chn.snoc {s : Sands} {sl pl : List Int} {h q : Int} {k : Nat} : ∀ {l : List Int} {a : Int}, Chn s sl pl h a l → Stp s sl pl h (endOf a l) q k → Chn s sl pl h a (l ++ [q]) ∧ endOf a (l ++ [q]) = q
  | [], a, _, hs => ⟨⟨⟨k, hs⟩, trivial⟩, rfl⟩
  | x :: l, a, hc, hs => by
    obtain ⟨h1, h2⟩ := Chn.snoc (l := l) (a := x) hc.2 hs
    exact ⟨⟨hc.1, h1⟩, h2⟩
theorem Chn.drop {s : Sands} {sl pl : List Int} {h q : Int} : ∀ {l b : List Int} {a : Int}, Chn s sl pl h a (l ++ q :: b) → Chn s sl pl h q b ∧ endOf a (l ++ q :: b) = endOf q b
  | [], b, a, hc => ⟨hc.2, rfl⟩
  | x :: l, b, a, hc => Chn.drop (l := l) hc.2
theorem Chn.once {s : Sands} {sl pl : List Int} {h : Int} : ∀ (l : List Int) (a : Int), Chn s sl pl h a l → ∃ l', Chn s sl pl h a l' ∧ endOf a l' = endOf a l ∧ l'.Nodup
  | [], a, _ => ⟨[], trivial, rfl, List.nodup_nil⟩
  | q :: l, a, hc => by
    obtain ⟨l', h1, h2, h3⟩ := Chn.once l q hc.2
    by_cases hq : q ∈ l'
    · obtain ⟨x, y, rfl⟩ := List.append_of_mem hq
      obtain ⟨h4, h5⟩ := Chn.drop h1
      have h6 : (q :: y).Nodup := (List.nodup_append.1 h3).2.1
      exact ⟨q :: y, ⟨hc.1, h4⟩, by show endOf q y = endOf q l; rw [← h5, h2], h6⟩
    · exact ⟨q :: l', ⟨hc.1, h1⟩, h2, List.nodup_cons.2 ⟨hq, h3⟩⟩
theorem Chn.path {s : Sands} {sl pl : List Int} {h : Int} : ∀ (l : List Int) (a : Int) (met : List Int), Chn s sl pl h a l → l.Nodup → (∀ x ∈ l, x ∉ met) → Path s sl pl h (endOf a l) met a
  | [], a, met, _, _, _ => .done
  | q :: l, a, met, hc, hn, hm => by
    obtain ⟨k, hk⟩ := hc.1
    have h1 := List.nodup_cons.1 hn
    refine .step hk (hm q List.mem_cons_self) (Chn.path l q (met ++ [q]) hc.2 h1.2 (fun x hx hxm => ?_))
    rcases List.mem_append.1 hxm with h2 | h2
    · exact hm x (List.mem_cons_of_mem _ hx) h2
    · simp at h2; subst h2; exact h1.1 hx
theorem Rch.path {s : Sands} {sl pl : List Int} {h q : Int} (r : Rch s sl pl h q) : Path s sl pl h q [] (-1) := by
  have : ∃ l, Chn s sl pl h (-1) l ∧ endOf (-1) l = q := by
    induction r with
    | sea => exact ⟨[], trivial, rfl⟩
    | step _ hs ih =>
      obtain ⟨l, h1, h2⟩ := ih
      subst h2
      exact ⟨_, Chn.snoc h1 hs⟩
  obtain ⟨l, h1, h2⟩ := this
  obtain ⟨l', h3, h4, h5⟩ := Chn.once l _ h1
  have := Chn.path l' (-1) [] h3 h5 (fun x _ hx => by simp at hx)
  rw [h4, h2] at this
  exact this
/-- what is met: places, each once -/
structure Met (s : Sands) (met : List Int) : Prop where
  nd : met.Nodup
  rg : ∀ x ∈ met, 0 ≤ x ∧ x < s.floors.length
theorem Met.len {s : Sands} {met : List Int} (h : Met s met) : met.length ≤ s.floors.length := by
  have h1 := nodup_map (f := fun k : Int => k.toNat) h.nd (fun x hx y hy he => by
    have a := h.rg x hx
    have b := h.rg y hy
    have hc : x.toNat = y.toNat := he
    omega)
  have h2 := nodup_lt s.floors.length _ h1 (fun x hx => by
    obtain ⟨k, hk, rfl⟩ := List.mem_map.1 hx
    have a := h.rg k hk
    have : (fun k : Int => k.toNat) k = k.toNat := rfl
    omega)
  simpa using h2
theorem Met.snoc {s : Sands} {met : List Int} (h : Met s met) {q : Int} (hq : 0 ≤ q ∧ q < s.floors.length) (hn : q ∉ met) : Met s (met ++ [q]) := by
  refine ⟨List.nodup_append.2 ⟨h.nd, by simp, fun a ha b hb hab => ?_⟩, fun x hx => ?_⟩
  · simp at hb; subst hb; subst hab; exact hn ha
  · rcases List.mem_append.1 hx with hx | hx
    · exact h.rg x hx
    · simp at hx; subst hx; exact hq
theorem hasI_iff {l : List Int} {n : Int} : hasI l n = true ↔ n ∈ l := by
  unfold hasI
  rw [List.any_eq_true]
  constructor
  · rintro ⟨x, hx, h⟩; have := of_decide_eq_true h; subst this; exact hx
  · intro h; exact ⟨n, h, by simp⟩
/-- what 'least' says -/
structure LOK (s : Sands) (sl pl : List Int) (to : Int) (met : List Int) (a crest v : Int) : Prop where
  snd : v = 5000 ∨ ((crest ≤ v ∧ v ≤ 999) ∧ Path s sl pl v to met a)
  cmp : ∀ h, crest ≤ h → Path s sl pl h to met a → v ≤ h
theorem joins_one {x : Sill} {a p q : Int} (hne : x.a ≠ x.b) (h1 : joins x a p) (h2 : joins x a q) : p = q := by
  rcases h1 with ⟨h3, h4⟩ | ⟨h3, h4⟩ <;> rcases h2 with ⟨h5, h6⟩ | ⟨h5, h6⟩ <;> omega
/-- the loop's state -/
structure LIn (s : Sands) (sl pl : List Int) (to : Int) (met : List Int) (a crest out : Int) (i : Nat) : Prop where
  snd : out = 5000 ∨ ((crest ≤ out ∧ out ≤ 999) ∧ Path s sl pl out to met a)
  cmp : ∀ h (k : Nat) q, crest ≤ h → k < i → Stp s sl pl h a q k → q ∉ met → Path s sl pl h to (met ++ [q]) q → out ≤ h
theorem LIn.skip {s : Sands} {sl pl : List Int} {to : Int} {met : List Int} {a crest out : Int} {i : Nat} (h : LIn s sl pl to met a crest out i) (hs : ∀ h q, Stp s sl pl h a q i → q ∉ met → False) : LIn s sl pl to met a crest out (i + 1) := by
  refine ⟨h.snd, fun hh k q hc hk hst hq hp => ?_⟩
  by_cases he : k = i
  · subst he; exact (hs hh q hst hq).elim
  · exact h.cmp hh k q hc (by omega) hst hq hp
theorem least_tail {s : Sands} (hG : Good s) {sl pl : List Int} (hsl : sl.length ≤ 1000) (hpl : pl.length ≤ 1000) {to : Int} {met : List Int} (hm : Met s met) {a crest out : Int} (hcr : 0 ≤ crest ∧ crest ≤ 999) {i : Nat} (hi : i < s.sills.length) (hL : LIn s sl pl to met a crest out i)
    {rec_ : Sands → Int → List Int → Int → Int → List Int → List Int → Option Int}
    (hrec : ∀ q c : Int, 0 ≤ q ∧ q < s.floors.length → q ∉ met → 0 ≤ c ∧ c ≤ 999 → ∃ v, rec_ s q (met ++ [q]) c to sl pl = some v ∧ LOK s sl pl to (met ++ [q]) q c v)
    {nx : Int} (hj : joins (s.sills.getD i default) a nx) :
    ∃ out', ((if nx < 0 then some true else
      (m_laurelref01_has met nx).bind fun t53 => if t53 = true then some true else
        (m_laurelref01_has sl (i : Int)).bind fun t58 => if t58 = true then some true else
          (m_laurelref01_has pl nx).bind fun t63 => some t63).bind fun o_4 =>
      if o_4 = true then some out else
        (appc 8 [] met).bind fun t67 => (appc 8 t67 [nx]).bind fun t70 => (ix s.floors nx).bind fun t81 =>
          (rec_ s nx t70 (max (max crest (s.sills.getD i default).h) t81) to sl pl).bind fun t87 => some (min out t87)) = some out' ∧ LIn s sl pl to met a crest out' (i + 1) := by
  have hne := hG.ne i hi
  have ha := hG.sa i hi
  have hb := hG.sb i hi
  have hsh := hG.sh i hi
  have hml := hm.len
  have hfl := hG.fl
  have hnx : -1 ≤ nx ∧ nx < s.floors.length := by rcases hj with ⟨h1, h2⟩ | ⟨h1, h2⟩ <;> omega
  by_cases h0 : nx < 0
  · rw [if_pos h0, Option.bind_some, if_pos rfl]
    exact ⟨_, rfl, hL.skip fun h q hst _ => by
      have := joins_one hne hj hst.jn
      have := hst.qn
      omega⟩
  rw [if_neg h0, has_eq (by omega), Option.bind_some]
  by_cases h1 : hasI met nx = true
  · rw [if_pos h1, Option.bind_some, if_pos rfl]
    exact ⟨_, rfl, hL.skip fun h q hst hq => by
      have := joins_one hne hj hst.jn
      subst this
      exact hq (hasI_iff.1 h1)⟩
  rw [if_neg h1, has_eq (by omega), Option.bind_some]
  by_cases h2 : hasI sl (i : Int) = true
  · rw [if_pos h2, Option.bind_some, if_pos rfl]
    exact ⟨_, rfl, hL.skip fun h q hst hq => by
      have := hst.sn
      rw [h2] at this
      exact absurd this (by decide)⟩
  rw [if_neg h2, has_eq (by omega), Option.bind_some, Option.bind_some]
  by_cases h3 : hasI pl nx = true
  · rw [if_pos h3]
    exact ⟨_, rfl, hL.skip fun h q hst hq => by
      have := joins_one hne hj hst.jn
      subst this
      have := hst.pn
      rw [h3] at this
      exact absurd this (by decide)⟩
  have hflo := hG.flo nx.toNat (by omega)
  have hnm : nx ∉ met := fun h => h1 (hasI_iff.2 h)
  rw [if_neg h3, appc_eq (by simp only [List.length_nil]; omega), Option.bind_some, List.nil_append, appc_eq (by simp only [List.length_singleton]; omega), Option.bind_some, ix_eq 0 (by omega) hnx.2, Option.bind_some]
  obtain ⟨v, hv, hok⟩ := hrec nx (max (max crest (s.sills.getD i default).h) (s.floors.getD nx.toNat 0)) ⟨by omega, hnx.2⟩ hnm (by omega)
  rw [hv, Option.bind_some]
  refine ⟨_, rfl, ?_, fun h k q hc hk hst hq hp => ?_⟩
  · rcases hok.snd with rfl | ⟨hvb, hvp⟩
    · rcases hL.snd with rfl | h4
      · left; omega
      · right
        rw [show min out 5000 = out by omega]
        exact h4
    · have hstep : Path s sl pl v to met a := by
        refine .step (k := i) (q := nx) ⟨hi, hj, by omega, ?_, ?_, by omega, by omega⟩ hnm hvp
        · cases h5 : hasI sl (i : Int) with
          | false => rfl
          | true => exact absurd h5 h2
        · cases h5 : hasI pl nx with
          | false => rfl
          | true => exact absurd h5 h3
      right
      rcases hL.snd with rfl | ⟨h4, h5⟩
      · rw [show min 5000 v = v by omega]
        exact ⟨⟨by omega, hvb.2⟩, hstep⟩
      · by_cases h6 : out ≤ v
        · rw [show min out v = out by omega]
          exact ⟨h4, h5⟩
        · rw [show min out v = v by omega]
          exact ⟨⟨by omega, hvb.2⟩, hstep⟩
  · by_cases he : k = i
    · subst he
      have := joins_one hne hj hst.jn
      subst this
      have h4 := hst.hh
      have h5 := hst.ff
      have := hok.cmp h (by omega) hp
      omega
    · have := hL.cmp h k q hc (by omega) hst hq hp
      omega
theorem least_step {s : Sands} (hG : Good s) {sl pl : List Int} (hsl : sl.length ≤ 1000) (hpl : pl.length ≤ 1000) {to : Int} {met : List Int} (hm : Met s met) {a crest out : Int} (hcr : 0 ≤ crest ∧ crest ≤ 999) {i : Nat} (hi : i < s.sills.length) (hL : LIn s sl pl to met a crest out i)
    {rec_ : Sands → Int → List Int → Int → Int → List Int → List Int → Option Int}
    (hrec : ∀ q c : Int, 0 ≤ q ∧ q < s.floors.length → q ∉ met → 0 ≤ c ∧ c ≤ 999 → ∃ v, rec_ s q (met ++ [q]) c to sl pl = some v ∧ LOK s sl pl to (met ++ [q]) q c v) :
    ∃ out', m_laurelref01_least_L0 s a met sl pl rec_ crest to ⟨out, (i : Int)⟩ = some (.inl ⟨out', ((i + 1 : Nat) : Int)⟩) ∧ LIn s sl pl to met a crest out' (i + 1) := by
  have hne := hG.ne i hi
  have hsll := hG.sl
  have hadd : addc (i : Int) 1 = some ((i + 1 : Nat) : Int) := by rw [addc_eq (by omega)]; exact congrArg some (by omega)
  unfold m_laurelref01_least_L0
  dsimp only
  rw [if_pos (by omega), ix_nat default hi, Option.bind_some]
  by_cases ha : (s.sills.getD i default).a = a
  · have hb : (s.sills.getD i default).b ≠ a := by omega
    obtain ⟨o, ho, hL'⟩ := least_tail hG hsl hpl hm hcr hi hL hrec (nx := (s.sills.getD i default).b) (.inl ⟨ha, rfl⟩)
    rw [if_pos ha, Option.bind_some, if_neg hb, Option.bind_some, ho, Option.bind_some, hadd, Option.bind_some]
    exact ⟨o, rfl, hL'⟩
  · rw [if_neg ha, Option.bind_some]
    by_cases hb : (s.sills.getD i default).b = a
    · obtain ⟨o, ho, hL'⟩ := least_tail hG hsl hpl hm hcr hi hL hrec (nx := (s.sills.getD i default).a) (.inr ⟨hb, rfl⟩)
      rw [if_pos hb, Option.bind_some, ho, Option.bind_some, hadd, Option.bind_some]
      exact ⟨o, rfl, hL'⟩
    · rw [if_neg hb, Option.bind_some, if_pos (by decide), Option.bind_some, if_pos rfl, Option.bind_some, hadd, Option.bind_some]
      exact ⟨_, rfl, hL.skip fun h q hst _ => hst.jn.elim (fun h1 => ha h1.1) (fun h1 => hb h1.1)⟩
theorem least_ok {s : Sands} (hG : Good s) {sl pl : List Int} (hsl : sl.length ≤ 1000) (hpl : pl.length ≤ 1000) {to : Int} : ∀ (d n : Nat), d < n → ∀ (a : Int) (met : List Int) (crest : Int), Met s met → s.floors.length - met.length ≤ d → 0 ≤ crest ∧ crest ≤ 999 →
    ∃ v, m_laurelref01_least n s a met crest to sl pl = some v ∧ LOK s sl pl to met a crest v
  | d, 0, h, _, _, _, _, _, _ => by omega
  | d, n + 1, hdn, a, met, crest, hm, hd, hcr => by
    have hrec : ∀ q c : Int, 0 ≤ q ∧ q < s.floors.length → q ∉ met → 0 ≤ c ∧ c ≤ 999 → ∃ v, m_laurelref01_least n s q (met ++ [q]) c to sl pl = some v ∧ LOK s sl pl to (met ++ [q]) q c v := fun q c hq hqm hc => by
      have h1 := hm.snoc hq hqm
      have h2 := h1.len
      simp only [List.length_append, List.length_singleton] at h2
      exact least_ok hG hsl hpl (d - 1) n (by omega) q (met ++ [q]) c h1 (by simp only [List.length_append, List.length_singleton]; omega) hc
    show ∃ v, m_laurelref01_least_B (m_laurelref01_least n) s a met crest to sl pl = some v ∧ _
    unfold m_laurelref01_least_B
    by_cases hat : a = to
    · rw [if_pos hat]
      subst hat
      exact ⟨_, rfl, .inr ⟨⟨Int.le_refl _, hcr.2⟩, .done⟩, fun h hc _ => hc⟩
    · rw [if_neg hat]
      obtain ⟨v, hv, hL⟩ := iterM_inv (f := m_laurelref01_least_L0 s a met sl pl (m_laurelref01_least n) crest to) (fun x => ∃ i : Nat, x.i16 = (i : Int) ∧ i ≤ s.sills.length ∧ LIn s sl pl to met a crest x.out15 i) (fun x => s.sills.length - x.i16.toNat) (fun v => LIn s sl pl to met a crest v s.sills.length)
        (fun x ⟨i, hi, hil, hL⟩ => by
          obtain ⟨out, i'⟩ := x
          simp only at hi hL
          subst hi
          by_cases hlt : i < s.sills.length
          · left
            obtain ⟨o, ho, hL'⟩ := least_step hG hsl hpl hm hcr hlt hL hrec
            exact ⟨_, ho, ⟨i + 1, rfl, by omega, hL'⟩, by simp only; omega⟩
          · right
            unfold m_laurelref01_least_L0
            dsimp only
            rw [if_neg (by omega)]
            have : i = s.sills.length := by omega
            subst this
            exact ⟨_, rfl, hL⟩) FU ⟨5000, 0⟩ (FU_lt (by have := hG.sl; simp only; omega)) ⟨0, rfl, by omega, .inl rfl, fun h k q _ hk => by omega⟩
      rw [hv, Option.bind_some]
      refine ⟨v, rfl, hL.snd, fun h hc hp => ?_⟩
      cases hp with
      | done => exact absurd rfl hat
      | step hst hq hp => exact hL.cmp h _ _ hc hst.kl hst hq hp
/-- the reference's least crest of all ways to a place -/
theorem least_spec {s : Sands} (hG : Good s) {sl pl : List Int} (hsl : sl.length ≤ 1000) (hpl : pl.length ≤ 1000) {p : Int} : ∃ v, m_laurelref01_least FU s (-1) [] 0 p sl pl = some v ∧ (v = 5000 ∨ ((0 ≤ v ∧ v ≤ 999) ∧ Rch s sl pl v p)) ∧ ∀ h, 0 ≤ h → Rch s sl pl h p → v ≤ h := by
  have hfl := hG.fl
  obtain ⟨v, hv, hok⟩ := least_ok hG hsl hpl (to := p) 8 FU (FU_lt (by omega)) (-1) [] 0 ⟨List.nodup_nil, fun x hx => by simp at hx⟩ (by simp; omega) (by omega)
  refine ⟨v, hv, ?_, fun h h0 hr => hok.cmp h h0 hr.path⟩
  rcases hok.snd with h | ⟨h1, h2⟩
  · exact .inl h
  · exact .inr ⟨h1, h2.rch .sea⟩
theorem rch_reach {s : Sands} {h p : Int} (r : Rch s [] [] h p) : Go.Pl.Reach s h p := by
  induction r with
  | sea => exact .sea
  | step _ hs ih => exact .step ih (mem_getD (d := (default : Sill)) hs.kl) hs.jn (by have := hs.qn; omega) hs.hh hs.ff
theorem reach_rch {s : Sands} (hG : Good s) {h p : Int} (r : Go.Pl.Reach s h p) : Rch s [] [] h p := by
  induction r with
  | sea => exact .sea
  | @step p q x hp hx hj hq h1 h2 ih =>
    obtain ⟨k, hk, rfl⟩ := List.mem_iff_getElem.1 hx
    have e : s.sills.getD k default = s.sills[k] := by simp [List.getD_eq_getElem?_getD, hk]
    have ha := hG.sa k hk
    have hb := hG.sb k hk
    rw [e] at ha hb
    exact .step ih (k := k) ⟨hk, by rw [e]; exact hj, by rcases hj with ⟨h3, h4⟩ | ⟨h3, h4⟩ <;> omega, rfl, rfl, by rw [e]; exact h1, h2⟩
/-- the reference's gate, by ours -/
def refGate (g : Int) : Int := if g = 1000 then 5000 else g
theorem refgate_eq {s : Sands} (hG : Good s) {p : Int} (hp : isPlace s p = true) : m_laurelref01_Gate s p = some (refGate ((gatesOf s).getD p.toNat 0)) := by
  have hpl := isPlace_iff.1 hp
  have hfl := hG.fl
  obtain ⟨v, hv, h1, h2⟩ := least_spec hG (sl := []) (pl := []) (by simp) (by simp) (p := p)
  unfold m_laurelref01_Gate
  rw [hv, Option.bind_some]
  congr 1
  have hgo := gates_ok (s := s)
  have k0 := hgo.lo p.toNat
  have k1 := hgo.hi p.toNat
  have e : ((p.toNat : Nat) : Int) = p := by omega
  unfold refGate
  by_cases hg : (gatesOf s).getD p.toNat 0 = 1000
  · rw [if_pos hg]
    rcases h1 with h1 | ⟨h1, h3⟩
    · exact h1
    · rcases gates_le hG h1.1 (rch_reach h3) with h4 | h4 <;> omega
  · rw [if_neg hg]
    have h5 := gates_snd hG p.toNat (by omega) (by omega)
    rw [e] at h5
    have h6 := h2 _ k0 (reach_rch hG h5)
    rcases h1 with h1 | ⟨h1, h3⟩
    · omega
    · rcases gates_le hG h1.1 (rch_reach h3) with h4 | h4
      · omega
      · have := h4.2; omega
end Go.Proofs.Wk

namespace Go.Proofs.Wk
open Go Go.Gx Go.Pl
set_option linter.unusedVariables false
theorem theirs_eq {s : Sands} (h : Short s) : m_laurellaw01_theirs s = some s := by
  have h1 := h.t
  have h2 := h.f
  have h3 := h.s
  unfold m_laurellaw01_theirs
  rw [dup_int (by omega)]
  simp only [Option.bind_some]
  have e1 : iterM FU (m_laurellaw01_theirs_L0 s) ⟨0, []⟩ = some s.table := by
    refine iterM_run (fun k => (⟨(k : Int), s.table.take k⟩ : m_laurellaw01_theirs_S0)) s.table.length (fun k hk => ?_) ?_ FU (FU_lt (by omega))
    · unfold m_laurellaw01_theirs_L0
      simp only
      rw [if_pos (by omega), ix_nat default hk, Option.bind_some, appc_eq (by simp; omega), Option.bind_some, addc_eq (by omega), Option.bind_some, take_snoc default hk]
      simp
    · unfold m_laurellaw01_theirs_L0
      simp
  have e2 : iterM FU (m_laurellaw01_theirs_L1 s) ⟨0, []⟩ = some s.sills := by
    refine iterM_run (fun k => (⟨(k : Int), s.sills.take k⟩ : m_laurellaw01_theirs_S1)) s.sills.length (fun k hk => ?_) ?_ FU (FU_lt (by omega))
    · unfold m_laurellaw01_theirs_L1
      simp only
      rw [if_pos (by omega), ix_nat default hk, Option.bind_some, appc_eq (by simp; omega), Option.bind_some, addc_eq (by omega), Option.bind_some, take_snoc default hk]
      simp
    · unfold m_laurellaw01_theirs_L1
      simp
  rw [e1, e2]
  rfl
/-! ### comparisons -/
theorem equal_water (a : List Water) (ha : a.length ≤ 1000) : m_slices_Equal_tideWatertideWater a a = some true := by
  unfold m_slices_Equal_tideWatertideWater
  rw [if_pos rfl, iterM_any0 a.length (fun _ => false) false (fun k hk => ?_) (by unfold m_slices_Equal_tideWatertideWater_L0; simp) (FU_lt (by omega))]
  · simp
  · unfold m_slices_Equal_tideWatertideWater_L0
    rw [if_pos (by omega), ix_nat default hk, Option.bind_some, Option.bind_some, if_pos rfl, addc_eq (by omega)]
    simp
theorem equal_int (a : List Int) (ha : a.length ≤ 1000) : m_slices_Equal_intint a a = some true := by
  unfold m_slices_Equal_intint
  rw [if_pos rfl, iterM_any0 a.length (fun _ => false) false (fun k hk => ?_) (by unfold m_slices_Equal_intint_L0; simp) (FU_lt (by omega))]
  · simp
  · unfold m_slices_Equal_intint_L0
    rw [if_pos (by omega), ix_nat default hk, Option.bind_some, Option.bind_some, if_pos rfl, addc_eq (by omega)]
    simp
theorem equal_sill (a : List Sill) (ha : a.length ≤ 1000) : m_slices_Equal_tideSilltideSill a a = some true := by
  unfold m_slices_Equal_tideSilltideSill
  rw [if_pos rfl, iterM_any0 a.length (fun _ => false) false (fun k hk => ?_) (by unfold m_slices_Equal_tideSilltideSill_L0; simp) (FU_lt (by omega))]
  · simp
  · unfold m_slices_Equal_tideSilltideSill_L0
    rw [if_pos (by omega), ix_nat default hk, Option.bind_some, Option.bind_some, if_pos rfl, addc_eq (by omega)]
    simp
theorem same_eq {s : Sands} (h : Short s) : m_laurellaw01_same s s = some true := by
  have h1 := h.t
  have h2 := h.f
  have h3 := h.s
  unfold m_laurellaw01_same m_laurelkit_Eq_tideWater m_laurelkit_Eq_int m_laurelkit_Eq_tideSill
  rw [equal_water _ (by omega), equal_int _ (by omega), equal_sill _ (by omega)]
  simp
/-! ### the reference's errors -/
theorem off_eq {n lo hi : Int} : m_laurelref01_off n lo hi = some (!inr n lo hi) := by
  unfold m_laurelref01_off inr
  by_cases h : n < lo
  · have h2 : decide (lo ≤ n) = false := decide_eq_false (by omega)
    simp [h, h2]
  · have h2 : decide (lo ≤ n) = true := decide_eq_true (by omega)
    have h3 : (!decide (n ≤ hi)) = decide (hi < n) := by
      by_cases h4 : n ≤ hi
      · simp [h4]
      · have h5 : hi < n := by omega
        simp [h4, h5]
    simp [h, h2, h3]
theorem or_some {a b : Bool} : ((if a = true then some true else some b) : Option Bool) = some (a || b) := by cases a <;> rfl
theorem ite_bool {α : Type} {b : Bool} {x y : α} : (if b = true then some x else some y) = some (if b = true then x else y) := by cases b <;> rfl
theorem ite_dec {α : Type} {p : Prop} [Decidable p] {x y : α} : (if p then some x else some y) = some (if decide p = true then x else y) := by by_cases h : p <;> simp [h]
theorem check_L0 {s : Sands} (h : Short s) : iterM FU (m_laurelref01_Check_L0 s) 0 = some (if s.table.all bigW then .inl () else .inr 3) := by
  have h1 := h.t
  rw [iterM_any0 s.table.length (fun k => !bigW (s.table.getD k default)) 3 (fun k hk => ?_) (by unfold m_laurelref01_Check_L0; simp) (FU_lt (by omega))]
  · rw [any_range (p := fun x => !bigW x) (d := default)]
    have := all_not_any (p := fun x => bigW x) (l := s.table)
    cases h2 : s.table.any (fun x => !bigW x) <;> simp_all
  · unfold m_laurelref01_Check_L0
    rw [if_pos (by omega), ix_nat default hk]
    simp only [Option.bind_some, off_eq, or_some]
    rw [addc_eq (by omega)]
    simp only [Option.bind_some, bigW, Bool.not_and, ite_bool]
theorem check_L1 {s : Sands} (h : Short s) : iterM FU (m_laurelref01_Check_L1 s) 0 = some (if s.floors.all hgt then .inl () else .inr 3) := by
  have h1 := h.f
  rw [iterM_any0 s.floors.length (fun k => !hgt (s.floors.getD k default)) 3 (fun k hk => ?_) (by unfold m_laurelref01_Check_L1; simp) (FU_lt (by omega))]
  · rw [any_range (p := fun x => !hgt x) (d := default)]
    have := all_not_any (p := fun x => hgt x) (l := s.floors)
    cases h2 : s.floors.any (fun x => !hgt x) <;> simp_all
  · unfold m_laurelref01_Check_L1
    rw [if_pos (by omega), ix_nat default hk]
    simp only [Option.bind_some, off_eq]
    rw [addc_eq (by omega)]
    simp only [Option.bind_some, hgt, ite_bool]
    rfl
theorem check_L2 {s : Sands} (h : Short s) : iterM FU (m_laurelref01_Check_L2 s) 0 = some (if s.sills.all (fun x => hgt x.h) then .inl () else .inr 3) := by
  have h1 := h.s
  rw [iterM_any0 s.sills.length (fun k => !hgt (s.sills.getD k default).h) 3 (fun k hk => ?_) (by unfold m_laurelref01_Check_L2; simp) (FU_lt (by omega))]
  · rw [any_range (p := fun x : Sill => !hgt x.h) (d := default)]
    have := all_not_any (p := fun x : Sill => hgt x.h) (l := s.sills)
    cases h2 : s.sills.any (fun x => !hgt x.h) <;> simp_all
  · unfold m_laurelref01_Check_L2
    rw [if_pos (by omega), ix_nat default hk]
    simp only [Option.bind_some, off_eq]
    rw [addc_eq (by omega)]
    simp only [Option.bind_some, hgt, ite_bool]
    rfl
theorem check_L3 {s : Sands} (h : Short s) : iterM FU (m_laurelref01_Check_L3 s) 1 = some (if (List.range (s.table.length - 1)).all (fun i => decide ((s.table.getD i default).min < (s.table.getD (i + 1) default).min)) then .inl () else .inr 4) ∨ s.table.length = 0 := by
  have h1 := h.t
  by_cases h0 : s.table.length = 0
  · exact .inr h0
  left
  have := iterM_any (f := m_laurelref01_Check_L3 s) 1 (s.table.length - 1) (fun k => decide ((s.table.getD (k + 1) default).min ≤ (s.table.getD k default).min)) (fun _ => 4) (fun k hk => ?_) (by unfold m_laurelref01_Check_L3; rw [if_neg (by omega)]) (N := FU) (FU_lt (by omega))
  · rw [this]
    cases hf : (List.range (s.table.length - 1)).find? (fun k => decide ((s.table.getD (k + 1) default).min ≤ (s.table.getD k default).min)) with
    | none =>
      have h2 : (List.range (s.table.length - 1)).all (fun i => decide ((s.table.getD i default).min < (s.table.getD (i + 1) default).min)) = true := by
        rw [List.all_eq_true]
        intro x hx
        have := List.find?_eq_none.1 hf x hx
        simp only [decide_eq_true_eq] at this ⊢
        omega
      rw [h2]; rfl
    | some k =>
      have h3 := List.find?_some hf
      have h4 := List.mem_of_find?_eq_some hf
      have h2 : (List.range (s.table.length - 1)).all (fun i => decide ((s.table.getD i default).min < (s.table.getD (i + 1) default).min)) = false := by
        rw [List.all_eq_false]
        refine ⟨k, h4, ?_⟩
        simp only [decide_eq_true_eq] at h3 ⊢
        omega
      rw [h2]; rfl
  · unfold m_laurelref01_Check_L3
    rw [if_pos (by omega), show (1 : Int) + (k : Int) = ((k + 1 : Nat) : Int) by omega, ix_nat default (by omega), subc_eq (by omega)]
    simp only [Option.bind_some]
    rw [show ((k + 1 : Nat) : Int) - 1 = (k : Int) by omega, ix_nat default (by omega), addc_eq (by omega)]
    simp only [Option.bind_some]
    rw [ite_dec, show ((k + 1 : Nat) : Int) + 1 = (1 : Int) + (k : Int) + 1 by omega]
theorem check_L4 {s : Sands} (h : Short s) : iterM FU (m_laurelref01_Check_L4 s) 0 = some (if s.sills.all (fun x => inr x.a (-1) ((s.floors.length : Int) - 1) && inr x.b (-1) ((s.floors.length : Int) - 1)) then .inl () else .inr 1) := by
  have h1 := h.s
  have h2 := h.f
  rw [iterM_any0 s.sills.length (fun k => !((fun x : Sill => inr x.a (-1) ((s.floors.length : Int) - 1) && inr x.b (-1) ((s.floors.length : Int) - 1)) (s.sills.getD k default))) 1 (fun k hk => ?_) (by unfold m_laurelref01_Check_L4; simp) (FU_lt (by omega))]
  · rw [any_range (p := fun x : Sill => !((fun x : Sill => inr x.a (-1) ((s.floors.length : Int) - 1) && inr x.b (-1) ((s.floors.length : Int) - 1)) x)) (d := default)]
    have := all_not_any (p := fun x : Sill => inr x.a (-1) ((s.floors.length : Int) - 1) && inr x.b (-1) ((s.floors.length : Int) - 1)) (l := s.sills)
    rw [← this]
    generalize s.sills.any _ = b
    cases b <;> rfl
  · unfold m_laurelref01_Check_L4
    rw [if_pos (by omega), ix_nat default hk, subc_eq (by omega)]
    simp only [Option.bind_some, off_eq, or_some]
    rw [addc_eq (by omega)]
    simp only [Option.bind_some, Bool.not_and, ite_bool]
theorem check_L5 {s : Sands} (h : Short s) : iterM FU (m_laurelref01_Check_L5 s) 0 = some (if s.sills.all (fun x => !decide (x.a = x.b)) then .inl () else .inr 8) := by
  have h1 := h.s
  rw [iterM_any0 s.sills.length (fun k => !((fun x : Sill => !decide (x.a = x.b)) (s.sills.getD k default))) 8 (fun k hk => ?_) (by unfold m_laurelref01_Check_L5; simp) (FU_lt (by omega))]
  · rw [any_range (p := fun x : Sill => !((fun x : Sill => !decide (x.a = x.b)) x)) (d := default)]
    have := all_not_any (p := fun x : Sill => !decide (x.a = x.b)) (l := s.sills)
    rw [← this]
    generalize s.sills.any _ = b
    cases b <;> rfl
  · unfold m_laurelref01_Check_L5
    rw [if_pos (by omega), ix_nat default hk, addc_eq (by omega)]
    simp only [Option.bind_some]
    rw [ite_dec, Bool.not_not]
theorem isEnd_inr {s : Sands} {p : Int} : isEnd s p = inr p (-1) ((s.floors.length : Int) - 1) ∨ s.floors.length = 0 := by
  by_cases h0 : s.floors.length = 0
  · exact .inr h0
  left
  rw [Bool.eq_iff_iff, isEnd_iff, inr_iff]
  omega
theorem refcheck_eq {s : Sands} (h : Short s) : m_laurelref01_Check s = some (check s) := by
  unfold m_laurelref01_Check check
  simp only [off_eq, Option.bind_some, or_some]
  cases h1 : (!inr (s.table.length : Int) 2 12 || (!inr (s.floors.length : Int) 1 8 || decide (16 < (s.sills.length : Int)))) with
  | true => simp only [Bool.or_assoc, h1, if_true]
  | false =>
    simp only [Bool.or_assoc, h1, Bool.false_eq_true, if_false]
    simp only [Bool.or_eq_false_iff, Bool.not_eq_false', inr_iff] at h1
    rw [check_L0 h]
    cases h2 : s.table.all bigW with
    | false => simp
    | true =>
      simp only [if_true, Option.bind_some, oc_inl, Bool.not_true, Bool.false_eq_true, if_false]
      rw [check_L1 h, check_L2 h]
      cases h3 : (!inr s.wind.lo (-50) 50 || !inr s.wind.hi (-50) 50) with
      | true => simp [← Bool.or_assoc, h3]
      | false =>
        simp only [Bool.false_eq_true, if_false, ← Bool.or_assoc, h3, Bool.false_or]
        cases h4 : s.floors.all hgt with
        | false => simp
        | true =>
          simp only [if_true, Option.bind_some, oc_inl, Bool.not_true, Bool.false_eq_true, if_false]
          cases h5 : s.sills.all (fun x => hgt x.h) with
          | false => simp
          | true =>
            simp only [if_true, Option.bind_some, oc_inl, Bool.not_true, Bool.false_eq_true, if_false]
            rcases check_L3 h with h6 | h6
            · rw [h6]
              unfold ordered
              cases h7 : (List.range (s.table.length - 1)).all (fun i => decide ((s.table.getD i default).min < (s.table.getD (i + 1) default).min)) with
              | false => simp
              | true =>
                simp only [if_true, Option.bind_some, oc_inl, Bool.true_and]
                by_cases h8 : s.wind.hi < s.wind.lo
                · have h9 : decide (s.wind.lo ≤ s.wind.hi) = false := decide_eq_false (by omega)
                  rw [if_pos h8]; simp [h9]
                · have h9 : decide (s.wind.lo ≤ s.wind.hi) = true := decide_eq_true (by omega)
                  rw [if_neg h8, h9]
                  simp only [Bool.not_true, Bool.false_eq_true, if_false]
                  rw [check_L4 h, check_L5 h]
                  have hend : (fun x : Sill => isEnd s x.a && isEnd s x.b) = (fun x : Sill => inr x.a (-1) ((s.floors.length : Int) - 1) && inr x.b (-1) ((s.floors.length : Int) - 1)) := by
                    funext x
                    rcases isEnd_inr (s := s) (p := x.a) with e1 | e1
                    · rcases isEnd_inr (s := s) (p := x.b) with e2 | e2
                      · rw [e1, e2]
                      · omega
                    · omega
                  rw [hend]
                  cases s.sills.all (fun x : Sill => inr x.a (-1) ((s.floors.length : Int) - 1) && inr x.b (-1) ((s.floors.length : Int) - 1)) with
                  | false => simp
                  | true =>
                    cases s.sills.all (fun x => !decide (x.a = x.b)) <;> simp
            · omega
end Go.Proofs.Wk

namespace Go.Proofs.Wk
open Go Go.Gx Go.Pl
set_option linter.unusedVariables false
theorem reffirst_eq {s : Sands} (h : 0 < s.table.length) : m_laurelref01_First s = some (firstM s) := by
  unfold m_laurelref01_First
  rw [show (0 : Int) = ((0 : Nat) : Int) from rfl, ix_nat default h]
  rfl
theorem reflast_eq {s : Sands} (hs : Short s) (h : 0 < s.table.length) : m_laurelref01_Last s = some (lastM s) := by
  have h1 := hs.t
  unfold m_laurelref01_Last
  rw [subc_eq (by omega), Option.bind_some, show (s.table.length : Int) - 1 = ((s.table.length - 1 : Nat) : Int) by omega, ix_nat default (by omega)]
  rfl
theorem minute_eq {s : Sands} (hs : Short s) (h : 0 < s.table.length) {m : Int} : m_laurelref01_Minute s m = some (if dayF s m = true then 0 else 3) := by
  unfold m_laurelref01_Minute
  rw [reffirst_eq h, reflast_eq hs h]
  simp only [Option.bind_some, off_eq]
  have : dayF s m = inr m (firstM s) (lastM s) := rfl
  rw [this]
  cases inr m (firstM s) (lastM s) <;> rfl
/-- the line, rounded down -/
theorem line_floor {a b : Water} {m : Int} (hab : a.min < m ∧ m < b.min) (ha : 0 ≤ a.h ∧ a.h ≤ 999) (hb : 0 ≤ b.h ∧ b.h ≤ 999) : lineAt a b m = a.h + (b.h - a.h) * (m - a.min) / (b.min - a.min) := by
  unfold lineAt
  have hn : 0 < b.min - a.min := by omega
  have h1 : (-999) * (m - a.min) ≤ (b.h - a.h) * (m - a.min) := Int.mul_le_mul_of_nonneg_right (by omega) (by omega)
  have h2 : 0 ≤ a.h * (b.min - a.min) := Int.mul_nonneg ha.1 (by omega)
  rw [Int.tdiv_eq_ediv_of_nonneg (by omega)]
  have h3 : a.h * (b.min - a.min) + (b.h - a.h) * (m - a.min) + 1000 * (b.min - a.min) = (b.h - a.h) * (m - a.min) + (a.h + 1000) * (b.min - a.min) := by
    rw [Int.add_mul]; omega
  rw [h3, Int.add_mul_ediv_right _ _ (by omega)]
  omega
theorem refheight_L2 {a b : Water} {m : Int} (hab : a.min < m ∧ m < b.min) (hm : 0 ≤ a.min ∧ b.min ≤ 1440) (ha : 0 ≤ a.h ∧ a.h ≤ 999) (hb : 0 ≤ b.h ∧ b.h ≤ 999) : iterM FU (m_laurelref01_Height_L2 ⟨a, b⟩ m) (min a.h b.h) = some (lineAt a b m) := by
  have hl := line_tight hab ha hb
  have hf := line_floor hab ha hb
  generalize hN : b.min - a.min = N at *
  generalize hT : m - a.min = t at *
  have ht : 0 < t ∧ t < N := by omega
  have hNN : N ≤ 1440 := by omega
  have hr1 : (b.h - a.h) * t ≤ 999 * 1440 := Int.le_trans (Int.mul_le_mul_of_nonneg_right (show b.h - a.h ≤ 999 by omega) (by omega)) (Int.mul_le_mul_of_nonneg_left (by omega) (by omega))
  have hr2 : -(999 * 1440) ≤ (b.h - a.h) * t := by
    have h1 : (-999) * t ≤ (b.h - a.h) * t := Int.mul_le_mul_of_nonneg_right (by omega) (by omega)
    omega
  generalize hr : (b.h - a.h) * t = r at *
  have hd := Int.mul_ediv_add_emod r N
  have hd1 := Int.emod_nonneg r (show N ≠ 0 by omega)
  have hd2 := Int.emod_lt_of_pos r (show 0 < N by omega)
  obtain ⟨o, h1, h2⟩ := iterM_inv (f := m_laurelref01_Height_L2 ⟨a, b⟩ m) (fun n => 0 ≤ n ∧ n ≤ 999 ∧ (n - a.h) * N ≤ r) (fun n => (1000 - n).toNat) (fun o => o = lineAt a b m) (fun n hn => by
    obtain ⟨hn0, hn1, hn2⟩ := hn
    have hb1 : (n + 1 - a.h) * N ≤ 1000 * 1440 := Int.le_trans (Int.mul_le_mul_of_nonneg_right (show n + 1 - a.h ≤ 1000 by omega) (by omega)) (Int.mul_le_mul_of_nonneg_left (by omega) (by omega))
    have hb2 : (-1000) * 1440 ≤ (n + 1 - a.h) * N := by
      have h1 : (-1000) * N ≤ (n + 1 - a.h) * N := Int.mul_le_mul_of_nonneg_right (by omega) (by omega)
      omega
    have e1 : addc n 1 = some (n + 1) := addc_eq (by omega)
    have e2 : subc (n + 1) a.h = some (n + 1 - a.h) := subc_eq (by omega)
    have e3 : subc b.min a.min = some N := by rw [subc_eq (by omega), hN]
    have e4 : mulc (n + 1 - a.h) N = some ((n + 1 - a.h) * N) := mulc_eq (by omega)
    have e5 : subc b.h a.h = some (b.h - a.h) := subc_eq (by omega)
    have e6 : subc m a.min = some t := by rw [subc_eq (by omega), hT]
    have e7 : mulc (b.h - a.h) t = some r := by rw [mulc_eq (by rw [hr]; omega), hr]
    unfold m_laurelref01_Height_L2
    simp only [e1, e2, e3, e4, e5, e6, e7, Option.bind_some]
    by_cases hc : (n + 1 - a.h) * N ≤ r
    · left
      rw [if_pos hc]
      refine ⟨n + 1, rfl, ⟨by omega, ?_, hc⟩, by omega⟩
      -- n + 1 is not above the line
      have h3 : n + 1 - a.h ≤ r / N := (Int.le_ediv_iff_mul_le (by omega)).2 hc
      omega
    · right
      rw [if_neg hc]
      refine ⟨n, rfl, ?_⟩
      have h3 : n - a.h ≤ r / N := (Int.le_ediv_iff_mul_le (by omega)).2 hn2
      have h4 : r / N < n + 1 - a.h := (Int.ediv_lt_iff_lt_mul (by omega)).2 (by omega)
      omega) FU (min a.h b.h) (FU_lt (by omega)) ⟨by omega, by omega, by
        by_cases hab2 : a.h ≤ b.h
        · rw [Int.min_eq_left hab2]
          have : 0 ≤ (b.h - a.h) * t := Int.mul_nonneg (by omega) (by omega)
          rw [show a.h - a.h = 0 by omega, Int.zero_mul]
          omega
        · rw [Int.min_eq_right (by omega)]
          have h5 : (a.h - b.h) * t ≤ (a.h - b.h) * N := Int.mul_le_mul_of_nonneg_left (by omega) (by omega)
          have h6 : (b.h - a.h) * t = -((a.h - b.h) * t) := by rw [← Int.neg_mul]; congr 1; omega
          have h7 : (b.h - a.h) * N = -((a.h - b.h) * N) := by rw [← Int.neg_mul]; congr 1; omega
          omega⟩
  rw [h1, h2]
theorem refheight_eq {s : Sands} (hG : Good s) {m : Int} (hd : dayF s m = true) : m_laurelref01_Height s m = some (heightF s m) := by
  have hs := Good.short hG
  have h1 := hs.t
  have htl := hG.tl
  obtain ⟨j, ej, hj, hm, hl, hj0⟩ := day_idx hG hd
  have mono := fun {i k : Nat} (hik : i < k) (hk : k < s.table.length) => min_mono hG hik hk
  unfold m_laurelref01_Height
  have hL0 := iterM_any (f := m_laurelref01_Height_L0 s m) 0 s.table.length (fun k => decide ((s.table.getD k default).min = m)) (fun k => (s.table.getD k default).h) (fun k hk => by
    unfold m_laurelref01_Height_L0
    rw [Int.zero_add, if_pos (by omega), ix_nat default hk]
    simp only [Option.bind_some]
    rw [addc_eq (by omega)]
    simp only [Option.bind_some]
    rw [ite_dec]) (by unfold m_laurelref01_Height_L0; rw [if_neg (by omega)]) (N := FU) (FU_lt (by omega))
  rw [hL0]
  by_cases he : (s.table.getD j default).min = m
  · -- a minute of the table
    have hf : (List.range s.table.length).find? (fun k => decide ((s.table.getD k default).min = m)) = some j := by
      rw [List.find?_range_eq_some]
      refine ⟨by simpa using he, by simpa using hj, fun i hi => ?_⟩
      have := hl i hi
      simp only [Bool.not_eq_true', decide_eq_false_iff_not]
      omega
    rw [hf]
    simp only [Option.bind_some, oc_inr]
    rw [height_eq hj hl he]
  · have hj1 : j ≠ 0 := fun h => he (hj0 h)
    have hf : (List.range s.table.length).find? (fun k => decide ((s.table.getD k default).min = m)) = none := by
      rw [List.find?_eq_none]
      intro k hk
      have hk' : k < s.table.length := by simpa using hk
      simp only [decide_eq_true_eq]
      by_cases hkj : k < j
      · have := hl k hkj; omega
      · by_cases hkj2 : k = j
        · subst hkj2; exact he
        · have := mono (show j < k by omega) hk'; omega
    rw [hf]
    simp only [Option.bind_some, oc_inl]
    have h2 := hl (j - 1) (by omega)
    have ha := hG.tab (j - 1) (by omega)
    have hb := hG.tab j hj
    have hL1 : iterM FU (m_laurelref01_Height_L1 s m) 0 = some ((j - 1 : Nat) : Int) := by
      refine iterM_run (fun k => (k : Int)) (j - 1) (fun k hk => ?_) ?_ FU (FU_lt (by omega))
      · unfold m_laurelref01_Height_L1
        rw [addc_eq (by omega), Option.bind_some, show (k : Int) + 1 = ((k + 1 : Nat) : Int) by omega, ix_nat default (by omega), Option.bind_some, if_pos (hl (k + 1) (by omega)), Option.bind_some]
      · unfold m_laurelref01_Height_L1
        rw [addc_eq (by omega), Option.bind_some, show ((j - 1 : Nat) : Int) + 1 = ((j : Nat) : Int) by omega, ix_nat default hj, Option.bind_some, if_neg (by omega)]
    rw [hL1]
    simp only [Option.bind_some]
    rw [ix_nat default (by omega), addc_eq (by omega)]
    simp only [Option.bind_some]
    rw [show ((j - 1 : Nat) : Int) + 1 = ((j : Nat) : Int) by omega, ix_nat default hj]
    simp only [Option.bind_some]
    rw [refheight_L2 ⟨h2, by omega⟩ ⟨by omega, by omega⟩ ha.2 hb.2, height_line hG hj hl (by omega) hj1]
    rfl
end Go.Proofs.Wk

namespace Go.Proofs.Wk
open Go Go.Gx Go.Pl
set_option linter.unusedVariables false
theorem dayN_eq {s : Sands} (hG : Good s) : ((dayN s : Nat) : Int) = lastM s - firstM s + 1 := by
  have := day_span hG
  unfold dayN; omega
end Go.Proofs.Wk

namespace Go.Proofs.Wk
open Go Go.Gx Go.Pl
set_option linter.unusedVariables false
theorem place_eq {s : Sands} (hs : Short s) {p : Int} : m_laurelref01_Place s p = some (if isPlace s p = true then 0 else 1) := by
  have h2 := hs.f
  unfold m_laurelref01_Place
  rw [subc_eq (by omega), Option.bind_some, off_eq, Option.bind_some]
  unfold isPlace
  cases inr p 0 ((s.floors.length : Int) - 1) <;> rfl
theorem wide_ok {s : Sands} : ∃ b, m_laurellaw01_wide s = some b ∧ (b = false → s.table.length ≤ 20 ∧ s.floors.length ≤ 20 ∧ s.sills.length ≤ 30) := by
  unfold m_laurellaw01_wide
  by_cases h1 : 20 < (s.table.length : Int)
  · rw [if_pos h1, Option.bind_some]; exact ⟨_, rfl, by simp⟩
  rw [if_neg h1]
  by_cases h2 : 20 < (s.floors.length : Int)
  · rw [if_pos h2, Option.bind_some]; exact ⟨_, rfl, by simp⟩
  rw [if_neg h2]
  by_cases h3 : 30 < (s.sills.length : Int)
  · rw [if_pos h3, Option.bind_some]; exact ⟨_, rfl, by simp⟩
  rw [if_neg h3]
  by_cases h4 : 8 < (s.sills.length : Int)
  · rw [if_pos h4, Option.bind_some]; exact ⟨_, rfl, fun _ => by omega⟩
  · rw [if_neg h4, Option.bind_some]; exact ⟨_, rfl, fun _ => by omega⟩
theorem refgates_eq {s : Sands} (hG : Good s) : m_laurelref01_Gates s = some ((List.range s.floors.length).map (fun p : Nat => refGate ((gatesOf s).getD p 0))) := by
  have hfl := hG.fl
  unfold m_laurelref01_Gates
  have key : iterM FU (m_laurelref01_Gates_L0 s) ⟨0, []⟩ = some ((List.range s.floors.length).map (fun p : Nat => refGate ((gatesOf s).getD p 0))) := by
    have hz : (⟨0, []⟩ : m_laurelref01_Gates_S0) = (fun k : Nat => (⟨(k : Int), (List.range k).map (fun p : Nat => refGate ((gatesOf s).getD p 0))⟩ : m_laurelref01_Gates_S0)) 0 := by simp
    rw [hz]
    refine iterM_run (fun k : Nat => (⟨(k : Int), (List.range k).map (fun p : Nat => refGate ((gatesOf s).getD p 0))⟩ : m_laurelref01_Gates_S0)) s.floors.length (fun k hk => ?_) ?_ FU (FU_lt (by omega))
    · unfold m_laurelref01_Gates_L0
      dsimp only
      rw [if_pos (by omega), refgate_eq hG (isPlace_iff.2 ⟨by omega, by omega⟩), Option.bind_some, appc_eq (by simp only [List.length_map, List.length_range, List.length_singleton]; omega), Option.bind_some, addc_eq (by omega), Option.bind_some, List.range_succ, List.map_append]
      rfl
    · unfold m_laurelref01_Gates_L0
      dsimp only
      rw [if_neg (by omega)]
  rw [key, Option.bind_some]
theorem gates_ix {s : Sands} {p : Int} (hp : isPlace s p = true) : ix ((List.range s.floors.length).map (fun p : Nat => refGate ((gatesOf s).getD p 0))) p = some (refGate ((gatesOf s).getD p.toNat 0)) := by
  have h := isPlace_iff.1 hp
  rw [ix_eq 0 h.1 (by simp; omega)]
  congr 1
  have hlt : p.toNat < s.floors.length := by omega
  simp [List.getD_eq_getElem?_getD, hlt]
end Go.Proofs.Wk

namespace Go.Proofs.Wk
open Go Go.Fw Go.Gx Go.Pl
set_option linter.unusedVariables false
structure m_laurelref01_Left_S0 where
  w10 : Int
  out9 : (List Int)
structure m_laurelref01_Left_S1 where
  all11 : Bool
  rest12 : Int
  i13 : Int
def m_laurelref01_Left_L1 (looks2 : (List Look)) (s0 : Sands) (gates1 : (List Int)) (s : m_laurelref01_Left_S0) (s_1 : m_laurelref01_Left_S1) : Option (m_laurelref01_Left_S1 ⊕ Bool) :=
 if s_1.i13 < (looks2.length : Int) then
 (((remc s_1.rest12 2).bind fun t32 =>
 if t32 = 1 then
 (if s_1.all11 = true then
 ((ix looks2 s_1.i13).bind fun t41 =>
 (m_laurelref01_agrees s0 gates1 s.w10 (⟨t41.min, t41.place, t41.wet⟩ : Look)).bind fun t43 =>
 some t43) else
 (some false)) else
 (some s_1.all11)).bind fun o_3 =>
 (quoc s_1.rest12 2).bind fun t46 =>
 (addc s_1.i13 1).bind fun t30 =>
 some (.inl (⟨o_3, t46, t30⟩ : m_laurelref01_Left_S1))) else
 (some (.inr s_1.all11))
def m_laurelref01_Left_L0 (s0 : Sands) (looks2 : (List Look)) (gates1 : (List Int)) (set3 : Int) (s : m_laurelref01_Left_S0) : Option (m_laurelref01_Left_S0 ⊕ (List Int)) :=
 if s.w10 ≤ s0.wind.hi then
 (((iterM FU (m_laurelref01_Left_L1 looks2 s0 gates1 s) (⟨true, set3, 0⟩ : m_laurelref01_Left_S1)).bind fun o_2 =>
 if o_2 = true then
 ((appc 8 s.out9 [s.w10]).bind fun t51 =>
 some t51) else
 (some s.out9)).bind fun o_1 =>
 (addc s.w10 1).bind fun t23 =>
 some (.inl (⟨t23, o_1⟩ : m_laurelref01_Left_S0))) else
 (some (.inr s.out9))
def m_laurelref01_Left (s0 : Sands) (gates1 : (List Int)) (looks2 : (List Look)) (set3 : Int) : Option (List Int) :=
 (iterM FU (m_laurelref01_Left_L0 s0 looks2 gates1 set3) (⟨s0.wind.lo, []⟩ : m_laurelref01_Left_S0)).bind fun o =>
 some o
set_option maxRecDepth 100000 in
set_option maxHeartbeats 4000000 in
theorem c_laurelref01_Left (s0 : Sands) (gates1 : (List Int)) (looks2 : (List Look)) (set3 : Int) (qa0 : Option Addr) (na0 ca0 : Nat) (qa1 : Option Addr) (na1 ca1 : Nat) (qa2 : Option Addr) (na2 ca2 : Nat) (qa3 : Option Addr) (na3 ca3 : Nat) (qa4 : Option Addr) (na4 ca4 : Nat) (w : World) (hw : HV w (keys [] []) [] [] [(aB qa0, aO qa0, RW.enc s0.table), (aB qa1, aO qa1, RI.enc s0.floors), (aB qa2, aO qa2, RS.enc s0.sills), (aB qa3, aO qa3, RI.enc gates1), (aB qa4, aO qa4, RL.enc looks2)] w) (hna0 : s0.table.length = na0) (hqa0 : AOK na0 qa0) (hla0 : na0 ≤ ca0) (hna1 : s0.floors.length = na1) (hqa1 : AOK na1 qa1) (hla1 : na1 ≤ ca1) (hna2 : s0.sills.length = na2) (hqa2 : AOK na2 qa2) (hla2 : na2 ≤ ca2) (hna3 : gates1.length = na3) (hqa3 : AOK na3 qa3) (hla3 : na3 ≤ ca3) (hna4 : looks2.length = na4) (hqa4 : AOK na4 qa4) (hla4 : na4 ≤ ca4) {res : (List Int)} (hm : m_laurelref01_Left s0 gates1 looks2 set3 = some res) :
    Calls Try.prog 56 #[.agg #[.slice qa0 na0 ca0, .int .i64 s0.wind.lo, .int .i64 s0.wind.hi, .slice qa1 na1 ca1, .slice qa2 na2 ca2], .slice qa3 na3 ca3, .slice qa4 na4 ca4, .int .i64 set3] w (fun en w' => ∃ l : VL, en = .returned (slv l.q l.n l.cap) ∧ (VOK 1 l.n l.cap (RI.enc res) l.sp l.q) ∧ HV w (keys [] []) [] [⟨3, RI.enc res, l.sp, l.q⟩] [] w') := by
  unfold m_laurelref01_Left at hm
  refine g_enter (args := [.agg #[.slice qa0 na0 ca0, .int .i64 s0.wind.lo, .int .i64 s0.wind.hi, .slice qa1 na1 ca1, .slice qa2 na2 ca2], .slice qa3 na3 ca3, .slice qa4 na4 ca4, .int .i64 set3]) Try.func56 rfl Try.ntmps56 rfl (e := [(0, _), (1, _), (2, _), (3, _)]) rfl (H := HV w (keys [] []) [] [] [(aB qa0, aO qa0, RW.enc s0.table), (aB qa1, aO qa1, RI.enc s0.floors), (aB qa2, aO qa2, RS.enc s0.sills), (aB qa3, aO qa3, RI.enc gates1), (aB qa4, aO qa4, RL.enc looks2)]) hw ?_
  refine g_seq ?_
  refine g_region ?_
  refine g_boxV rfl rfl (fun b h2 => ?_)
  refine g_val rfl rfl rfl (fun _ _ => v_nilS rfl) ?_
  refine g_nil ?_
  refine g_n_then ?_
  refine g_seq ?_
  refine g_region ?_
  refine g_val rfl rfl rfl (fun _ _ => v_nilS rfl) ?_
  refine g_nil ?_
  refine g_n_then ?_
  refine g_seq ?_
  refine g_seq ?_
  refine g_region ?_
  refine g_val rfl rfl rfl (fun w _ => v_fieldAddr 1 (Try.runUnderlying59 w) rfl (Try.sizeOf25 w) rfl) ?_
  refine g_val rfl rfl rfl (fun w _ => v_fieldAddr 0 (Try.runUnderlying25 w) rfl (Try.sizeOf3 w) rfl) ?_
  refine g_val rfl rfl rfl (fun w hh => v_load (Try.isAgg3 w) rfl (hh.cell 0 rfl rfl)) ?_
  refine g_val rfl rfl rfl (fun _ _ => v_assign rfl) ?_
  refine g_nil ?_
  refine g_n_then ?_
  refine g_vnil 3 ?_
  obtain ⟨o, h3, h4⟩ := bindO hm
  refine g_cut (ι := VL) (fun l => VOK 1 l.n l.cap (RI.enc o) l.sp l.q) (fun l => [(9, slv l.q l.n l.cap)]) (fun l => [(b, .cells #[.slice qa0 na0 ca0, .int .i64 s0.wind.lo, .int .i64 s0.wind.hi, .slice qa1 na1 ca1, .slice qa2 na2 ca2] 59 (0, 0))]) (fun l => [⟨3, RI.enc o, l.sp, l.q⟩]) ?_ ?_
  ·replace hm := h3
   refine g_block ?_
   refine g_loopF (ι := VL) hm (fun s l_1 => VOK 1 l_1.n l_1.cap (RI.enc s.out9) l_1.sp l_1.q) (fun s l_1 => [(1, .slice qa3 na3 ca3), (2, .slice qa4 na4 ca4), (3, .int .i64 set3), (4, ptr b 0), (9, slv l_1.q l_1.n l_1.cap), (10, .int .i64 s.w10)]) (fun s l_1 => [(b, .cells #[.slice qa0 na0 ca0, .int .i64 s0.wind.lo, .int .i64 s0.wind.hi, .slice qa1 na1 ca1, .slice qa2 na2 ca2] 59 (0, 0))]) (fun s l_1 => [⟨3, RI.enc s.out9, l_1.sp, l_1.q⟩]) ⟨none, 0, 0, []⟩ (VOK.nil) ((.cons rfl (.cons rfl (.cons rfl (.cons rfl (.cons rfl (.cons rfl .nil))))))) (fun w hh => hh) (fun s l_1 r hpl hm h7 => ?_)
   have h6 := hpl
   unfold m_laurelref01_Left_L0 at hm
   refine g_seq ?_
   refine g_seq ?_
   refine g_region ?_
   refine g_val rfl rfl rfl (fun _ _ => v_move rfl) ?_
   refine g_val rfl rfl rfl (fun w _ => v_fieldAddr 1 (Try.runUnderlying59 w) rfl (Try.sizeOf25 w) rfl) ?_
   refine g_val rfl rfl rfl (fun w _ => v_fieldAddr 1 (Try.runUnderlying25 w) rfl (Try.sizeOf3 w) rfl) ?_
   refine g_val rfl rfl rfl (fun w hh => v_load (Try.isAgg3 w) rfl (hh.cell 0 rfl rfl)) ?_
   refine g_val rfl rfl rfl (fun _ _ => v_leq rfl rfl) ?_
   refine g_nil ?_
   refine g_n_then ?_
   refine g_cond rfl (fun h8 => ?_) (fun h8 => ?_)
   ·replace hm := ifT (of_decide_eq_true h8) hm
    refine g_skip ?_
    refine g_n_then ?_
    refine g_seq ?_
    obtain ⟨o_1, h9, h10⟩ := bindO hm
    refine g_cut (ι := VL) (fun l_2 => VOK 1 l_2.n l_2.cap (RI.enc o_1) l_2.sp l_2.q) (fun l_2 => [(1, .slice qa3 na3 ca3), (2, .slice qa4 na4 ca4), (3, .int .i64 set3), (4, ptr b 0), (9, slv l_2.q l_2.n l_2.cap), (10, .int .i64 s.w10)]) (fun l_2 => [(b, .cells #[.slice qa0 na0 ca0, .int .i64 s0.wind.lo, .int .i64 s0.wind.hi, .slice qa1 na1 ca1, .slice qa2 na2 ca2] 59 (0, 0))]) (fun l_2 => [⟨3, RI.enc o_1, l_2.sp, l_2.q⟩]) ?_ ?_
    ·replace hm := h9
     refine g_block ?_
     refine g_seq ?_
     refine g_region ?_
     refine g_val rfl rfl rfl (fun _ _ => v_assign rfl) ?_
     refine g_nil ?_
     refine g_n_then ?_
     refine g_seq ?_
     refine g_region ?_
     refine g_val rfl rfl rfl (fun _ _ => v_move rfl) ?_
     refine g_val rfl rfl rfl (fun _ _ => v_assign rfl) ?_
     refine g_nil ?_
     refine g_n_then ?_
     refine g_seq ?_
     refine g_seq ?_
     refine g_region ?_
     refine g_val rfl rfl rfl (fun _ _ => v_assign rfl) ?_
     refine g_nil ?_
     refine g_n_then ?_
     obtain ⟨o_2, h12, h13⟩ := bindO hm
     refine g_cut (ι := Unit) (fun l_3 => True) (fun l_3 => [(1, .slice qa3 na3 ca3), (2, .slice qa4 na4 ca4), (3, .int .i64 set3), (4, ptr b 0), (9, slv l_1.q l_1.n l_1.cap), (10, .int .i64 s.w10), (11, .bool o_2)]) (fun l_3 => [(b, .cells #[.slice qa0 na0 ca0, .int .i64 s0.wind.lo, .int .i64 s0.wind.hi, .slice qa1 na1 ca1, .slice qa2 na2 ca2] 59 (0, 0))]) (fun l_3 => [⟨3, RI.enc s.out9, l_1.sp, l_1.q⟩]) ?_ ?_
     ·replace hm := h12
      refine g_block ?_
      refine g_loopF (ι := Unit) hm (fun s_1 l_4 => True) (fun s_1 l_4 => [(1, .slice qa3 na3 ca3), (2, .slice qa4 na4 ca4), (3, .int .i64 set3), (4, ptr b 0), (9, slv l_1.q l_1.n l_1.cap), (10, .int .i64 s.w10), (11, .bool s_1.all11), (12, .int .i64 s_1.rest12), (13, .int .i64 s_1.i13)]) (fun s_1 l_4 => [(b, .cells #[.slice qa0 na0 ca0, .int .i64 s0.wind.lo, .int .i64 s0.wind.hi, .slice qa1 na1 ca1, .slice qa2 na2 ca2] 59 (0, 0))]) (fun s_1 l_4 => [⟨3, RI.enc s.out9, l_1.sp, l_1.q⟩]) () (trivial) ((.cons rfl (.cons rfl (.cons rfl (.cons rfl (.cons rfl (.cons rfl (.cons rfl (.cons rfl (.cons rfl .nil)))))))))) (fun w hh => hh) (fun s_1 l_4 r_1 hpl hm h14 => ?_)
      unfold m_laurelref01_Left_L1 at hm
      refine g_seq ?_
      refine g_seq ?_
      refine g_region ?_
      refine g_val rfl rfl rfl (fun _ _ => v_move rfl) ?_
      refine g_val rfl rfl rfl (fun _ _ => v_move rfl) ?_
      refine g_val rfl rfl rfl (fun w _ => v_lenR hna4 (Try.runUnderlying90 w) rfl) ?_
      refine g_val rfl rfl rfl (fun _ _ => v_lss rfl rfl) ?_
      refine g_nil ?_
      refine g_n_then ?_
      refine g_cond rfl (fun h15 => ?_) (fun h15 => ?_)
      ·replace hm := ifT (of_decide_eq_true h15) hm
       refine g_skip ?_
       refine g_n_then ?_
       refine g_seq ?_
       refine g_block ?_
       refine g_seq ?_
       obtain ⟨o_3, h16, h17⟩ := bindO hm
       refine g_cut (ι := Unit) (fun l_5 => True) (fun l_5 => [(1, .slice qa3 na3 ca3), (2, .slice qa4 na4 ca4), (3, .int .i64 set3), (4, ptr b 0), (9, slv l_1.q l_1.n l_1.cap), (10, .int .i64 s.w10), (11, .bool o_3), (12, .int .i64 s_1.rest12), (13, .int .i64 s_1.i13)]) (fun l_5 => [(b, .cells #[.slice qa0 na0 ca0, .int .i64 s0.wind.lo, .int .i64 s0.wind.hi, .slice qa1 na1 ca1, .slice qa2 na2 ca2] 59 (0, 0))]) (fun l_5 => [⟨3, RI.enc s.out9, l_1.sp, l_1.q⟩]) ?_ ?_
       ·replace hm := h16
        refine g_seq ?_
        refine g_region ?_
        refine g_val rfl rfl rfl (fun _ _ => v_move rfl) ?_
        obtain ⟨t32, h18, hm⟩ := bindO hm
        refine g_val rfl rfl rfl (fun _ _ => v_remc h18 rfl rfl) ?_
        refine g_val rfl rfl rfl (fun _ _ => v_eql rfl rfl) ?_
        refine g_nil ?_
        refine g_n_then ?_
        refine g_cond rfl (fun h19 => ?_) (fun h19 => ?_)
        ·replace hm := ifT (of_decide_eq_true h19) hm
         refine g_draw none (.free 0 (.free 1 (.hoist 2 (.free 3 (.free 4 (.free 5 (.free 6 (.free 7 (.hoist 8 (.one 9 (.free 10 (.free 11 .done)))))))))))) _ rfl (by decide +kernel) (fun w k hh => hh.draw k) (fun w hh => hh) ?_
         refine p_free rfl rfl rfl rfl (fun _ _ => v_move rfl) ?_
         refine p_free rfl rfl rfl rfl (fun _ _ => v_move rfl) ?_
         refine g_case 35 rfl (fun h20 => ?_) (fun h20 => ?_)
         ·replace hm := ifT (h20) hm
          refine p_hoistG rfl rfl rfl rfl rfl rfl (fun w hh => v_loadAgg (vs := [_, _, _, _, _]) (Try.isAgg59 w) (Try.sizeOf59 w) rfl (hh.cells 0 rfl rfl)) ?_
          refine p_freeG rfl rfl rfl rfl rfl rfl (fun _ _ => v_move rfl) ?_
          refine p_freeG rfl rfl rfl rfl rfl rfl (fun _ _ => v_move rfl) ?_
          refine p_freeG rfl rfl rfl rfl rfl rfl (fun _ _ => v_move rfl) ?_
          refine p_freeG rfl rfl rfl rfl rfl rfl (fun _ _ => v_move rfl) ?_
          obtain ⟨t41, h21, hm⟩ := bindO hm
          refine p_freeG rfl rfl rfl rfl rfl rfl (fun w _ => v_ixR h21 (Try.runUnderlying90 w) (Try.sizeOf101 w) rfl rfl hna4 hqa4) ?_
          refine p_hoistG rfl rfl rfl rfl rfl rfl (fun w hh => v_ldEA RL 0 [.int .i64 t41.min, .int .i64 t41.place, .bool t41.wet] h21 (Try.isAgg101 w) (Try.sizeOf101 w) rfl (hh.seg 4 rfl) rfl (Nat.add_zero _).symm) ?_
          refine p_one rfl ?_
          refine v_unguard rfl rfl ?_
          obtain ⟨t43, h22, hm⟩ := bindO hm
          refine g_callH [] [] rfl rfl rfl rfl rfl rfl rfl (fun a w => Try.call126 a w) (fun w hh => c_laurelref01_agrees s0 gates1 s.w10 (⟨t41.min, t41.place, t41.wet⟩ : Look) qa0 na0 ca0 qa1 na1 ca1 qa2 na2 ca2 qa3 na3 ca3 w (HV.callee (S0 := []) (vs0 := []) hh (roC (hh.rsep (S0 := []) (vs0 := []) 0 rfl) (roC (hh.rsep (S0 := []) (vs0 := []) 1 rfl) (roC (hh.rsep (S0 := []) (vs0 := []) 2 rfl) (roC (hh.rsep (S0 := []) (vs0 := []) 3 rfl) roN))))) hna0 hqa0 hla0 hna1 hqa1 hla1 hna2 hqa2 hla2 hna3 hqa3 hla3 h22) (fun l_6 h23 => ?_)
          refine p_next (fun w hh => hh) ?_
          refine p_free rfl rfl rfl rfl (fun _ _ => v_pickT rfl rfl) ?_
          refine p_free rfl rfl rfl rfl (fun _ _ => v_assign rfl) ?_
          refine p_done ?_
          obtain rfl := Option.some.inj hm
          exact g_leaf () (trivial) ((.cons rfl (.cons rfl (.cons rfl (.cons rfl (.cons rfl (.cons rfl (.cons rfl (.cons rfl (.cons rfl .nil)))))))))) (fun w hh => hh)
         ·replace hm := ifF ((fun hh => Bool.noConfusion ((h20).symm.trans hh))) hm
          refine p_skip rfl rfl rfl rfl rfl rfl rfl ?_
          refine p_skipF rfl rfl rfl rfl rfl rfl rfl ?_
          refine p_skipF rfl rfl rfl rfl rfl rfl rfl ?_
          refine p_skipF rfl rfl rfl rfl rfl rfl rfl ?_
          refine p_skipF rfl rfl rfl rfl rfl rfl rfl ?_
          refine p_skipF rfl rfl rfl rfl rfl rfl rfl ?_
          refine p_skip rfl rfl rfl rfl rfl rfl rfl ?_
          refine p_one rfl ?_
          refine g_skipG rfl rfl rfl rfl rfl rfl ?_
          refine p_next (fun w hh => hh) ?_
          refine p_free rfl rfl rfl rfl (fun _ _ => v_pickF rfl rfl) ?_
          refine p_free rfl rfl rfl rfl (fun _ _ => v_assign rfl) ?_
          refine p_done ?_
          obtain rfl := Option.some.inj hm
          exact g_leaf () (trivial) ((.cons rfl (.cons rfl (.cons rfl (.cons rfl (.cons rfl (.cons rfl (.cons rfl (.cons rfl (.cons rfl .nil)))))))))) (fun w hh => hh)
        ·replace hm := ifF (of_decide_eq_false h19) hm
         refine g_skip ?_
         obtain rfl := Option.some.inj hm
         exact g_leaf () (trivial) ((.cons rfl (.cons rfl (.cons rfl (.cons rfl (.cons rfl (.cons rfl (.cons rfl (.cons rfl (.cons rfl .nil)))))))))) (fun w hh => hh)
       ·intro l_5 hj
        replace hm := h17
        refine g_n_then ?_
        refine g_region ?_
        refine g_val rfl rfl rfl (fun _ _ => v_move rfl) ?_
        obtain ⟨t46, h24, hm⟩ := bindO hm
        refine g_val rfl rfl rfl (fun _ _ => v_quoc h24 rfl rfl) ?_
        refine g_val rfl rfl rfl (fun _ _ => v_assign rfl) ?_
        refine g_nil ?_
        refine g_n_blk ?_
        refine g_n_then ?_
        refine g_region ?_
        refine g_val rfl rfl rfl (fun _ _ => v_move rfl) ?_
        obtain ⟨t30, h25, hm⟩ := bindO hm
        refine g_val rfl rfl rfl (fun _ _ => v_addc h25 rfl rfl) ?_
        refine g_val rfl rfl rfl (fun _ _ => v_assign rfl) ?_
        refine g_nil ?_
        obtain rfl := Option.some.inj hm
        refine g_n_then ?_
        exact g_again' _ () rfl (trivial) ((.cons rfl (.cons rfl (.cons rfl (.cons rfl (.cons rfl (.cons rfl (.cons rfl (.cons rfl (.cons rfl .nil)))))))))) (fun w hh => hh)
      ·replace hm := ifF (of_decide_eq_false h15) hm
       refine g_exit ?_
       refine g_x_then ?_
       refine g_x_then ?_
       refine g_x_blk ?_
       obtain rfl := Option.some.inj hm
       have hbo := h14 _ rfl
       subst hbo
       exact g_leaf () (trivial) ((.cons rfl (.cons rfl (.cons rfl (.cons rfl (.cons rfl (.cons rfl (.cons rfl .nil)))))))) (fun w hh => hh)
     ·intro l_3 hj
      replace hm := h13
      refine g_n_then ?_
      refine g_seq ?_
      refine g_region ?_
      refine g_val rfl rfl rfl (fun _ _ => v_move rfl) ?_
      refine g_nil ?_
      refine g_n_then ?_
      refine g_cond rfl (fun h26 => ?_) (fun h26 => ?_)
      ·replace hm := ifT (h26) hm
       refine g_region ?_
       refine g_val rfl rfl rfl (fun _ _ => v_move rfl) ?_
       refine g_val rfl rfl rfl (fun _ _ => v_move rfl) ?_
       refine g_vlit RI [s.w10] (ps := [(0, _)]) (cells := [_]) (fun w => Try.runUnderlying26 w) (fun w => Try.sizeOf3 w) (fun w => Try.zeroValue3 w) rfl rfl rfl rfl rfl rfl rfl rfl (fun L h27 => ?_)
       obtain ⟨t51, h28, hm⟩ := bindO hm
       refine g_vapp RI 1 h28 Try.underlying26 gxinf3 rfl rfl rfl rfl rfl h6 rfl rfl (vlen RI h27 rfl) (AOK.q (vne h27)) (fun w hh => (hh.vsegA 0 rfl h27)) rfl (fun L_1 h29 h29n => ?_)
       refine g_sel (S' := [_]) (vs' := [_, _]) [0] [0, 1] 0 (by decide) (by decide) rfl rfl rfl ?_
       refine g_val rfl rfl rfl (fun _ _ => v_assign rfl) ?_
       refine g_nil ?_
       refine g_n_blk ?_
       obtain rfl := Option.some.inj hm
       exact g_leaf L_1 (h29) ((.cons rfl (.cons rfl (.cons rfl (.cons rfl (.cons rfl (.cons rfl .nil))))))) (fun w hh => hh.sel [0] [1] 0 (by decide) (by decide) rfl rfl rfl)
      ·replace hm := ifF ((fun hh => Bool.noConfusion ((h26).symm.trans hh))) hm
       refine g_skip ?_
       refine g_n_blk ?_
       obtain rfl := Option.some.inj hm
       exact g_leaf l_1 (h6) ((.cons rfl (.cons rfl (.cons rfl (.cons rfl (.cons rfl (.cons rfl .nil))))))) (fun w hh => hh)
    ·intro l_2 hj
     have h11 := hj
     replace hm := h10
     refine g_n_then ?_
     refine g_region ?_
     refine g_val rfl rfl rfl (fun _ _ => v_move rfl) ?_
     obtain ⟨t23, h30, hm⟩ := bindO hm
     refine g_val rfl rfl rfl (fun _ _ => v_addc h30 rfl rfl) ?_
     refine g_val rfl rfl rfl (fun _ _ => v_assign rfl) ?_
     refine g_nil ?_
     obtain rfl := Option.some.inj hm
     refine g_n_then ?_
     exact g_again' _ l_2 rfl (h11) ((.cons rfl (.cons rfl (.cons rfl (.cons rfl (.cons rfl (.cons rfl .nil))))))) (fun w hh => hh)
   ·replace hm := ifF (of_decide_eq_false h8) hm
    refine g_exit ?_
    refine g_x_then ?_
    refine g_x_then ?_
    refine g_x_blk ?_
    obtain rfl := Option.some.inj hm
    have hbo := h7 _ rfl
    subst hbo
    exact g_leaf l_1 (h6) ((.cons rfl .nil)) (fun w hh => hh)
  ·intro l hj
   have h5 := hj
   replace hm := h4
   refine g_n_then ?_
   refine g_seq ?_
   refine g_region ?_
   refine g_val rfl rfl rfl (fun _ _ => v_move rfl) ?_
   refine g_val rfl rfl rfl (fun _ _ => v_assign rfl) ?_
   refine g_nil ?_
   refine g_n_then ?_
   refine g_ret ?_
   obtain rfl := Option.some.inj hm
   refine g_done rfl (fun w hh => (.tmp rfl .nil)) (fun w hh => ⟨l, rfl, h5, hh.sel [] [0] 5 (by decide) (by decide) rfl rfl rfl⟩)
structure m_laurelref01_members_S0 where
  set0 : Int
  i4 : Int
  out3 : (List Int)
def m_laurelref01_members_L0  (s : m_laurelref01_members_S0) : Option (m_laurelref01_members_S0 ⊕ (List Int)) :=
 if 0 < s.set0 then
 (((remc s.set0 2).bind fun t10 =>
 if t10 = 1 then
 ((appc 8 s.out3 [s.i4]).bind fun t15 =>
 some t15) else
 (some s.out3)).bind fun o_1 =>
 (quoc s.set0 2).bind fun t17 =>
 (addc s.i4 1).bind fun t8 =>
 some (.inl (⟨t17, t8, o_1⟩ : m_laurelref01_members_S0))) else
 (some (.inr s.out3))
def m_laurelref01_members (set0 : Int) : Option (List Int) :=
 (iterM FU (m_laurelref01_members_L0) (⟨set0, 0, []⟩ : m_laurelref01_members_S0)).bind fun o =>
 some o
set_option maxRecDepth 100000 in
set_option maxHeartbeats 4000000 in
theorem c_laurelref01_members (set0 : Int)  (w : World) (hw : HV w (keys [] []) [] [] [] w)  {res : (List Int)} (hm : m_laurelref01_members set0 = some res) :
    Calls Try.prog 127 #[.int .i64 set0] w (fun en w' => ∃ l : VL, en = .returned (slv l.q l.n l.cap) ∧ (VOK 1 l.n l.cap (RI.enc res) l.sp l.q ∧ (l.q = none ↔ res = [])) ∧ HV w (keys [] []) [] [⟨3, RI.enc res, l.sp, l.q⟩] [] w') := by
  unfold m_laurelref01_members at hm
  refine g_enter (args := [.int .i64 set0]) Try.func127 rfl Try.ntmps127 rfl (e := [(0, _)]) rfl (H := HV w (keys [] []) [] [] []) hw ?_
  refine g_seq ?_
  refine g_region ?_
  refine g_val rfl rfl rfl (fun _ _ => v_nilS rfl) ?_
  refine g_nil ?_
  refine g_n_then ?_
  refine g_seq ?_
  refine g_region ?_
  refine g_val rfl rfl rfl (fun _ _ => v_nilS rfl) ?_
  refine g_nil ?_
  refine g_n_then ?_
  refine g_seq ?_
  refine g_seq ?_
  refine g_region ?_
  refine g_val rfl rfl rfl (fun _ _ => v_assign rfl) ?_
  refine g_nil ?_
  refine g_n_then ?_
  refine g_vnil 3 ?_
  obtain ⟨o, h3, h4⟩ := bindO hm
  refine g_cut (ι := VL) (fun l => VOK 1 l.n l.cap (RI.enc o) l.sp l.q ∧ (l.q = none ↔ o = [])) (fun l => [(3, slv l.q l.n l.cap)]) (fun l => []) (fun l => [⟨3, RI.enc o, l.sp, l.q⟩]) ?_ ?_
  ·replace hm := h3
   refine g_block ?_
   refine g_loopF (ι := VL) hm (fun s l_1 => VOK 1 l_1.n l_1.cap (RI.enc s.out3) l_1.sp l_1.q ∧ (l_1.q = none ↔ s.out3 = [])) (fun s l_1 => [(0, .int .i64 s.set0), (3, slv l_1.q l_1.n l_1.cap), (4, .int .i64 s.i4)]) (fun s l_1 => []) (fun s l_1 => [⟨3, RI.enc s.out3, l_1.sp, l_1.q⟩]) ⟨none, 0, 0, []⟩ (⟨VOK.nil, nieN⟩) ((.cons rfl (.cons rfl (.cons rfl .nil)))) (fun w hh => hh) (fun s l_1 r hpl hm h9 => ?_)
   obtain ⟨h7, h8⟩ := hpl
   unfold m_laurelref01_members_L0 at hm
   refine g_seq ?_
   refine g_seq ?_
   refine g_region ?_
   refine g_val rfl rfl rfl (fun _ _ => v_move rfl) ?_
   refine g_val rfl rfl rfl (fun _ _ => v_gtr rfl rfl) ?_
   refine g_nil ?_
   refine g_n_then ?_
   refine g_cond rfl (fun h10 => ?_) (fun h10 => ?_)
   ·replace hm := ifT (of_decide_eq_true h10) hm
    refine g_skip ?_
    refine g_n_then ?_
    refine g_seq ?_
    refine g_block ?_
    refine g_seq ?_
    obtain ⟨o_1, h11, h12⟩ := bindO hm
    refine g_cut (ι := VL) (fun l_2 => VOK 1 l_2.n l_2.cap (RI.enc o_1) l_2.sp l_2.q ∧ (l_2.q = none ↔ o_1 = [])) (fun l_2 => [(0, .int .i64 s.set0), (3, slv l_2.q l_2.n l_2.cap), (4, .int .i64 s.i4)]) (fun l_2 => []) (fun l_2 => [⟨3, RI.enc o_1, l_2.sp, l_2.q⟩]) ?_ ?_
    ·replace hm := h11
     refine g_seq ?_
     refine g_region ?_
     refine g_val rfl rfl rfl (fun _ _ => v_move rfl) ?_
     obtain ⟨t10, h15, hm⟩ := bindO hm
     refine g_val rfl rfl rfl (fun _ _ => v_remc h15 rfl rfl) ?_
     refine g_val rfl rfl rfl (fun _ _ => v_eql rfl rfl) ?_
     refine g_nil ?_
     refine g_n_then ?_
     refine g_cond rfl (fun h16 => ?_) (fun h16 => ?_)
     ·replace hm := ifT (of_decide_eq_true h16) hm
      refine g_region ?_
      refine g_val rfl rfl rfl (fun _ _ => v_move rfl) ?_
      refine g_val rfl rfl rfl (fun _ _ => v_move rfl) ?_
      refine g_vlit RI [s.i4] (ps := [(0, _)]) (cells := [_]) (fun w => Try.runUnderlying26 w) (fun w => Try.sizeOf3 w) (fun w => Try.zeroValue3 w) rfl rfl rfl rfl rfl rfl rfl rfl (fun L h17 => ?_)
      obtain ⟨t15, h18, hm⟩ := bindO hm
      refine g_vapp RI 1 h18 Try.underlying26 gxinf3 rfl rfl rfl rfl rfl h7 rfl rfl (vlen RI h17 rfl) (AOK.q (vne h17)) (fun w hh => (hh.vsegA 0 rfl h17)) rfl (fun L_1 h19 h19n => ?_)
      refine g_sel (S' := []) (vs' := [_, _]) [] [0, 1] 0 (by decide) (by decide) rfl rfl rfl ?_
      refine g_val rfl rfl rfl (fun _ _ => v_assign rfl) ?_
      refine g_nil ?_
      obtain rfl := Option.some.inj hm
      exact g_leaf L_1 (⟨h19, (h19n h8)⟩) ((.cons rfl (.cons rfl (.cons rfl .nil)))) (fun w hh => hh.sel [] [1] 0 (by decide) (by decide) rfl rfl rfl)
     ·replace hm := ifF (of_decide_eq_false h16) hm
      refine g_skip ?_
      obtain rfl := Option.some.inj hm
      exact g_leaf l_1 (⟨h7, h8⟩) ((.cons rfl (.cons rfl (.cons rfl .nil)))) (fun w hh => hh)
    ·intro l_2 hj
     obtain ⟨h13, h14⟩ := hj
     replace hm := h12
     refine g_n_then ?_
     refine g_region ?_
     refine g_val rfl rfl rfl (fun _ _ => v_move rfl) ?_
     obtain ⟨t17, h20, hm⟩ := bindO hm
     refine g_val rfl rfl rfl (fun _ _ => v_quoc h20 rfl rfl) ?_
     refine g_val rfl rfl rfl (fun _ _ => v_assign rfl) ?_
     refine g_nil ?_
     refine g_n_blk ?_
     refine g_n_then ?_
     refine g_region ?_
     refine g_val rfl rfl rfl (fun _ _ => v_move rfl) ?_
     obtain ⟨t8, h21, hm⟩ := bindO hm
     refine g_val rfl rfl rfl (fun _ _ => v_addc h21 rfl rfl) ?_
     refine g_val rfl rfl rfl (fun _ _ => v_assign rfl) ?_
     refine g_nil ?_
     obtain rfl := Option.some.inj hm
     refine g_n_then ?_
     exact g_again' _ l_2 rfl (⟨h13, h14⟩) ((.cons rfl (.cons rfl (.cons rfl .nil)))) (fun w hh => hh)
   ·replace hm := ifF (of_decide_eq_false h10) hm
    refine g_exit ?_
    refine g_x_then ?_
    refine g_x_then ?_
    refine g_x_blk ?_
    obtain rfl := Option.some.inj hm
    have hbo := h9 _ rfl
    subst hbo
    exact g_leaf l_1 (⟨h7, h8⟩) ((.cons rfl .nil)) (fun w hh => hh)
  ·intro l hj
   obtain ⟨h5, h6⟩ := hj
   replace hm := h4
   refine g_n_then ?_
   refine g_seq ?_
   refine g_region ?_
   refine g_val rfl rfl rfl (fun _ _ => v_move rfl) ?_
   refine g_val rfl rfl rfl (fun _ _ => v_assign rfl) ?_
   refine g_nil ?_
   refine g_n_then ?_
   refine g_ret ?_
   obtain rfl := Option.some.inj hm
   refine g_done rfl (fun w hh => (.tmp rfl .nil)) (fun w hh => ⟨l, rfl, ⟨h5, h6⟩, hh⟩)
def m_laurelref01_ahead_L0 (a0 : (List Int)) (b1 : (List Int)) (s : Int) : Option (Int ⊕ (Unit ⊕ Bool)) :=
 if s < (a0.length : Int) then
 ((ix a0 s).bind fun t24 =>
 (ix b1 s).bind fun t28 =>
 if t24 = t28 then
 ((addc s 1).bind fun t21 =>
 some (.inl t21)) else
 ((ix a0 s).bind fun t33 =>
 (ix b1 s).bind fun t37 =>
 some (.inr (.inr (decide (t33 < t37)))))) else
 (some (.inr (.inl ())))
def m_laurelref01_ahead (a0 : (List Int)) (b1 : (List Int)) : Option Bool :=
 if (a0.length : Int) = (b1.length : Int) then
 ((iterM FU (m_laurelref01_ahead_L0 a0 b1) 0).bind fun o =>
 oc o (fun j => some false) (fun r_1 => some r_1)) else
 (some (decide ((a0.length : Int) < (b1.length : Int))))
set_option maxRecDepth 100000 in
set_option maxHeartbeats 4000000 in
theorem c_laurelref01_ahead (a0 : (List Int)) (b1 : (List Int)) (qa0 : Option Addr) (na0 ca0 : Nat) (qa1 : Option Addr) (na1 ca1 : Nat) (w : World) (hw : HV w (keys [] []) [] [] [(aB qa0, aO qa0, RI.enc a0), (aB qa1, aO qa1, RI.enc b1)] w) (hna0 : a0.length = na0) (hqa0 : AOK na0 qa0) (hla0 : na0 ≤ ca0) (hna1 : b1.length = na1) (hqa1 : AOK na1 qa1) (hla1 : na1 ≤ ca1) {res : Bool} (hm : m_laurelref01_ahead a0 b1 = some res) :
    Calls Try.prog 128 #[.slice qa0 na0 ca0, .slice qa1 na1 ca1] w (fun en w' => ∃ l : Unit, en = .returned (.bool res) ∧ (True) ∧ HV w (keys [] []) [] [] [] w') := by
  unfold m_laurelref01_ahead at hm
  refine g_enter (args := [.slice qa0 na0 ca0, .slice qa1 na1 ca1]) Try.func128 rfl Try.ntmps128 rfl (e := [(0, _), (1, _)]) rfl (H := HV w (keys [] []) [] [] [(aB qa0, aO qa0, RI.enc a0), (aB qa1, aO qa1, RI.enc b1)]) hw ?_
  refine g_seq ?_
  refine g_region ?_
  refine g_val rfl rfl rfl (fun _ _ => v_assign rfl) ?_
  refine g_nil ?_
  refine g_n_then ?_
  refine g_seq ?_
  refine g_seq ?_
  refine g_region ?_
  refine g_val rfl rfl rfl (fun _ _ => v_move rfl) ?_
  refine g_val rfl rfl rfl (fun w _ => v_lenR hna0 (Try.runUnderlying26 w) rfl) ?_
  refine g_val rfl rfl rfl (fun _ _ => v_move rfl) ?_
  refine g_val rfl rfl rfl (fun w _ => v_lenR hna1 (Try.runUnderlying26 w) rfl) ?_
  refine g_val rfl rfl rfl (fun _ _ => v_neq rfl rfl) ?_
  refine g_nil ?_
  refine g_n_then ?_
  refine g_cond rfl (fun h1 => ?_) (fun h1 => ?_)
  ·replace hm := ifF (of_ndec_true h1) hm
   refine g_seq ?_
   refine g_region ?_
   refine g_val rfl rfl rfl (fun _ _ => v_move rfl) ?_
   refine g_val rfl rfl rfl (fun w _ => v_lenR hna0 (Try.runUnderlying26 w) rfl) ?_
   refine g_val rfl rfl rfl (fun _ _ => v_move rfl) ?_
   refine g_val rfl rfl rfl (fun w _ => v_lenR hna1 (Try.runUnderlying26 w) rfl) ?_
   refine g_val rfl rfl rfl (fun _ _ => v_lss rfl rfl) ?_
   refine g_val rfl rfl rfl (fun _ _ => v_assign rfl) ?_
   refine g_nil ?_
   refine g_n_then ?_
   refine g_ret ?_
   refine g_r_then ?_
   obtain rfl := Option.some.inj hm
   refine g_done rfl (fun w hh => (.tmp rfl .nil)) (fun w hh => ⟨(), rfl, trivial, hh.sel [] [] 2 (by decide) (by decide) rfl rfl rfl⟩)
  ·replace hm := ifT (of_ndec_false h1) hm
   refine g_skip ?_
   refine g_n_then ?_
   refine g_seq ?_
   refine g_seq ?_
   refine g_region ?_
   refine g_val rfl rfl rfl (fun _ _ => v_assign rfl) ?_
   refine g_nil ?_
   refine g_n_then ?_
   obtain ⟨o, h2, h3⟩ := bindO hm
   refine g_cut (ι := Unit) (fun j => o = .inl j) (fun j => []) (fun j => []) (fun j => []) ?_ ?_
   ·replace hm := h2
    refine g_block ?_
    refine g_loopF (ι := Unit) hm (fun s l => True) (fun s l => [(0, .slice qa0 na0 ca0), (1, .slice qa1 na1 ca1), (5, .int .i64 s)]) (fun s l => []) (fun s l => []) () (trivial) ((.cons rfl (.cons rfl (.cons rfl .nil)))) (fun w hh => hh) (fun s l r hpl hm h4 => ?_)
    unfold m_laurelref01_ahead_L0 at hm
    refine g_seq ?_
    refine g_seq ?_
    refine g_region ?_
    refine g_val rfl rfl rfl (fun _ _ => v_move rfl) ?_
    refine g_val rfl rfl rfl (fun _ _ => v_move rfl) ?_
    refine g_val rfl rfl rfl (fun w _ => v_lenR hna0 (Try.runUnderlying26 w) rfl) ?_
    refine g_val rfl rfl rfl (fun _ _ => v_lss rfl rfl) ?_
    refine g_nil ?_
    refine g_n_then ?_
    refine g_cond rfl (fun h5 => ?_) (fun h5 => ?_)
    ·replace hm := ifT (of_decide_eq_true h5) hm
     refine g_skip ?_
     refine g_n_then ?_
     refine g_seq ?_
     refine g_block ?_
     refine g_seq ?_
     refine g_draw none (.free 0 (.free 1 (.free 2 (.hoist 3 (.free 4 (.free 5 (.free 6 (.hoist 7 (.free 8 .done))))))))) _ rfl (by decide +kernel) (fun w k hh => hh.draw k) (fun w hh => hh) ?_
     refine p_free rfl rfl rfl rfl (fun _ _ => v_move rfl) ?_
     refine p_free rfl rfl rfl rfl (fun _ _ => v_move rfl) ?_
     obtain ⟨t24, h6, hm⟩ := bindO hm
     refine p_free rfl rfl rfl rfl (fun w _ => v_ixR h6 (Try.runUnderlying26 w) (Try.sizeOf3 w) rfl rfl hna0 hqa0) ?_
     refine p_hoist rfl rfl rfl rfl (fun w hh => v_ldE RI 0 h6 (Try.isAgg3 w) rfl (hh.seg 0 rfl) rfl (Nat.add_zero _).symm) ?_
     refine p_free rfl rfl rfl rfl (fun _ _ => v_move rfl) ?_
     refine p_free rfl rfl rfl rfl (fun _ _ => v_move rfl) ?_
     obtain ⟨t28, h7, hm⟩ := bindO hm
     refine p_free rfl rfl rfl rfl (fun w _ => v_ixR h7 (Try.runUnderlying26 w) (Try.sizeOf3 w) rfl rfl hna1 hqa1) ?_
     refine p_hoist rfl rfl rfl rfl (fun w hh => v_ldE RI 0 h7 (Try.isAgg3 w) rfl (hh.seg 1 rfl) rfl (Nat.add_zero _).symm) ?_
     refine p_free rfl rfl rfl rfl (fun _ _ => v_neq rfl rfl) ?_
     refine p_done ?_
     refine g_n_then ?_
     refine g_cond rfl (fun h8 => ?_) (fun h8 => ?_)
     ·replace hm := ifF (of_ndec_true h8) hm
      refine g_seq ?_
      refine g_draw none (.free 0 (.free 1 (.free 2 (.hoist 3 (.free 4 (.free 5 (.free 6 (.hoist 7 (.free 8 (.free 9 .done)))))))))) _ rfl (by decide +kernel) (fun w k hh => hh.draw k) (fun w hh => hh) ?_
      refine p_free rfl rfl rfl rfl (fun _ _ => v_move rfl) ?_
      refine p_free rfl rfl rfl rfl (fun _ _ => v_move rfl) ?_
      obtain ⟨t33, h9, hm⟩ := bindO hm
      refine p_free rfl rfl rfl rfl (fun w _ => v_ixR h9 (Try.runUnderlying26 w) (Try.sizeOf3 w) rfl rfl hna0 hqa0) ?_
      refine p_hoist rfl rfl rfl rfl (fun w hh => v_ldE RI 0 h9 (Try.isAgg3 w) rfl (hh.seg 0 rfl) rfl (Nat.add_zero _).symm) ?_
      refine p_free rfl rfl rfl rfl (fun _ _ => v_move rfl) ?_
      refine p_free rfl rfl rfl rfl (fun _ _ => v_move rfl) ?_
      obtain ⟨t37, h10, hm⟩ := bindO hm
      refine p_free rfl rfl rfl rfl (fun w _ => v_ixR h10 (Try.runUnderlying26 w) (Try.sizeOf3 w) rfl rfl hna1 hqa1) ?_
      refine p_hoist rfl rfl rfl rfl (fun w hh => v_ldE RI 0 h10 (Try.isAgg3 w) rfl (hh.seg 1 rfl) rfl (Nat.add_zero _).symm) ?_
      refine p_free rfl rfl rfl rfl (fun _ _ => v_lss rfl rfl) ?_
      refine p_free rfl rfl rfl rfl (fun _ _ => v_assign rfl) ?_
      refine p_done ?_
      refine g_n_then ?_
      refine g_ret ?_
      refine g_r_blk ?_
      refine g_r_then ?_
      refine g_r_then ?_
      refine g_r_blk ?_
      obtain rfl := Option.some.inj hm
      have hbo := h4 _ rfl
      subst hbo
      refine g_r_then ?_
      replace hm := ocR h3
      refine g_r_then ?_
      obtain rfl := Option.some.inj hm
      refine g_done rfl (fun w hh => (.tmp rfl .nil)) (fun w hh => ⟨(), rfl, trivial, hh.sel [] [] 2 (by decide) (by decide) rfl rfl rfl⟩)
     ·replace hm := ifT (of_ndec_false h8) hm
      refine g_skip ?_
      refine g_n_blk ?_
      refine g_n_then ?_
      refine g_region ?_
      refine g_val rfl rfl rfl (fun _ _ => v_move rfl) ?_
      obtain ⟨t21, h11, hm⟩ := bindO hm
      refine g_val rfl rfl rfl (fun _ _ => v_addc h11 rfl rfl) ?_
      refine g_val rfl rfl rfl (fun _ _ => v_assign rfl) ?_
      refine g_nil ?_
      obtain rfl := Option.some.inj hm
      refine g_n_then ?_
      exact g_again' _ () rfl (trivial) ((.cons rfl (.cons rfl (.cons rfl .nil)))) (fun w hh => hh)
    ·replace hm := ifF (of_decide_eq_false h5) hm
     refine g_exit ?_
     refine g_x_then ?_
     refine g_x_then ?_
     refine g_x_blk ?_
     obtain rfl := Option.some.inj hm
     have hbo := h4 _ rfl
     subst hbo
     exact g_leaf () (rfl) (.nil) (fun w hh => hh)
   ·intro j hj
    have h12 := hj
    subst h12
    replace hm := ocL h3
    refine g_n_then ?_
    refine g_seq ?_
    refine g_region ?_
    refine g_val rfl rfl rfl (fun _ _ => v_assign rfl) ?_
    refine g_nil ?_
    refine g_n_then ?_
    refine g_ret ?_
    obtain rfl := Option.some.inj hm
    refine g_done rfl (fun w hh => (.tmp rfl .nil)) (fun w hh => ⟨(), rfl, trivial, hh.sel [] [] 2 (by decide) (by decide) rfl rfl rfl⟩)
structure m_laurelref01_Clash_R where
  r1 : Bool
  r0 : (List Int)
structure m_laurelref01_Clash_S0 where
  sets8 : Int
  i9 : Int
def m_laurelref01_Clash_L0 (looks2 : (List Look)) (s : m_laurelref01_Clash_S0) : Option (m_laurelref01_Clash_S0 ⊕ Int) :=
 if s.i9 < (looks2.length : Int) then
 ((mulc 2 s.sets8).bind fun t20 =>
 (addc s.i9 1).bind fun t18 =>
 some (.inl (⟨t20, t18⟩ : m_laurelref01_Clash_S0))) else
 (some (.inr s.sets8))
structure m_laurelref01_Clash_S1 where
  set11 : Int
  best10 : (List Int)
def m_laurelref01_Clash_L1 (o : Int) (s0 : Sands) (gates1 : (List Int)) (looks2 : (List Look)) (s_1 : m_laurelref01_Clash_S1) : Option (m_laurelref01_Clash_S1 ⊕ (List Int)) :=
 if s_1.set11 < o then
 (((m_laurelref01_members s_1.set11).bind fun t27 =>
 (if (s_1.best10.isEmpty) = true then
 ((m_laurelref01_Left s0 gates1 looks2 s_1.set11).bind fun t40 =>
 some (decide ((t40.length : Int) = 0))) else
 ((m_laurelref01_ahead t27 s_1.best10).bind fun t33 =>
 if t33 = true then
 ((m_laurelref01_Left s0 gates1 looks2 s_1.set11).bind fun t40_1 =>
 some (decide ((t40_1.length : Int) = 0))) else
 (some false))).bind fun o_3 =>
 if o_3 = true then
 (some t27) else
 (some s_1.best10)).bind fun o_2 =>
 (addc s_1.set11 1).bind fun t25 =>
 some (.inl (⟨t25, o_2⟩ : m_laurelref01_Clash_S1))) else
 (some (.inr s_1.best10))
def m_laurelref01_Clash (s0 : Sands) (gates1 : (List Int)) (looks2 : (List Look)) : Option m_laurelref01_Clash_R :=
 (iterM FU (m_laurelref01_Clash_L0 looks2) (⟨1, 0⟩ : m_laurelref01_Clash_S0)).bind fun o =>
 (iterM FU (m_laurelref01_Clash_L1 o s0 gates1 looks2) (⟨1, []⟩ : m_laurelref01_Clash_S1)).bind fun o_1 =>
 some (⟨(!(o_1.isEmpty)), o_1⟩ : m_laurelref01_Clash_R)
set_option maxRecDepth 100000 in
set_option maxHeartbeats 4000000 in
theorem c_laurelref01_Clash (s0 : Sands) (gates1 : (List Int)) (looks2 : (List Look)) (qa0 : Option Addr) (na0 ca0 : Nat) (qa1 : Option Addr) (na1 ca1 : Nat) (qa2 : Option Addr) (na2 ca2 : Nat) (qa3 : Option Addr) (na3 ca3 : Nat) (qa4 : Option Addr) (na4 ca4 : Nat) (w : World) (hw : HV w (keys [] []) [] [] [(aB qa0, aO qa0, RW.enc s0.table), (aB qa1, aO qa1, RI.enc s0.floors), (aB qa2, aO qa2, RS.enc s0.sills), (aB qa3, aO qa3, RI.enc gates1), (aB qa4, aO qa4, RL.enc looks2)] w) (hna0 : s0.table.length = na0) (hqa0 : AOK na0 qa0) (hla0 : na0 ≤ ca0) (hna1 : s0.floors.length = na1) (hqa1 : AOK na1 qa1) (hla1 : na1 ≤ ca1) (hna2 : s0.sills.length = na2) (hqa2 : AOK na2 qa2) (hla2 : na2 ≤ ca2) (hna3 : gates1.length = na3) (hqa3 : AOK na3 qa3) (hla3 : na3 ≤ ca3) (hna4 : looks2.length = na4) (hqa4 : AOK na4 qa4) (hla4 : na4 ≤ ca4) {res : m_laurelref01_Clash_R} (hm : m_laurelref01_Clash s0 gates1 looks2 = some res) :
    Calls Try.prog 57 #[.agg #[.slice qa0 na0 ca0, .int .i64 s0.wind.lo, .int .i64 s0.wind.hi, .slice qa1 na1 ca1, .slice qa2 na2 ca2], .slice qa3 na3 ca3, .slice qa4 na4 ca4] w (fun en w' => ∃ l : VL, en = .returned (.tuple #[slv l.q l.n l.cap, .bool res.r1]) ∧ (VOK 1 l.n l.cap (RI.enc res.r0) l.sp l.q ∧ (l.q = none ↔ res.r0 = [])) ∧ HV w (keys [] []) [] [⟨3, RI.enc res.r0, l.sp, l.q⟩] [] w') := by
  unfold m_laurelref01_Clash at hm
  refine g_enter (args := [.agg #[.slice qa0 na0 ca0, .int .i64 s0.wind.lo, .int .i64 s0.wind.hi, .slice qa1 na1 ca1, .slice qa2 na2 ca2], .slice qa3 na3 ca3, .slice qa4 na4 ca4]) Try.func57 rfl Try.ntmps57 rfl (e := [(0, _), (1, _), (2, _)]) rfl (H := HV w (keys [] []) [] [] [(aB qa0, aO qa0, RW.enc s0.table), (aB qa1, aO qa1, RI.enc s0.floors), (aB qa2, aO qa2, RS.enc s0.sills), (aB qa3, aO qa3, RI.enc gates1), (aB qa4, aO qa4, RL.enc looks2)]) hw ?_
  refine g_seq ?_
  refine g_region ?_
  refine g_boxV rfl rfl (fun b h3 => ?_)
  refine g_val rfl rfl rfl (fun _ _ => v_nilS rfl) ?_
  refine g_val rfl rfl rfl (fun _ _ => v_assign rfl) ?_
  refine g_nil ?_
  refine g_n_then ?_
  refine g_seq ?_
  refine g_region ?_
  refine g_val rfl rfl rfl (fun _ _ => v_assign rfl) ?_
  refine g_nil ?_
  refine g_n_then ?_
  refine g_seq ?_
  refine g_seq ?_
  refine g_region ?_
  refine g_val rfl rfl rfl (fun _ _ => v_assign rfl) ?_
  refine g_nil ?_
  refine g_n_then ?_
  obtain ⟨o, h4, h5⟩ := bindO hm
  refine g_cut (ι := Unit) (fun l => True) (fun l => [(1, .slice qa3 na3 ca3), (2, .slice qa4 na4 ca4), (3, ptr b 0), (8, .int .i64 o)]) (fun l => [(b, .cells #[.slice qa0 na0 ca0, .int .i64 s0.wind.lo, .int .i64 s0.wind.hi, .slice qa1 na1 ca1, .slice qa2 na2 ca2] 59 (0, 0))]) (fun l => []) ?_ ?_
  ·replace hm := h4
   refine g_block ?_
   refine g_loopF (ι := Unit) hm (fun s l_1 => True) (fun s l_1 => [(1, .slice qa3 na3 ca3), (2, .slice qa4 na4 ca4), (3, ptr b 0), (8, .int .i64 s.sets8), (9, .int .i64 s.i9)]) (fun s l_1 => [(b, .cells #[.slice qa0 na0 ca0, .int .i64 s0.wind.lo, .int .i64 s0.wind.hi, .slice qa1 na1 ca1, .slice qa2 na2 ca2] 59 (0, 0))]) (fun s l_1 => []) () (trivial) ((.cons rfl (.cons rfl (.cons rfl (.cons rfl (.cons rfl .nil)))))) (fun w hh => hh) (fun s l_1 r hpl hm h6 => ?_)
   unfold m_laurelref01_Clash_L0 at hm
   refine g_seq ?_
   refine g_seq ?_
   refine g_region ?_
   refine g_val rfl rfl rfl (fun _ _ => v_move rfl) ?_
   refine g_val rfl rfl rfl (fun _ _ => v_move rfl) ?_
   refine g_val rfl rfl rfl (fun w _ => v_lenR hna4 (Try.runUnderlying90 w) rfl) ?_
   refine g_val rfl rfl rfl (fun _ _ => v_lss rfl rfl) ?_
   refine g_nil ?_
   refine g_n_then ?_
   refine g_cond rfl (fun h7 => ?_) (fun h7 => ?_)
   ·replace hm := ifT (of_decide_eq_true h7) hm
    refine g_skip ?_
    refine g_n_then ?_
    refine g_seq ?_
    refine g_block ?_
    refine g_region ?_
    refine g_val rfl rfl rfl (fun _ _ => v_move rfl) ?_
    obtain ⟨t20, h8, hm⟩ := bindO hm
    refine g_val rfl rfl rfl (fun _ _ => v_mulc h8 rfl rfl) ?_
    refine g_val rfl rfl rfl (fun _ _ => v_assign rfl) ?_
    refine g_nil ?_
    refine g_n_blk ?_
    refine g_n_then ?_
    refine g_region ?_
    refine g_val rfl rfl rfl (fun _ _ => v_move rfl) ?_
    obtain ⟨t18, h9, hm⟩ := bindO hm
    refine g_val rfl rfl rfl (fun _ _ => v_addc h9 rfl rfl) ?_
    refine g_val rfl rfl rfl (fun _ _ => v_assign rfl) ?_
    refine g_nil ?_
    obtain rfl := Option.some.inj hm
    refine g_n_then ?_
    exact g_again' _ () rfl (trivial) ((.cons rfl (.cons rfl (.cons rfl (.cons rfl (.cons rfl .nil)))))) (fun w hh => hh)
   ·replace hm := ifF (of_decide_eq_false h7) hm
    refine g_exit ?_
    refine g_x_then ?_
    refine g_x_then ?_
    refine g_x_blk ?_
    obtain rfl := Option.some.inj hm
    have hbo := h6 _ rfl
    subst hbo
    exact g_leaf () (trivial) ((.cons rfl (.cons rfl (.cons rfl (.cons rfl .nil))))) (fun w hh => hh)
  ·intro l hj
   replace hm := h5
   refine g_n_then ?_
   refine g_seq ?_
   refine g_region ?_
   refine g_val rfl rfl rfl (fun _ _ => v_nilS rfl) ?_
   refine g_nil ?_
   refine g_n_then ?_
   refine g_seq ?_
   refine g_seq ?_
   refine g_region ?_
   refine g_val rfl rfl rfl (fun _ _ => v_assign rfl) ?_
   refine g_nil ?_
   refine g_n_then ?_
   refine g_vnil 3 ?_
   obtain ⟨o_1, h10, h11⟩ := bindO hm
   refine g_cut (ι := VL) (fun l_2 => VOK 1 l_2.n l_2.cap (RI.enc o_1) l_2.sp l_2.q ∧ (l_2.q = none ↔ o_1 = [])) (fun l_2 => [(10, slv l_2.q l_2.n l_2.cap)]) (fun l_2 => [(b, .cells #[.slice qa0 na0 ca0, .int .i64 s0.wind.lo, .int .i64 s0.wind.hi, .slice qa1 na1 ca1, .slice qa2 na2 ca2] 59 (0, 0))]) (fun l_2 => [⟨3, RI.enc o_1, l_2.sp, l_2.q⟩]) ?_ ?_
   ·replace hm := h10
    refine g_block ?_
    refine g_loopF (ι := VL) hm (fun s_1 l_3 => VOK 1 l_3.n l_3.cap (RI.enc s_1.best10) l_3.sp l_3.q ∧ (l_3.q = none ↔ s_1.best10 = [])) (fun s_1 l_3 => [(1, .slice qa3 na3 ca3), (2, .slice qa4 na4 ca4), (3, ptr b 0), (8, .int .i64 o), (10, slv l_3.q l_3.n l_3.cap), (11, .int .i64 s_1.set11)]) (fun s_1 l_3 => [(b, .cells #[.slice qa0 na0 ca0, .int .i64 s0.wind.lo, .int .i64 s0.wind.hi, .slice qa1 na1 ca1, .slice qa2 na2 ca2] 59 (0, 0))]) (fun s_1 l_3 => [⟨3, RI.enc s_1.best10, l_3.sp, l_3.q⟩]) ⟨none, 0, 0, []⟩ (⟨VOK.nil, nieN⟩) ((.cons rfl (.cons rfl (.cons rfl (.cons rfl (.cons rfl (.cons rfl .nil))))))) (fun w hh => hh) (fun s_1 l_3 r_1 hpl hm h16 => ?_)
    obtain ⟨h14, h15⟩ := hpl
    unfold m_laurelref01_Clash_L1 at hm
    refine g_seq ?_
    refine g_seq ?_
    refine g_region ?_
    refine g_val rfl rfl rfl (fun _ _ => v_move rfl) ?_
    refine g_val rfl rfl rfl (fun _ _ => v_move rfl) ?_
    refine g_val rfl rfl rfl (fun _ _ => v_lss rfl rfl) ?_
    refine g_nil ?_
    refine g_n_then ?_
    refine g_cond rfl (fun h17 => ?_) (fun h17 => ?_)
    ·replace hm := ifT (of_decide_eq_true h17) hm
     refine g_skip ?_
     refine g_n_then ?_
     refine g_seq ?_
     obtain ⟨o_2, h18, h19⟩ := bindO hm
     refine g_cut (ι := VL) (fun l_4 => VOK 1 l_4.n l_4.cap (RI.enc o_2) l_4.sp l_4.q ∧ (l_4.q = none ↔ o_2 = [])) (fun l_4 => [(1, .slice qa3 na3 ca3), (2, .slice qa4 na4 ca4), (3, ptr b 0), (8, .int .i64 o), (10, slv l_4.q l_4.n l_4.cap), (11, .int .i64 s_1.set11)]) (fun l_4 => [(b, .cells #[.slice qa0 na0 ca0, .int .i64 s0.wind.lo, .int .i64 s0.wind.hi, .slice qa1 na1 ca1, .slice qa2 na2 ca2] 59 (0, 0))]) (fun l_4 => [⟨3, RI.enc o_2, l_4.sp, l_4.q⟩]) ?_ ?_
     ·replace hm := h18
      refine g_block ?_
      refine g_seq ?_
      refine g_region ?_
      refine g_val rfl rfl rfl (fun _ _ => v_move rfl) ?_
      obtain ⟨t27, h22, hm⟩ := bindO hm
      refine g_callH [] [] rfl rfl rfl rfl rfl rfl rfl (fun a w => Try.call127 a w) (fun w hh => c_laurelref01_members s_1.set11 w (HV.callee (S0 := []) (vs0 := []) hh roN)  h22) (fun l_5 h23 => ?_)
      obtain ⟨h24, h25⟩ := h23
      refine g_sel (S' := [_]) (vs' := [_, _]) [0] [0, 1] 0 (by decide) (by decide) rfl rfl rfl ?_
      refine g_val rfl rfl rfl (fun _ _ => v_assign rfl) ?_
      refine g_nil ?_
      refine g_n_then ?_
      refine g_seq ?_
      obtain ⟨o_3, h26, h27⟩ := bindO hm
      refine g_cut (ι := Unit) (fun l_6 => True) (fun l_6 => [(1, .slice qa3 na3 ca3), (2, .slice qa4 na4 ca4), (3, ptr b 0), (8, .int .i64 o), (10, slv l_3.q l_3.n l_3.cap), (11, .int .i64 s_1.set11), (12, slv l_5.q l_5.n l_5.cap), (43, .bool o_3)]) (fun l_6 => [(b, .cells #[.slice qa0 na0 ca0, .int .i64 s0.wind.lo, .int .i64 s0.wind.hi, .slice qa1 na1 ca1, .slice qa2 na2 ca2] 59 (0, 0))]) (fun l_6 => [⟨3, RI.enc s_1.best10, l_3.sp, l_3.q⟩, ⟨3, RI.enc t27, l_5.sp, l_5.q⟩]) ?_ ?_
      ·replace hm := h26
       refine g_region ?_
       refine g_val rfl rfl rfl (fun _ _ => v_move rfl) ?_
       refine g_val rfl rfl rfl (fun w _ => v_eqlNil h15 (Try.runUnderlying26 w) rfl rfl) ?_
       refine g_val rfl rfl rfl (fun _ _ => v_move rfl) ?_
       refine g_case 30 rfl (fun h28 => ?_) (fun h28 => ?_)
       ·replace hm := ifT (h28) hm
        refine g_skipG rfl rfl rfl rfl rfl rfl ?_
        refine g_skipG rfl rfl rfl rfl rfl rfl ?_
        refine g_skipG rfl rfl rfl rfl rfl rfl ?_
        refine g_val rfl rfl rfl (fun _ _ => v_pickT rfl rfl) ?_
        refine g_val rfl rfl rfl (fun _ _ => v_move rfl) ?_
        refine v_unguard rfl rfl ?_
        refine g_val rfl rfl rfl (fun w hh => v_loadAgg (vs := [_, _, _, _, _]) (Try.isAgg59 w) (Try.sizeOf59 w) rfl (hh.cells 0 rfl rfl)) ?_
        refine v_unguard rfl rfl ?_
        refine g_val rfl rfl rfl (fun _ _ => v_move rfl) ?_
        refine v_unguard rfl rfl ?_
        refine g_val rfl rfl rfl (fun _ _ => v_move rfl) ?_
        refine v_unguard rfl rfl ?_
        refine g_val rfl rfl rfl (fun _ _ => v_move rfl) ?_
        refine v_unguard rfl rfl ?_
        obtain ⟨t40, h29, hm⟩ := bindO hm
        refine g_callH [] [] rfl rfl rfl rfl rfl rfl rfl (fun a w => Try.call56 a w) (fun w hh => c_laurelref01_Left s0 gates1 looks2 s_1.set11 qa0 na0 ca0 qa1 na1 ca1 qa2 na2 ca2 qa3 na3 ca3 qa4 na4 ca4 w (HV.callee (S0 := []) (vs0 := []) hh (roC (hh.rsep (S0 := []) (vs0 := []) 0 rfl) (roC (hh.rsep (S0 := []) (vs0 := []) 1 rfl) (roC (hh.rsep (S0 := []) (vs0 := []) 2 rfl) (roC (hh.rsep (S0 := []) (vs0 := []) 3 rfl) (roC (hh.rsep (S0 := []) (vs0 := []) 4 rfl) roN)))))) hna0 hqa0 hla0 hna1 hqa1 hla1 hna2 hqa2 hla2 hna3 hqa3 hla3 hna4 hqa4 hla4 h29) (fun l_7 h30 => ?_)
        have h31 := h30
        refine g_sel (S' := [_]) (vs' := [_, _, _]) [0] [0, 1, 2] 0 (by decide) (by decide) rfl rfl rfl ?_
        refine v_unguard rfl rfl ?_
        refine g_val rfl rfl rfl (fun w _ => v_lenN (vlen RI h31 rfl) (Try.runUnderlying26 w) rfl) ?_
        refine v_unguard rfl rfl ?_
        refine g_val rfl rfl rfl (fun _ _ => v_eql rfl rfl) ?_
        refine g_val rfl rfl rfl (fun _ _ => v_pickT rfl rfl) ?_
        refine g_nil ?_
        obtain rfl := Option.some.inj hm
        exact g_leaf () (trivial) ((.cons rfl (.cons rfl (.cons rfl (.cons rfl (.cons rfl (.cons rfl (.cons rfl (.cons rfl .nil))))))))) (fun w hh => hh.sel [0] [2, 1] 0 (by decide) (by decide) rfl rfl rfl)
       ·replace hm := ifF ((fun hh => Bool.noConfusion ((h28).symm.trans hh))) hm
        refine v_unguard rfl rfl ?_
        refine g_val rfl rfl rfl (fun _ _ => v_move rfl) ?_
        refine v_unguard rfl rfl ?_
        refine g_val rfl rfl rfl (fun _ _ => v_move rfl) ?_
        refine v_unguard rfl rfl ?_
        obtain ⟨t33, h32, hm⟩ := bindO hm
        refine g_callH [] [] rfl rfl rfl rfl rfl rfl rfl (fun a w => Try.call128 a w) (fun w hh => c_laurelref01_ahead t27 s_1.best10 (qA l_5.q) l_5.n l_5.cap (qA l_3.q) l_3.n l_3.cap w (HV.callee (S0 := []) (vs0 := []) hh (roC (hh.vsepA (S0 := []) (vs0 := []) 0 rfl h24) (roC (hh.vsepA (S0 := []) (vs0 := []) 1 rfl h14) roN))) (vlen RI h24 rfl) (AOK.q (vne h24)) (h24).hle (vlen RI h14 rfl) (AOK.q (vne h14)) (h14).hle h32) (fun l_8 h33 => ?_)
        refine g_val rfl rfl rfl (fun _ _ => v_pickF rfl rfl) ?_
        refine g_val rfl rfl rfl (fun _ _ => v_move rfl) ?_
        refine g_case 35 rfl (fun h34 => ?_) (fun h34 => ?_)
        ·replace hm := ifT (h34) hm
         refine v_unguard rfl rfl ?_
         refine g_val rfl rfl rfl (fun w hh => v_loadAgg (vs := [_, _, _, _, _]) (Try.isAgg59 w) (Try.sizeOf59 w) rfl (hh.cells 0 rfl rfl)) ?_
         refine v_unguard rfl rfl ?_
         refine g_val rfl rfl rfl (fun _ _ => v_move rfl) ?_
         refine v_unguard rfl rfl ?_
         refine g_val rfl rfl rfl (fun _ _ => v_move rfl) ?_
         refine v_unguard rfl rfl ?_
         refine g_val rfl rfl rfl (fun _ _ => v_move rfl) ?_
         refine v_unguard rfl rfl ?_
         obtain ⟨t40_1, h35, hm⟩ := bindO hm
         refine g_callH [] [] rfl rfl rfl rfl rfl rfl rfl (fun a w => Try.call56 a w) (fun w hh => c_laurelref01_Left s0 gates1 looks2 s_1.set11 qa0 na0 ca0 qa1 na1 ca1 qa2 na2 ca2 qa3 na3 ca3 qa4 na4 ca4 w (HV.callee (S0 := []) (vs0 := []) hh (roC (hh.rsep (S0 := []) (vs0 := []) 0 rfl) (roC (hh.rsep (S0 := []) (vs0 := []) 1 rfl) (roC (hh.rsep (S0 := []) (vs0 := []) 2 rfl) (roC (hh.rsep (S0 := []) (vs0 := []) 3 rfl) (roC (hh.rsep (S0 := []) (vs0 := []) 4 rfl) roN)))))) hna0 hqa0 hla0 hna1 hqa1 hla1 hna2 hqa2 hla2 hna3 hqa3 hla3 hna4 hqa4 hla4 h35) (fun l_9 h36 => ?_)
         have h37 := h36
         refine g_sel (S' := [_]) (vs' := [_, _, _]) [0] [0, 1, 2] 0 (by decide) (by decide) rfl rfl rfl ?_
         refine v_unguard rfl rfl ?_
         refine g_val rfl rfl rfl (fun w _ => v_lenN (vlen RI h37 rfl) (Try.runUnderlying26 w) rfl) ?_
         refine v_unguard rfl rfl ?_
         refine g_val rfl rfl rfl (fun _ _ => v_eql rfl rfl) ?_
         refine g_val rfl rfl rfl (fun _ _ => v_pickT rfl rfl) ?_
         refine g_nil ?_
         obtain rfl := Option.some.inj hm
         exact g_leaf () (trivial) ((.cons rfl (.cons rfl (.cons rfl (.cons rfl (.cons rfl (.cons rfl (.cons rfl (.cons rfl .nil))))))))) (fun w hh => hh.sel [0] [2, 1] 0 (by decide) (by decide) rfl rfl rfl)
        ·replace hm := ifF ((fun hh => Bool.noConfusion ((h34).symm.trans hh))) hm
         refine g_skipG rfl rfl rfl rfl rfl rfl ?_
         refine g_skipG rfl rfl rfl rfl rfl rfl ?_
         refine g_skipG rfl rfl rfl rfl rfl rfl ?_
         refine g_skipG rfl rfl rfl rfl rfl rfl ?_
         refine g_skipG rfl rfl rfl rfl rfl rfl ?_
         refine g_skipG rfl rfl rfl rfl rfl rfl ?_
         refine g_skipG rfl rfl rfl rfl rfl rfl ?_
         refine g_val rfl rfl rfl (fun _ _ => v_pickF rfl rfl) ?_
         refine g_nil ?_
         obtain rfl := Option.some.inj hm
         exact g_leaf () (trivial) ((.cons rfl (.cons rfl (.cons rfl (.cons rfl (.cons rfl (.cons rfl (.cons rfl (.cons rfl .nil))))))))) (fun w hh => hh.sel [0] [1, 0] 0 (by decide) (by decide) rfl rfl rfl)
      ·intro l_6 hj
       replace hm := h27
       refine g_n_then ?_
       refine g_cond rfl (fun h38 => ?_) (fun h38 => ?_)
       ·replace hm := ifT (h38) hm
        refine g_region ?_
        refine g_val rfl rfl rfl (fun _ _ => v_move rfl) ?_
        refine g_val rfl rfl rfl (fun _ _ => v_assign rfl) ?_
        refine g_nil ?_
        refine g_n_blk ?_
        obtain rfl := Option.some.inj hm
        exact g_leaf l_5 (⟨h24, h25⟩) ((.cons rfl (.cons rfl (.cons rfl (.cons rfl (.cons rfl (.cons rfl .nil))))))) (fun w hh => hh.sel [0] [1] 0 (by decide) (by decide) rfl rfl rfl)
       ·replace hm := ifF ((fun hh => Bool.noConfusion ((h38).symm.trans hh))) hm
        refine g_skip ?_
        refine g_n_blk ?_
        obtain rfl := Option.some.inj hm
        exact g_leaf l_3 (⟨h14, h15⟩) ((.cons rfl (.cons rfl (.cons rfl (.cons rfl (.cons rfl (.cons rfl .nil))))))) (fun w hh => hh.sel [0] [0] 0 (by decide) (by decide) rfl rfl rfl)
     ·intro l_4 hj
      obtain ⟨h20, h21⟩ := hj
      replace hm := h19
      refine g_n_then ?_
      refine g_region ?_
      refine g_val rfl rfl rfl (fun _ _ => v_move rfl) ?_
      obtain ⟨t25, h39, hm⟩ := bindO hm
      refine g_val rfl rfl rfl (fun _ _ => v_addc h39 rfl rfl) ?_
      refine g_val rfl rfl rfl (fun _ _ => v_assign rfl) ?_
      refine g_nil ?_
      obtain rfl := Option.some.inj hm
      refine g_n_then ?_
      exact g_again' _ l_4 rfl (⟨h20, h21⟩) ((.cons rfl (.cons rfl (.cons rfl (.cons rfl (.cons rfl (.cons rfl .nil))))))) (fun w hh => hh)
    ·replace hm := ifF (of_decide_eq_false h17) hm
     refine g_exit ?_
     refine g_x_then ?_
     refine g_x_then ?_
     refine g_x_blk ?_
     obtain rfl := Option.some.inj hm
     have hbo := h16 _ rfl
     subst hbo
     exact g_leaf l_3 (⟨h14, h15⟩) ((.cons rfl .nil)) (fun w hh => hh)
   ·intro l_2 hj
    obtain ⟨h12, h13⟩ := hj
    replace hm := h11
    refine g_n_then ?_
    refine g_seq ?_
    refine g_region ?_
    refine g_val rfl rfl rfl (fun _ _ => v_move rfl) ?_
    refine g_val rfl rfl rfl (fun _ _ => v_move rfl) ?_
    refine g_val rfl rfl rfl (fun w _ => v_neqNil h13 (Try.runUnderlying26 w) rfl rfl) ?_
    refine g_val rfl rfl rfl (fun _ _ => v_assign rfl) ?_
    refine g_val rfl rfl rfl (fun _ _ => v_assign rfl) ?_
    refine g_nil ?_
    refine g_n_then ?_
    refine g_ret ?_
    obtain rfl := Option.some.inj hm
    refine g_done rfl (fun w hh => (.tmp rfl (.tmp rfl .nil))) (fun w hh => ⟨l_2, rfl, ⟨h12, h13⟩, hh.sel [] [0] 5 (by decide) (by decide) rfl rfl rfl⟩)
def m_tide_Clash_1_1 (l0 : (List Look)) (a11 : Sands) : Option Bool :=
 (x_left a11  l0).bind fun t7 =>
 some (decide (t7.hi < t7.lo))
set_option maxRecDepth 100000 in
set_option maxHeartbeats 4000000 in
theorem c_tide_Clash_1_1 (l0 : (List Look)) (a11 : Sands) (qa0 : Option (Nat × Nat)) (na0 ca0 : Nat) (pb : Nat) (db1 : Nat) (qa2 : Option (Nat × Nat)) (na2 ca2 : Nat) (qa3 : Option (Nat × Nat)) (na3 ca3 : Nat) (qa4 : Option (Nat × Nat)) (na4 ca4 : Nat) (w : World) (hw : HV w (keys [(pb, .cells #[ptr db1 0] 139 (0, 0))] []) [(pb, .cells #[ptr db1 0] 139 (0, 0))] [] [(bk qa0, off qa0, RL.enc l0), (db1, 0, [slv qa2 na2 ca2, .int .i64 a11.wind.lo, .int .i64 a11.wind.hi, slv qa3 na3 ca3, slv qa4 na4 ca4, .int .i64 ((gatesOf a11).getD 0 0), .int .i64 ((gatesOf a11).getD 1 0), .int .i64 ((gatesOf a11).getD 2 0), .int .i64 ((gatesOf a11).getD 3 0), .int .i64 ((gatesOf a11).getD 4 0), .int .i64 ((gatesOf a11).getD 5 0), .int .i64 ((gatesOf a11).getD 6 0), .int .i64 ((gatesOf a11).getD 7 0)]), (bk qa2, off qa2, RW.enc a11.table), (bk qa3, off qa3, RI.enc a11.floors), (bk qa4, off qa4, RS.enc a11.sills)] w) (hna0 : l0.length = na0) (hqa0 : 0 < na0 → qa0 ≠ none) (hla0 : na0 ≤ ca0)  (hna2 : a11.table.length = na2) (hqa2 : 0 < na2 → qa2 ≠ none) (hla2 : na2 ≤ ca2) (hna3 : a11.floors.length = na3) (hqa3 : 0 < na3 → qa3 ≠ none) (hla3 : na3 ≤ ca3) (hna4 : a11.sills.length = na4) (hqa4 : 0 < na4 → qa4 ≠ none) (hla4 : na4 ≤ ca4) {res : Bool} (hm : m_tide_Clash_1_1 l0 a11 = some res) :
    Calls Try.prog 129 #[slv qa0 na0 ca0, ptr pb 0] w (fun en w' => ∃ l : Unit, en = .returned (.bool res) ∧ (True) ∧ HV w (keys [(pb, .cells #[ptr db1 0] 139 (0, 0))] []) [(pb, .cells #[ptr db1 0] 139 (0, 0))] [] [] w') := by
  unfold m_tide_Clash_1_1 at hm
  refine g_enter (args := [slv qa0 na0 ca0, ptr pb 0]) Try.func129 rfl Try.ntmps129 rfl (e := [(0, _), (1, _)]) rfl (H := HV w (keys [(pb, .cells #[ptr db1 0] 139 (0, 0))] []) [(pb, .cells #[ptr db1 0] 139 (0, 0))] [] [(bk qa0, off qa0, RL.enc l0), (db1, 0, [slv qa2 na2 ca2, .int .i64 a11.wind.lo, .int .i64 a11.wind.hi, slv qa3 na3 ca3, slv qa4 na4 ca4, .int .i64 ((gatesOf a11).getD 0 0), .int .i64 ((gatesOf a11).getD 1 0), .int .i64 ((gatesOf a11).getD 2 0), .int .i64 ((gatesOf a11).getD 3 0), .int .i64 ((gatesOf a11).getD 4 0), .int .i64 ((gatesOf a11).getD 5 0), .int .i64 ((gatesOf a11).getD 6 0), .int .i64 ((gatesOf a11).getD 7 0)]), (bk qa2, off qa2, RW.enc a11.table), (bk qa3, off qa3, RI.enc a11.floors), (bk qa4, off qa4, RS.enc a11.sills)]) hw ?_
  refine g_seq ?_
  refine g_region ?_
  refine g_val rfl rfl rfl (fun _ _ => v_assign rfl) ?_
  refine g_nil ?_
  refine g_n_then ?_
  refine g_seq ?_
  refine g_region ?_
  refine g_val rfl rfl rfl (fun w hh => v_load (Try.isAgg139 w) rfl (hh.cell 0 rfl rfl)) ?_
  refine g_val rfl rfl rfl (fun _ _ => v_move rfl) ?_
  obtain ⟨t7, h1, hm⟩ := bindO hm
  refine g_callN rfl rfl rfl rfl rfl rfl rfl (fun a w => Try.call87 a w) (fun w hh => cx_left a11  l0 db1 qa2 na2 ca2 qa3 na3 ca3 qa4 na4 ca4 qa0 na0 ca0 w (HV.callee (S0 := []) (vs0 := []) hh (roC (hh.rsep (S0 := []) (vs0 := []) 1 rfl) (roC (hh.rsep (S0 := []) (vs0 := []) 2 rfl) (roC (hh.rsep (S0 := []) (vs0 := []) 3 rfl) (roC (hh.rsep (S0 := []) (vs0 := []) 4 rfl) (roC (hh.rsep (S0 := []) (vs0 := []) 0 rfl) roN)))))) hna2 hqa2 hla2 hna3 hqa3 hla3 hna4 hqa4 hla4 hna0 hqa0 hla0 h1) (fun l h2 => ?_)
  refine g_allocV (fun w => Try.zeroValue25 w) rfl (fun b h3 => ?_)
  refine g_stSA (us := #[_, _]) (cs' := [_, _]) (S' := [_, _]) 0 (fun w => Try.sizeOf25 w) rfl rfl rfl rfl rfl rfl rfl ?_
  refine g_nil ?_
  refine g_n_then ?_
  refine g_seq ?_
  refine g_region ?_
  refine g_val rfl rfl rfl (fun w _ => v_fieldAddr 0 (Try.runUnderlying25 w) rfl (Try.sizeOf3 w) rfl) ?_
  refine g_val rfl rfl rfl (fun w hh => v_load (Try.isAgg3 w) rfl (hh.cell 0 rfl rfl)) ?_
  refine g_val rfl rfl rfl (fun w _ => v_fieldAddr 1 (Try.runUnderlying25 w) rfl (Try.sizeOf3 w) rfl) ?_
  refine g_val rfl rfl rfl (fun w hh => v_load (Try.isAgg3 w) rfl (hh.cell 0 rfl rfl)) ?_
  refine g_val rfl rfl rfl (fun _ _ => v_gtr rfl rfl) ?_
  refine g_val rfl rfl rfl (fun _ _ => v_assign rfl) ?_
  refine g_nil ?_
  refine g_n_then ?_
  refine g_ret ?_
  obtain rfl := Option.some.inj hm
  refine g_done rfl (fun w hh => (.tmp rfl .nil)) (fun w hh => ⟨(), rfl, trivial, hh.sel [1] [] 5 (by decide) (by decide) rfl rfl rfl⟩)
structure m_tide_Clash_1_R where
  r1 : Int
  r0 : (List Int)
def m_tide_Clash_1_L0 (looks1 : (List Look)) (s0 : Sands) (s : Int) : Option (Int ⊕ (Unit ⊕ m_tide_Clash_1_R)) :=
 if s < (looks1.length : Int) then
 ((ix looks1 s).bind fun t30 =>
 (m_tide_Clash_1_1 [(⟨t30.min, t30.place, t30.wet⟩ : Look)] s0).bind fun t35 =>
 if t35 = true then
 (some (.inr (.inr (⟨0, [s]⟩ : m_tide_Clash_1_R)))) else
 ((addc s 1).bind fun t38 =>
 some (.inl t38))) else
 (some (.inr (.inl ())))
def m_tide_Clash_1_L2 (looks1 : (List Look)) (t48 : Int) (t44 : Look) (s0 : Sands) (s_1 : Int) (s_2 : Int) : Option (Int ⊕ (Unit ⊕ m_tide_Clash_1_R)) :=
 if s_2 < ((looks1.drop (Int.toNat t48)).length : Int) then
 ((ix (looks1.drop (Int.toNat t48)) s_2).bind fun t54 =>
 (if (⟨t44.min, t44.place, t44.wet⟩ : Look) = (⟨t54.min, t54.place, t54.wet⟩ : Look) then
 (some false) else
 ((m_tide_Clash_1_1 [(⟨t44.min, t44.place, t44.wet⟩ : Look), (⟨t54.min, t54.place, t54.wet⟩ : Look)] s0).bind fun t64 =>
 some t64)).bind fun o_3 =>
 if o_3 = true then
 ((addc s_1 1).bind fun t68 =>
 (addc t68 s_2).bind fun t70 =>
 some (.inr (.inr (⟨0, [s_1, t70]⟩ : m_tide_Clash_1_R)))) else
 ((addc s_2 1).bind fun t72 =>
 some (.inl t72))) else
 (some (.inr (.inl ())))
def m_tide_Clash_1_L1 (looks1 : (List Look)) (s0 : Sands) (s_1 : Int) : Option (Int ⊕ (Unit ⊕ m_tide_Clash_1_R)) :=
 if s_1 < (looks1.length : Int) then
 ((ix looks1 s_1).bind fun t44 =>
 (addc s_1 1).bind fun t48 =>
 if 0 ≤ t48 ∧ t48 ≤ (looks1.length : Int) then ((iterM FU (m_tide_Clash_1_L2 looks1 t48 t44 s0 s_1) 0).bind fun o_2 =>
 oc o_2 (fun j_2 => (addc s_1 1).bind fun t73 =>
 some (.inl t73)) (fun r_3 => some (.inr (.inr r_3)))) else none) else
 (some (.inr (.inl ())))
def m_tide_Clash_1 (s0 : Sands) (looks1 : (List Look)) : Option m_tide_Clash_1_R :=
 if (s0.table.length ≤ 8796093022208 ∧ s0.floors.length ≤ 17592186044416 ∧ s0.sills.length ≤ 5864062014805) ∧ looks1.length ≤ 5864062014805 then (if lookedE s0 looks1 = 0 then
 ((iterM FU (m_tide_Clash_1_L0 looks1 s0) 0).bind fun o =>
 oc o (fun j => (iterM FU (m_tide_Clash_1_L1 looks1 s0) 0).bind fun o_1 =>
 oc o_1 (fun j_1 => some (⟨6, []⟩ : m_tide_Clash_1_R)) (fun r_4 => some r_4)) (fun r_5 => some r_5)) else
 (some (⟨(lookedE s0 looks1), []⟩ : m_tide_Clash_1_R))) else none
set_option maxRecDepth 100000 in
set_option maxHeartbeats 4000000 in
theorem c_tide_Clash_1 (s0 : Sands) (looks1 : (List Look)) (qa0 : Option (Nat × Nat)) (na0 ca0 : Nat) (qa1 : Option (Nat × Nat)) (na1 ca1 : Nat) (qa2 : Option (Nat × Nat)) (na2 ca2 : Nat) (qa3 : Option (Nat × Nat)) (na3 ca3 : Nat) (w : World) (hw : HV w (keys [] []) [] [] [(bk qa0, off qa0, RW.enc s0.table), (bk qa1, off qa1, RI.enc s0.floors), (bk qa2, off qa2, RS.enc s0.sills), (bk qa3, off qa3, RL.enc looks1)] w) (hna0 : s0.table.length = na0) (hqa0 : 0 < na0 → qa0 ≠ none) (hla0 : na0 ≤ ca0) (hna1 : s0.floors.length = na1) (hqa1 : 0 < na1 → qa1 ≠ none) (hla1 : na1 ≤ ca1) (hna2 : s0.sills.length = na2) (hqa2 : 0 < na2 → qa2 ≠ none) (hla2 : na2 ≤ ca2) (hna3 : looks1.length = na3) (hqa3 : 0 < na3 → qa3 ≠ none) (hla3 : na3 ≤ ca3) {res : m_tide_Clash_1_R} (hm : m_tide_Clash_1 s0 looks1 = some res) :
    Calls Try.prog 58 #[.agg #[slv qa0 na0 ca0, .int .i64 s0.wind.lo, .int .i64 s0.wind.hi, slv qa1 na1 ca1, slv qa2 na2 ca2], slv qa3 na3 ca3] w (fun en w' => ∃ l : VL, en = .returned (.tuple #[slv l.q l.n l.cap, .int .i64 res.r1]) ∧ (VOK 1 l.n l.cap (RI.enc res.r0) l.sp l.q) ∧ HV w (keys [] []) [] [⟨3, RI.enc res.r0, l.sp, l.q⟩] [] w') := by
  unfold m_tide_Clash_1 at hm
  refine g_enter (args := [.agg #[slv qa0 na0 ca0, .int .i64 s0.wind.lo, .int .i64 s0.wind.hi, slv qa1 na1 ca1, slv qa2 na2 ca2], slv qa3 na3 ca3]) Try.func58 rfl Try.ntmps58 rfl (e := [(0, _), (1, _)]) rfl (H := HV w (keys [] []) [] [] [(bk qa0, off qa0, RW.enc s0.table), (bk qa1, off qa1, RI.enc s0.floors), (bk qa2, off qa2, RS.enc s0.sills), (bk qa3, off qa3, RL.enc looks1)]) hw ?_
  refine g_seq ?_
  refine g_region ?_
  refine g_boxV rfl rfl (fun b h2 => ?_)
  refine g_val rfl rfl rfl (fun _ _ => v_nilS rfl) ?_
  refine g_val rfl rfl rfl (fun _ _ => v_assign rfl) ?_
  refine g_nil ?_
  refine g_n_then ?_
  refine g_seq ?_
  refine g_region ?_
  refine g_val rfl rfl rfl (fun w hh => v_loadAgg (vs := [_, _, _, _, _]) (Try.isAgg29 w) (Try.sizeOf29 w) rfl (hh.cells 0 rfl rfl)) ?_
  refine g_val rfl rfl rfl (fun _ _ => v_move rfl) ?_
  obtain ⟨h3, hm⟩ := ifO hm
  refine dec_cases (p := lookedE s0 looks1 = 0) (fun h4 => ?_) (fun h4 => ?_)
  ·replace hm := ifT h4 hm
   refine g_callN rfl rfl rfl rfl rfl rfl rfl (fun a w => Try.call86 a w) (fun w hh => cx_looked s0 looks1 qa0 na0 ca0 qa1 na1 ca1 qa2 na2 ca2 qa3 na3 ca3 w (HV.callee (S0 := []) (vs0 := []) hh (roC (hh.rsep (S0 := []) (vs0 := []) 0 rfl) (roC (hh.rsep (S0 := []) (vs0 := []) 1 rfl) (roC (hh.rsep (S0 := []) (vs0 := []) 2 rfl) (roC (hh.rsep (S0 := []) (vs0 := []) 3 rfl) roN))))) hna0 hqa0 hla0 hna1 hqa1 hla1 hna2 hqa2 hla2 hna3 hqa3 hla3 h3 h4) (fun b_1 h5 => ?_)
   refine g_val rfl rfl rfl (fun _ _ => v_move rfl) ?_
   refine g_val rfl rfl rfl (fun _ _ => v_extract rfl rfl) ?_
   refine g_val rfl rfl rfl (fun _ _ => v_extract rfl rfl) ?_
   refine g_allocV (fun w => Try.zeroValue139 w) rfl (fun b_2 h6 => ?_)
   refine g_stS (cs' := #[_]) (S' := [_, _]) 0 (fun w => Try.sizeOf139 w) rfl rfl rfl rfl rfl rfl rfl ?_
   refine g_val rfl rfl rfl (fun _ _ => v_assign rfl) ?_
   refine g_nil ?_
   refine g_n_then ?_
   refine g_seq ?_
   refine g_seq ?_
   refine g_region ?_
   refine g_val rfl rfl rfl (fun _ _ => v_move rfl) ?_
   refine g_val rfl rfl rfl (fun _ _ => v_neq rfl rfl) ?_
   refine g_nil ?_
   refine g_n_then ?_
   refine g_condF rfl rfl ?_
   refine g_skip ?_
   refine g_n_then ?_
   refine g_seq ?_
   refine g_region ?_
   refine g_val rfl rfl rfl (fun _ _ => v_makeFunc (u := #[]) (u' := #[_]) rfl rfl) ?_
   refine g_val rfl rfl rfl (fun _ _ => v_assign rfl) ?_
   refine g_nil ?_
   refine g_n_then ?_
   refine g_seq ?_
   refine g_seq ?_
   refine g_region ?_
   refine g_val rfl rfl rfl (fun _ _ => v_move rfl) ?_
   refine g_val rfl rfl rfl (fun w _ => v_lenN hna3 (Try.runUnderlying35 w) rfl) ?_
   refine g_val rfl rfl rfl (fun _ _ => v_move rfl) ?_
   refine g_nil ?_
   refine g_n_then ?_
   obtain ⟨o, h7, h8⟩ := bindO hm
   refine g_cut (ι := Unit) (fun j => o = .inl j) (fun j => [(1, slv qa3 na3 ca3), (8, .func (.func 129) #[] #[ptr b_2 0])]) (fun j => [(b_2, .cells #[ptr b_1 0] 139 (0, 0)), (b, .cells #[slv qa0 na0 ca0, .int .i64 s0.wind.lo, .int .i64 s0.wind.hi, slv qa1 na1 ca1, slv qa2 na2 ca2] 29 (0, 0))]) (fun j => []) ?_ ?_
   ·replace hm := h7
    refine g_block ?_
    refine g_loopF (ι := Unit) hm (fun s l => True) (fun s l => [(1, slv qa3 na3 ca3), (8, .func (.func 129) #[] #[ptr b_2 0]), (25, slv qa3 na3 ca3), (26, .int .i64 (looks1.length : Int)), (27, .int .i64 s)]) (fun s l => [(b_2, .cells #[ptr b_1 0] 139 (0, 0)), (b, .cells #[slv qa0 na0 ca0, .int .i64 s0.wind.lo, .int .i64 s0.wind.hi, slv qa1 na1 ca1, slv qa2 na2 ca2] 29 (0, 0))]) (fun s l => []) () (trivial) ((.cons rfl (.cons rfl (.cons rfl (.cons rfl (.cons rfl .nil)))))) (fun w hh => hh) (fun s l r hpl hm h9 => ?_)
    unfold m_tide_Clash_1_L0 at hm
    refine g_seq ?_
    refine g_region ?_
    refine g_val rfl rfl rfl (fun _ _ => v_lss rfl rfl) ?_
    refine g_nil ?_
    refine g_n_then ?_
    refine g_seq ?_
    refine g_cond rfl (fun h10 => ?_) (fun h10 => ?_)
    ·replace hm := ifT (of_decide_eq_true h10) hm
     refine g_skip ?_
     refine g_n_then ?_
     refine g_seq ?_
     refine g_block ?_
     refine g_seq ?_
     refine g_region ?_
     refine g_val rfl rfl rfl (fun _ _ => v_move rfl) ?_
     obtain ⟨t30, h11, hm⟩ := bindO hm
     refine g_val rfl rfl rfl (fun w _ => v_ixA h11 (Try.runUnderlying35 w) (Try.sizeOf89 w) rfl rfl hna3 hqa3) ?_
     refine g_val rfl rfl rfl (fun w hh => v_ldEA RL 0 [.int .i64 t30.min, .int .i64 t30.place, .bool t30.wet] h11 (Try.isAgg89 w) (Try.sizeOf89 w) rfl (hh.seg 4 rfl) rfl (Nat.add_zero _).symm) ?_
     refine g_allocV (fun w => Try.zeroValue89 w) rfl (fun b_3 h12 => ?_)
     refine g_val rfl rfl rfl (fun _ _ => v_assign rfl) ?_
     refine g_stSA (us := #[_, _, _]) (cs' := [_, _, _]) (S' := [_, _, _]) 0 (fun w => Try.sizeOf89 w) rfl rfl rfl rfl rfl rfl rfl ?_
     refine g_nil ?_
     refine g_n_then ?_
     refine g_seq ?_
     refine g_region ?_
     refine g_val rfl rfl rfl (fun _ _ => v_move rfl) ?_
     refine g_val rfl rfl rfl (fun w hh => v_loadAgg (vs := [_, _, _]) (Try.isAgg89 w) (Try.sizeOf89 w) rfl (hh.cells 0 rfl rfl)) ?_
     refine g_vlit RL [(⟨t30.min, t30.place, t30.wet⟩ : Look)] (ps := [(0, _)]) (cells := [_, _, _]) (fun w => Try.runUnderlying35 w) (fun w => Try.sizeOf89 w) (fun w => Try.zeroValue89 w) rfl rfl rfl rfl rfl rfl rfl rfl (fun L h13 => ?_)
     obtain ⟨t35, h14, hm⟩ := bindO hm
     refine g_sel (S' := [_, _, _]) (vs' := [_]) [1, 0, 2] [0] 0 (by decide) (by decide) rfl rfl rfl ?_
     refine g_callH [_] [] rfl rfl rfl rfl rfl rfl rfl (fun a w => Try.call129 a w) (fun w hh => c_tide_Clash_1_1 [(⟨t30.min, t30.place, t30.wet⟩ : Look)] s0 L.q L.n L.cap b_2 b_1 qa0 na0 ca0 qa1 na1 ca1 qa2 na2 ca2 w (HV.callee (S0 := [_]) (vs0 := []) hh (roC (hh.vsep (S0 := [_]) (vs0 := []) 0 rfl h13) (roC (hh.rsep (S0 := [_]) (vs0 := []) 0 rfl) (roC (hh.rsep (S0 := [_]) (vs0 := []) 1 rfl) (roC (hh.rsep (S0 := [_]) (vs0 := []) 2 rfl) (roC (hh.rsep (S0 := [_]) (vs0 := []) 3 rfl) roN)))))) (vlen RL h13 rfl) (vne h13) (h13).hle hna0 hqa0 hla0 hna1 hqa1 hla1 hna2 hqa2 hla2 h14) (fun l_1 h15 => ?_)
     refine g_sel (S' := [_, _, _]) (vs' := [_]) [0, 1, 2] [0] 0 (by decide) (by decide) rfl rfl rfl ?_
     refine g_nil ?_
     refine g_n_then ?_
     refine g_cond rfl (fun h16 => ?_) (fun h16 => ?_)
     ·replace hm := ifT (h16) hm
      refine g_seq ?_
      refine g_region ?_
      refine g_val rfl rfl rfl (fun _ _ => v_move rfl) ?_
      refine g_vlit RI [s] (ps := [(0, _)]) (cells := [_]) (fun w => Try.runUnderlying26 w) (fun w => Try.sizeOf3 w) (fun w => Try.zeroValue3 w) rfl rfl rfl rfl rfl rfl rfl rfl (fun L_1 h17 => ?_)
      refine g_val rfl rfl rfl (fun _ _ => v_assign rfl) ?_
      refine g_val rfl rfl rfl (fun _ _ => v_assign rfl) ?_
      refine g_nil ?_
      refine g_n_then ?_
      refine g_ret ?_
      refine g_r_blk ?_
      refine g_r_then ?_
      refine g_r_then ?_
      refine g_r_blk ?_
      obtain rfl := Option.some.inj hm
      have hbo := h9 _ rfl
      subst hbo
      refine g_r_then ?_
      replace hm := ocR h8
      refine g_r_then ?_
      obtain rfl := Option.some.inj hm
      refine g_done rfl (fun w hh => (.tmp rfl (.tmp rfl .nil))) (fun w hh => ⟨L_1, rfl, h17, hh.sel [] [0] 5 (by decide) (by decide) rfl rfl rfl⟩)
     ·replace hm := ifF ((fun hh => Bool.noConfusion ((h16).symm.trans hh))) hm
      refine g_skip ?_
      refine g_n_blk ?_
      refine g_n_then ?_
      refine g_region ?_
      obtain ⟨t38, h18, hm⟩ := bindO hm
      refine g_val rfl rfl rfl (fun _ _ => v_addc h18 rfl rfl) ?_
      refine g_val rfl rfl rfl (fun _ _ => v_move rfl) ?_
      refine g_nil ?_
      obtain rfl := Option.some.inj hm
      refine g_n_then ?_
      exact g_again' _ () rfl (trivial) ((.cons rfl (.cons rfl (.cons rfl (.cons rfl (.cons rfl .nil)))))) (fun w hh => hh.sel [0, 2] [] 0 (by decide) (by decide) rfl rfl rfl)
    ·replace hm := ifF (of_decide_eq_false h10) hm
     refine g_exit ?_
     refine g_x_then ?_
     refine g_x_then ?_
     refine g_x_blk ?_
     obtain rfl := Option.some.inj hm
     have hbo := h9 _ rfl
     subst hbo
     exact g_leaf () (rfl) ((.cons rfl (.cons rfl .nil))) (fun w hh => hh)
   ·intro j hj
    have h19 := hj
    subst h19
    replace hm := ocL h8
    refine g_n_then ?_
    refine g_seq ?_
    refine g_seq ?_
    refine g_region ?_
    refine g_val rfl rfl rfl (fun _ _ => v_move rfl) ?_
    refine g_val rfl rfl rfl (fun w _ => v_lenN hna3 (Try.runUnderlying35 w) rfl) ?_
    refine g_val rfl rfl rfl (fun _ _ => v_move rfl) ?_
    refine g_nil ?_
    refine g_n_then ?_
    obtain ⟨o_1, h20, h21⟩ := bindO hm
    refine g_cut (ι := Unit) (fun j_1 => o_1 = .inl j_1) (fun j_1 => []) (fun j_1 => [(b_2, .cells #[ptr b_1 0] 139 (0, 0)), (b, .cells #[slv qa0 na0 ca0, .int .i64 s0.wind.lo, .int .i64 s0.wind.hi, slv qa1 na1 ca1, slv qa2 na2 ca2] 29 (0, 0))]) (fun j_1 => []) ?_ ?_
    ·replace hm := h20
     refine g_block ?_
     refine g_loopF (ι := Unit) hm (fun s_1 l_2 => True) (fun s_1 l_2 => [(1, slv qa3 na3 ca3), (8, .func (.func 129) #[] #[ptr b_2 0]), (39, slv qa3 na3 ca3), (40, .int .i64 (looks1.length : Int)), (41, .int .i64 s_1)]) (fun s_1 l_2 => [(b_2, .cells #[ptr b_1 0] 139 (0, 0)), (b, .cells #[slv qa0 na0 ca0, .int .i64 s0.wind.lo, .int .i64 s0.wind.hi, slv qa1 na1 ca1, slv qa2 na2 ca2] 29 (0, 0))]) (fun s_1 l_2 => []) () (trivial) ((.cons rfl (.cons rfl (.cons rfl (.cons rfl (.cons rfl .nil)))))) (fun w hh => hh) (fun s_1 l_2 r_1 hpl hm h22 => ?_)
     unfold m_tide_Clash_1_L1 at hm
     refine g_seq ?_
     refine g_region ?_
     refine g_val rfl rfl rfl (fun _ _ => v_lss rfl rfl) ?_
     refine g_nil ?_
     refine g_n_then ?_
     refine g_seq ?_
     refine g_cond rfl (fun h23 => ?_) (fun h23 => ?_)
     ·replace hm := ifT (of_decide_eq_true h23) hm
      refine g_skip ?_
      refine g_n_then ?_
      refine g_seq ?_
      refine g_block ?_
      refine g_seq ?_
      refine g_region ?_
      refine g_val rfl rfl rfl (fun _ _ => v_move rfl) ?_
      obtain ⟨t44, h24, hm⟩ := bindO hm
      refine g_val rfl rfl rfl (fun w _ => v_ixA h24 (Try.runUnderlying35 w) (Try.sizeOf89 w) rfl rfl hna3 hqa3) ?_
      refine g_val rfl rfl rfl (fun w hh => v_ldEA RL 0 [.int .i64 t44.min, .int .i64 t44.place, .bool t44.wet] h24 (Try.isAgg89 w) (Try.sizeOf89 w) rfl (hh.seg 4 rfl) rfl (Nat.add_zero _).symm) ?_
      refine g_allocV (fun w => Try.zeroValue89 w) rfl (fun b_4 h25 => ?_)
      refine g_val rfl rfl rfl (fun _ _ => v_assign rfl) ?_
      refine g_stSA (us := #[_, _, _]) (cs' := [_, _, _]) (S' := [_, _, _]) 0 (fun w => Try.sizeOf89 w) rfl rfl rfl rfl rfl rfl rfl ?_
      refine g_nil ?_
      refine g_n_then ?_
      refine g_seq ?_
      refine g_region ?_
      refine g_val rfl rfl rfl (fun _ _ => v_move rfl) ?_
      refine g_val rfl rfl rfl (fun _ _ => v_move rfl) ?_
      obtain ⟨t48, h26, hm⟩ := bindO hm
      refine g_val rfl rfl rfl (fun _ _ => v_addc h26 rfl rfl) ?_
      obtain ⟨h27, hm⟩ := ifO hm
      refine g_val rfl rfl rfl (fun w _ => v_sliceFrom (Try.runUnderlying35 w) (Try.sizeOf89 w) rfl rfl h27.1 (tail_in hna3 h27) hla3) ?_
      refine g_tail RL 4 rfl hna3 hqa3 hla3 h27 ?_
      refine g_val rfl rfl rfl (fun w _ => v_lenN (tail_hn hna3) (Try.runUnderlying35 w) rfl) ?_
      refine g_val rfl rfl rfl (fun _ _ => v_move rfl) ?_
      refine g_nil ?_
      refine g_n_then ?_
      obtain ⟨o_2, h28, h29⟩ := bindO hm
      refine g_cut (ι := Unit) (fun j_2 => o_2 = .inl j_2) (fun j_2 => [(1, slv qa3 na3 ca3), (8, .func (.func 129) #[] #[ptr b_2 0]), (39, slv qa3 na3 ca3), (40, .int .i64 (looks1.length : Int)), (41, .int .i64 s_1)]) (fun j_2 => [(b_4, .cells #[.int .i64 t44.min, .int .i64 t44.place, .bool t44.wet] 89 (0, 0)), (b_2, .cells #[ptr b_1 0] 139 (0, 0)), (b, .cells #[slv qa0 na0 ca0, .int .i64 s0.wind.lo, .int .i64 s0.wind.hi, slv qa1 na1 ca1, slv qa2 na2 ca2] 29 (0, 0))]) (fun j_2 => []) ?_ ?_
      ·replace hm := h28
       refine g_block ?_
       refine g_loopF (ι := Unit) hm (fun s_2 l_3 => True) (fun s_2 l_3 => [(1, slv qa3 na3 ca3), (8, .func (.func 129) #[] #[ptr b_2 0]), (11, .int .i64 s_1), (12, ptr b_4 0), (39, slv qa3 na3 ca3), (40, .int .i64 (looks1.length : Int)), (41, .int .i64 s_1), (49, slv (tailQ qa3 3 (Int.toNat t48) ca3) (na3 - (Int.toNat t48)) (ca3 - (Int.toNat t48))), (50, .int .i64 ((looks1.drop (Int.toNat t48)).length : Int)), (51, .int .i64 s_2)]) (fun s_2 l_3 => [(b_4, .cells #[.int .i64 t44.min, .int .i64 t44.place, .bool t44.wet] 89 (0, 0)), (b_2, .cells #[ptr b_1 0] 139 (0, 0)), (b, .cells #[slv qa0 na0 ca0, .int .i64 s0.wind.lo, .int .i64 s0.wind.hi, slv qa1 na1 ca1, slv qa2 na2 ca2] 29 (0, 0))]) (fun s_2 l_3 => []) () (trivial) ((.cons rfl (.cons rfl (.cons rfl (.cons rfl (.cons rfl (.cons rfl (.cons rfl (.cons rfl (.cons rfl (.cons rfl .nil))))))))))) (fun w hh => hh) (fun s_2 l_3 r_2 hpl hm h30 => ?_)
       unfold m_tide_Clash_1_L2 at hm
       refine g_seq ?_
       refine g_region ?_
       refine g_val rfl rfl rfl (fun _ _ => v_lss rfl rfl) ?_
       refine g_nil ?_
       refine g_n_then ?_
       refine g_seq ?_
       refine g_cond rfl (fun h31 => ?_) (fun h31 => ?_)
       ·replace hm := ifT (of_decide_eq_true h31) hm
        refine g_skip ?_
        refine g_n_then ?_
        refine g_seq ?_
        refine g_block ?_
        refine g_seq ?_
        refine g_region ?_
        refine g_val rfl rfl rfl (fun _ _ => v_move rfl) ?_
        obtain ⟨t54, h32, hm⟩ := bindO hm
        refine g_val rfl rfl rfl (fun w _ => v_ixA h32 (Try.runUnderlying35 w) (Try.sizeOf89 w) rfl rfl (tail_hn hna3) (tail_hne hqa3)) ?_
        refine g_val rfl rfl rfl (fun w hh => v_ldEA RL 0 [.int .i64 t54.min, .int .i64 t54.place, .bool t54.wet] h32 (Try.isAgg89 w) (Try.sizeOf89 w) rfl (hh.seg 0 rfl) rfl (Nat.add_zero _).symm) ?_
        refine g_allocV (fun w => Try.zeroValue89 w) rfl (fun b_5 h33 => ?_)
        refine g_val rfl rfl rfl (fun _ _ => v_assign rfl) ?_
        refine g_stSA (us := #[_, _, _]) (cs' := [_, _, _]) (S' := [_, _, _, _]) 0 (fun w => Try.sizeOf89 w) rfl rfl rfl rfl rfl rfl rfl ?_
        refine g_nil ?_
        refine g_n_then ?_
        refine g_seq ?_
        obtain ⟨o_3, h34, h35⟩ := bindO hm
        refine g_cut (ι := Unit) (fun l_4 => True) (fun l_4 => [(1, slv qa3 na3 ca3), (8, .func (.func 129) #[] #[ptr b_2 0]), (11, .int .i64 s_1), (12, ptr b_4 0), (13, .int .i64 s_2), (39, slv qa3 na3 ca3), (40, .int .i64 (looks1.length : Int)), (41, .int .i64 s_1), (49, slv (tailQ qa3 3 (Int.toNat t48) ca3) (na3 - (Int.toNat t48)) (ca3 - (Int.toNat t48))), (50, .int .i64 ((looks1.drop (Int.toNat t48)).length : Int)), (51, .int .i64 s_2), (65, .bool o_3)]) (fun l_4 => [(b_5, .cells #[.int .i64 t54.min, .int .i64 t54.place, .bool t54.wet] 89 (0, 0)), (b_4, .cells #[.int .i64 t44.min, .int .i64 t44.place, .bool t44.wet] 89 (0, 0)), (b_2, .cells #[ptr b_1 0] 139 (0, 0)), (b, .cells #[slv qa0 na0 ca0, .int .i64 s0.wind.lo, .int .i64 s0.wind.hi, slv qa1 na1 ca1, slv qa2 na2 ca2] 29 (0, 0))]) (fun l_4 => []) ?_ ?_
        ·replace hm := h34
         refine g_region ?_
         refine g_val rfl rfl rfl (fun w hh => v_loadAgg (vs := [_, _, _]) (Try.isAgg89 w) (Try.sizeOf89 w) rfl (hh.cells 1 rfl rfl)) ?_
         refine g_val rfl rfl rfl (fun w hh => v_loadAgg (vs := [_, _, _]) (Try.isAgg89 w) (Try.sizeOf89 w) rfl (hh.cells 0 rfl rfl)) ?_
         refine g_val rfl rfl rfl (fun w _ => v_neqAgg (gxeq89 (⟨t44.min, t44.place, t44.wet⟩ : Look) (⟨t54.min, t54.place, t54.wet⟩ : Look) w) gxeqg89 rfl rfl) ?_
         refine g_val rfl rfl rfl (fun _ _ => v_move rfl) ?_
         refine g_case 59 rfl (fun h36 => ?_) (fun h36 => ?_)
         ·replace hm := ifF (of_ndec_true h36) hm
          refine v_unguard rfl rfl ?_
          refine g_val rfl rfl rfl (fun _ _ => v_move rfl) ?_
          refine v_unguard rfl rfl ?_
          refine g_val rfl rfl rfl (fun w hh => v_loadAgg (vs := [_, _, _]) (Try.isAgg89 w) (Try.sizeOf89 w) rfl (hh.cells 1 rfl rfl)) ?_
          refine v_unguard rfl rfl ?_
          refine g_val rfl rfl rfl (fun w hh => v_loadAgg (vs := [_, _, _]) (Try.isAgg89 w) (Try.sizeOf89 w) rfl (hh.cells 0 rfl rfl)) ?_
          refine v_unguard rfl rfl ?_
          refine g_vlit RL [(⟨t44.min, t44.place, t44.wet⟩ : Look), (⟨t54.min, t54.place, t54.wet⟩ : Look)] (ps := [(0, _), (1, _)]) (cells := [_, _, _, _, _, _]) (fun w => Try.runUnderlying35 w) (fun w => Try.sizeOf89 w) (fun w => Try.zeroValue89 w) rfl rfl rfl rfl rfl rfl rfl rfl (fun L_2 h37 => ?_)
          refine v_unguard rfl rfl ?_
          obtain ⟨t64, h38, hm⟩ := bindO hm
          refine g_sel (S' := [_, _, _, _]) (vs' := [_]) [2, 0, 1, 3] [0] 0 (by decide) (by decide) rfl rfl rfl ?_
          refine g_callH [_] [] rfl rfl rfl rfl rfl rfl rfl (fun a w => Try.call129 a w) (fun w hh => c_tide_Clash_1_1 [(⟨t44.min, t44.place, t44.wet⟩ : Look), (⟨t54.min, t54.place, t54.wet⟩ : Look)] s0 L_2.q L_2.n L_2.cap b_2 b_1 qa0 na0 ca0 qa1 na1 ca1 qa2 na2 ca2 w (HV.callee (S0 := [_]) (vs0 := []) hh (roC (hh.vsep (S0 := [_]) (vs0 := []) 0 rfl h37) (roC (hh.rsep (S0 := [_]) (vs0 := []) 1 rfl) (roC (hh.rsep (S0 := [_]) (vs0 := []) 2 rfl) (roC (hh.rsep (S0 := [_]) (vs0 := []) 3 rfl) (roC (hh.rsep (S0 := [_]) (vs0 := []) 4 rfl) roN)))))) (vlen RL h37 rfl) (vne h37) (h37).hle hna0 hqa0 hla0 hna1 hqa1 hla1 hna2 hqa2 hla2 h38) (fun l_5 h39 => ?_)
          refine g_sel (S' := [_, _, _, _]) (vs' := [_]) [0, 1, 2, 3] [0] 0 (by decide) (by decide) rfl rfl rfl ?_
          refine g_val rfl rfl rfl (fun _ _ => v_pickT rfl rfl) ?_
          refine g_nil ?_
          obtain rfl := Option.some.inj hm
          exact g_leaf () (trivial) ((.cons rfl (.cons rfl (.cons rfl (.cons rfl (.cons rfl (.cons rfl (.cons rfl (.cons rfl (.cons rfl (.cons rfl (.cons rfl (.cons rfl .nil))))))))))))) (fun w hh => hh.sel [1, 2, 0, 3] [] 0 (by decide) (by decide) rfl rfl rfl)
         ·replace hm := ifT (of_ndec_false h36) hm
          refine g_skipG rfl rfl rfl rfl rfl rfl ?_
          refine g_skipG rfl rfl rfl rfl rfl rfl ?_
          refine g_skipG rfl rfl rfl rfl rfl rfl ?_
          refine g_skipG rfl rfl rfl rfl rfl rfl ?_
          refine g_skipG rfl rfl rfl rfl rfl rfl ?_
          refine g_val rfl rfl rfl (fun _ _ => v_pickF rfl rfl) ?_
          refine g_nil ?_
          obtain rfl := Option.some.inj hm
          exact g_leaf () (trivial) ((.cons rfl (.cons rfl (.cons rfl (.cons rfl (.cons rfl (.cons rfl (.cons rfl (.cons rfl (.cons rfl (.cons rfl (.cons rfl (.cons rfl .nil))))))))))))) (fun w hh => hh)
        ·intro l_4 hj
         replace hm := h35
         refine g_n_then ?_
         refine g_cond rfl (fun h40 => ?_) (fun h40 => ?_)
         ·replace hm := ifT (h40) hm
          refine g_seq ?_
          refine g_region ?_
          refine g_val rfl rfl rfl (fun _ _ => v_move rfl) ?_
          refine g_val rfl rfl rfl (fun _ _ => v_move rfl) ?_
          obtain ⟨t68, h41, hm⟩ := bindO hm
          refine g_val rfl rfl rfl (fun _ _ => v_addc h41 rfl rfl) ?_
          refine g_val rfl rfl rfl (fun _ _ => v_move rfl) ?_
          obtain ⟨t70, h42, hm⟩ := bindO hm
          refine g_val rfl rfl rfl (fun _ _ => v_addc h42 rfl rfl) ?_
          refine g_vlit RI [s_1, t70] (ps := [(0, _), (1, _)]) (cells := [_, _]) (fun w => Try.runUnderlying26 w) (fun w => Try.sizeOf3 w) (fun w => Try.zeroValue3 w) rfl rfl rfl rfl rfl rfl rfl rfl (fun L_3 h43 => ?_)
          refine g_val rfl rfl rfl (fun _ _ => v_assign rfl) ?_
          refine g_val rfl rfl rfl (fun _ _ => v_assign rfl) ?_
          refine g_nil ?_
          refine g_n_then ?_
          refine g_ret ?_
          refine g_r_blk ?_
          refine g_r_then ?_
          refine g_r_then ?_
          refine g_r_blk ?_
          obtain rfl := Option.some.inj hm
          have hbo := h30 _ rfl
          subst hbo
          refine g_r_then ?_
          replace hm := ocR h29
          refine g_r_blk ?_
          refine g_r_then ?_
          refine g_r_then ?_
          refine g_r_blk ?_
          obtain rfl := Option.some.inj hm
          have hbo := h22 _ rfl
          subst hbo
          refine g_r_then ?_
          replace hm := ocR h21
          refine g_r_then ?_
          obtain rfl := Option.some.inj hm
          refine g_done rfl (fun w hh => (.tmp rfl (.tmp rfl .nil))) (fun w hh => ⟨L_3, rfl, h43, hh.sel [] [0] 6 (by decide) (by decide) rfl rfl rfl⟩)
         ·replace hm := ifF ((fun hh => Bool.noConfusion ((h40).symm.trans hh))) hm
          refine g_skip ?_
          refine g_n_blk ?_
          refine g_n_then ?_
          refine g_region ?_
          obtain ⟨t72, h44, hm⟩ := bindO hm
          refine g_val rfl rfl rfl (fun _ _ => v_addc h44 rfl rfl) ?_
          refine g_val rfl rfl rfl (fun _ _ => v_move rfl) ?_
          refine g_nil ?_
          obtain rfl := Option.some.inj hm
          refine g_n_then ?_
          exact g_again' _ () rfl (trivial) ((.cons rfl (.cons rfl (.cons rfl (.cons rfl (.cons rfl (.cons rfl (.cons rfl (.cons rfl (.cons rfl (.cons rfl .nil))))))))))) (fun w hh => hh.sel [1, 2, 3] [] 0 (by decide) (by decide) rfl rfl rfl)
       ·replace hm := ifF (of_decide_eq_false h31) hm
        refine g_exit ?_
        refine g_x_then ?_
        refine g_x_then ?_
        refine g_x_blk ?_
        obtain rfl := Option.some.inj hm
        have hbo := h30 _ rfl
        subst hbo
        exact g_leaf () (rfl) ((.cons rfl (.cons rfl (.cons rfl (.cons rfl (.cons rfl .nil)))))) (fun w hh => hh)
      ·intro j_2 hj
       have h45 := hj
       subst h45
       replace hm := ocL h29
       refine g_n_blk ?_
       refine g_n_then ?_
       refine g_region ?_
       obtain ⟨t73, h46, hm⟩ := bindO hm
       refine g_val rfl rfl rfl (fun _ _ => v_addc h46 rfl rfl) ?_
       refine g_val rfl rfl rfl (fun _ _ => v_move rfl) ?_
       refine g_nil ?_
       obtain rfl := Option.some.inj hm
       refine g_n_then ?_
       exact g_again' _ () rfl (trivial) ((.cons rfl (.cons rfl (.cons rfl (.cons rfl (.cons rfl .nil)))))) (fun w hh => hh.sel [1, 2] [] 1 (by decide) (by decide) rfl rfl rfl)
     ·replace hm := ifF (of_decide_eq_false h23) hm
      refine g_exit ?_
      refine g_x_then ?_
      refine g_x_then ?_
      refine g_x_blk ?_
      obtain rfl := Option.some.inj hm
      have hbo := h22 _ rfl
      subst hbo
      exact g_leaf () (rfl) (.nil) (fun w hh => hh)
    ·intro j_1 hj
     have h47 := hj
     subst h47
     replace hm := ocL h21
     refine g_n_then ?_
     refine g_seq ?_
     refine g_region ?_
     refine g_val rfl rfl rfl (fun _ _ => v_nilS rfl) ?_
     refine g_val rfl rfl rfl (fun _ _ => v_assign rfl) ?_
     refine g_nil ?_
     refine g_n_then ?_
     refine g_ret ?_
     refine g_vnil 3 ?_
     obtain rfl := Option.some.inj hm
     refine g_done rfl (fun w hh => (.tmp rfl (.tmp rfl .nil))) (fun w hh => ⟨⟨none, 0, 0, []⟩, rfl, VOK.nil, hh.sel [] [0] 5 (by decide) (by decide) rfl rfl rfl⟩)
  ·replace hm := ifF h4 hm
   refine g_callN rfl rfl rfl rfl rfl rfl rfl (fun a w => Try.call86 a w) (fun w hh => cx_lookedE s0 looks1 qa0 na0 ca0 qa1 na1 ca1 qa2 na2 ca2 qa3 na3 ca3 w (HV.callee (S0 := []) (vs0 := []) hh (roC (hh.rsep (S0 := []) (vs0 := []) 0 rfl) (roC (hh.rsep (S0 := []) (vs0 := []) 1 rfl) (roC (hh.rsep (S0 := []) (vs0 := []) 2 rfl) (roC (hh.rsep (S0 := []) (vs0 := []) 3 rfl) roN))))) hna0 hqa0 hla0 hna1 hqa1 hla1 hna2 hqa2 hla2 hna3 hqa3 hla3 h3 h4) (fun l_6 h48 => ?_)
   refine g_val rfl rfl rfl (fun _ _ => v_move rfl) ?_
   refine g_val rfl rfl rfl (fun _ _ => v_extract rfl rfl) ?_
   refine g_val rfl rfl rfl (fun _ _ => v_extract rfl rfl) ?_
   refine g_allocV (fun w => Try.zeroValue139 w) rfl (fun b_6 h49 => ?_)
   refine g_stS (cs' := #[_]) (S' := [_, _]) 0 (fun w => Try.sizeOf139 w) rfl rfl rfl rfl rfl rfl rfl ?_
   refine g_val rfl rfl rfl (fun _ _ => v_assign rfl) ?_
   refine g_nil ?_
   refine g_n_then ?_
   refine g_seq ?_
   refine g_seq ?_
   refine g_region ?_
   refine g_val rfl rfl rfl (fun _ _ => v_move rfl) ?_
   refine g_val rfl rfl rfl (fun _ _ => v_neqT h4 rfl rfl) ?_
   refine g_nil ?_
   refine g_n_then ?_
   refine g_condT rfl rfl ?_
   refine g_seq ?_
   refine g_region ?_
   refine g_val rfl rfl rfl (fun _ _ => v_move rfl) ?_
   refine g_val rfl rfl rfl (fun _ _ => v_nilS rfl) ?_
   refine g_val rfl rfl rfl (fun _ _ => v_assign rfl) ?_
   refine g_nil ?_
   refine g_n_then ?_
   refine g_ret ?_
   refine g_r_then ?_
   refine g_vnil 3 ?_
   obtain rfl := Option.some.inj hm
   refine g_done rfl (fun w hh => (.tmp rfl (.tmp rfl .nil))) (fun w hh => ⟨⟨none, 0, 0, []⟩, rfl, VOK.nil, hh.sel [] [0] 4 (by decide) (by decide) rfl rfl rfl⟩)
def m_slices_Equal_tideLooktideLook_L0 (s10 : (List Look)) (s21 : (List Look)) (s : Int) : Option (Int ⊕ (Unit ⊕ Bool)) :=
 if s < (s10.length : Int) then
 ((ix s10 s).bind fun t18 =>
 (ix s21 s).bind fun t22 =>
 if t18 = (⟨t22.min, t22.place, t22.wet⟩ : Look) then
 ((addc s 1).bind fun t25 =>
 some (.inl t25)) else
 (some (.inr (.inr false)))) else
 (some (.inr (.inl ())))
def m_slices_Equal_tideLooktideLook (s10 : (List Look)) (s21 : (List Look)) : Option Bool :=
 if (s10.length : Int) = (s21.length : Int) then
 ((iterM FU (m_slices_Equal_tideLooktideLook_L0 s10 s21) 0).bind fun o =>
 oc o (fun j => some true) (fun r_1 => some r_1)) else
 (some false)
set_option maxRecDepth 100000 in
set_option maxHeartbeats 4000000 in
theorem c_slices_Equal_tideLooktideLook (s10 : (List Look)) (s21 : (List Look)) (qa0 : Option Addr) (na0 ca0 : Nat) (qa1 : Option Addr) (na1 ca1 : Nat) (w : World) (hw : HV w (keys [] []) [] [] [(aB qa0, aO qa0, RL.enc s10), (aB qa1, aO qa1, RL.enc s21)] w) (hna0 : s10.length = na0) (hqa0 : AOK na0 qa0) (hla0 : na0 ≤ ca0) (hna1 : s21.length = na1) (hqa1 : AOK na1 qa1) (hla1 : na1 ≤ ca1) {res : Bool} (hm : m_slices_Equal_tideLooktideLook s10 s21 = some res) :
    Calls Try.prog 131 #[.slice qa0 na0 ca0, .slice qa1 na1 ca1] w (fun en w' => ∃ l : Unit, en = .returned (.bool res) ∧ (True) ∧ HV w (keys [] []) [] [] [] w') := by
  unfold m_slices_Equal_tideLooktideLook at hm
  refine g_enter (args := [.slice qa0 na0 ca0, .slice qa1 na1 ca1]) Try.func131 rfl Try.ntmps131 rfl (e := [(0, _), (1, _)]) rfl (H := HV w (keys [] []) [] [] [(aB qa0, aO qa0, RL.enc s10), (aB qa1, aO qa1, RL.enc s21)]) hw ?_
  refine g_seq ?_
  refine g_region ?_
  refine g_val rfl rfl rfl (fun _ _ => v_assign rfl) ?_
  refine g_nil ?_
  refine g_n_then ?_
  refine g_seq ?_
  refine g_seq ?_
  refine g_region ?_
  refine g_val rfl rfl rfl (fun _ _ => v_move rfl) ?_
  refine g_val rfl rfl rfl (fun w _ => v_lenR hna0 (Try.runUnderlying35 w) rfl) ?_
  refine g_val rfl rfl rfl (fun _ _ => v_move rfl) ?_
  refine g_val rfl rfl rfl (fun w _ => v_lenR hna1 (Try.runUnderlying35 w) rfl) ?_
  refine g_val rfl rfl rfl (fun _ _ => v_neq rfl rfl) ?_
  refine g_nil ?_
  refine g_n_then ?_
  refine g_cond rfl (fun h1 => ?_) (fun h1 => ?_)
  ·replace hm := ifF (of_ndec_true h1) hm
   refine g_seq ?_
   refine g_region ?_
   refine g_val rfl rfl rfl (fun _ _ => v_assign rfl) ?_
   refine g_nil ?_
   refine g_n_then ?_
   refine g_ret ?_
   refine g_r_then ?_
   obtain rfl := Option.some.inj hm
   refine g_done rfl (fun w hh => (.tmp rfl .nil)) (fun w hh => ⟨(), rfl, trivial, hh.sel [] [] 2 (by decide) (by decide) rfl rfl rfl⟩)
  ·replace hm := ifT (of_ndec_false h1) hm
   refine g_skip ?_
   refine g_n_then ?_
   refine g_seq ?_
   refine g_seq ?_
   refine g_region ?_
   refine g_val rfl rfl rfl (fun _ _ => v_move rfl) ?_
   refine g_val rfl rfl rfl (fun w _ => v_lenR hna0 (Try.runUnderlying35 w) rfl) ?_
   refine g_val rfl rfl rfl (fun _ _ => v_move rfl) ?_
   refine g_nil ?_
   refine g_n_then ?_
   obtain ⟨o, h2, h3⟩ := bindO hm
   refine g_cut (ι := Unit) (fun j => o = .inl j) (fun j => []) (fun j => []) (fun j => []) ?_ ?_
   ·replace hm := h2
    refine g_block ?_
    refine g_loopF (ι := Unit) hm (fun s l => True) (fun s l => [(0, .slice qa0 na0 ca0), (1, .slice qa1 na1 ca1), (12, .int .i64 (s10.length : Int)), (13, .int .i64 s)]) (fun s l => []) (fun s l => []) () (trivial) ((.cons rfl (.cons rfl (.cons rfl (.cons rfl .nil))))) (fun w hh => hh) (fun s l r hpl hm h4 => ?_)
    unfold m_slices_Equal_tideLooktideLook_L0 at hm
    refine g_seq ?_
    refine g_region ?_
    refine g_val rfl rfl rfl (fun _ _ => v_lss rfl rfl) ?_
    refine g_nil ?_
    refine g_n_then ?_
    refine g_seq ?_
    refine g_cond rfl (fun h5 => ?_) (fun h5 => ?_)
    ·replace hm := ifT (of_decide_eq_true h5) hm
     refine g_skip ?_
     refine g_n_then ?_
     refine g_seq ?_
     refine g_block ?_
     refine g_seq ?_
     refine g_region ?_
     refine g_val rfl rfl rfl (fun _ _ => v_move rfl) ?_
     refine g_val rfl rfl rfl (fun _ _ => v_assign rfl) ?_
     refine g_nil ?_
     refine g_n_then ?_
     refine g_seq ?_
     refine g_draw none (.free 0 (.free 1 (.free 2 (.hoist 3 (.free 4 (.free 5 (.free 6 (.hoist 7 (.free 8 .done))))))))) _ rfl (by decide +kernel) (fun w k hh => hh.draw k) (fun w hh => hh) ?_
     refine p_free rfl rfl rfl rfl (fun _ _ => v_move rfl) ?_
     refine p_free rfl rfl rfl rfl (fun _ _ => v_move rfl) ?_
     obtain ⟨t18, h6, hm⟩ := bindO hm
     refine p_free rfl rfl rfl rfl (fun w _ => v_ixR h6 (Try.runUnderlying35 w) (Try.sizeOf89 w) rfl rfl hna0 hqa0) ?_
     refine p_hoist rfl rfl rfl rfl (fun w hh => v_ldEA RL 0 [.int .i64 t18.min, .int .i64 t18.place, .bool t18.wet] h6 (Try.isAgg89 w) (Try.sizeOf89 w) rfl (hh.seg 0 rfl) rfl (Nat.add_zero _).symm) ?_
     refine p_free rfl rfl rfl rfl (fun _ _ => v_move rfl) ?_
     refine p_free rfl rfl rfl rfl (fun _ _ => v_move rfl) ?_
     obtain ⟨t22, h7, hm⟩ := bindO hm
     refine p_free rfl rfl rfl rfl (fun w _ => v_ixR h7 (Try.runUnderlying35 w) (Try.sizeOf89 w) rfl rfl hna1 hqa1) ?_
     refine p_hoist rfl rfl rfl rfl (fun w hh => v_ldEA RL 0 [.int .i64 t22.min, .int .i64 t22.place, .bool t22.wet] h7 (Try.isAgg89 w) (Try.sizeOf89 w) rfl (hh.seg 1 rfl) rfl (Nat.add_zero _).symm) ?_
     refine p_free rfl rfl rfl rfl (fun w _ => v_neqAgg (gxeq89 t18 (⟨t22.min, t22.place, t22.wet⟩ : Look) w) gxeqg89 rfl rfl) ?_
     refine p_done ?_
     refine g_n_then ?_
     refine g_cond rfl (fun h8 => ?_) (fun h8 => ?_)
     ·replace hm := ifF (of_ndec_true h8) hm
      refine g_seq ?_
      refine g_region ?_
      refine g_val rfl rfl rfl (fun _ _ => v_assign rfl) ?_
      refine g_nil ?_
      refine g_n_then ?_
      refine g_ret ?_
      refine g_r_blk ?_
      refine g_r_then ?_
      refine g_r_then ?_
      refine g_r_blk ?_
      obtain rfl := Option.some.inj hm
      have hbo := h4 _ rfl
      subst hbo
      refine g_r_then ?_
      replace hm := ocR h3
      refine g_r_then ?_
      obtain rfl := Option.some.inj hm
      refine g_done rfl (fun w hh => (.tmp rfl .nil)) (fun w hh => ⟨(), rfl, trivial, hh.sel [] [] 2 (by decide) (by decide) rfl rfl rfl⟩)
     ·replace hm := ifT (of_ndec_false h8) hm
      refine g_skip ?_
      refine g_n_blk ?_
      refine g_n_then ?_
      refine g_region ?_
      obtain ⟨t25, h9, hm⟩ := bindO hm
      refine g_val rfl rfl rfl (fun _ _ => v_addc h9 rfl rfl) ?_
      refine g_val rfl rfl rfl (fun _ _ => v_move rfl) ?_
      refine g_nil ?_
      obtain rfl := Option.some.inj hm
      refine g_n_then ?_
      exact g_again' _ () rfl (trivial) ((.cons rfl (.cons rfl (.cons rfl (.cons rfl .nil))))) (fun w hh => hh)
    ·replace hm := ifF (of_decide_eq_false h5) hm
     refine g_exit ?_
     refine g_x_then ?_
     refine g_x_then ?_
     refine g_x_blk ?_
     obtain rfl := Option.some.inj hm
     have hbo := h4 _ rfl
     subst hbo
     exact g_leaf () (rfl) (.nil) (fun w hh => hh)
   ·intro j hj
    have h10 := hj
    subst h10
    replace hm := ocL h3
    refine g_n_then ?_
    refine g_seq ?_
    refine g_region ?_
    refine g_val rfl rfl rfl (fun _ _ => v_assign rfl) ?_
    refine g_nil ?_
    refine g_n_then ?_
    refine g_ret ?_
    obtain rfl := Option.some.inj hm
    refine g_done rfl (fun w hh => (.tmp rfl .nil)) (fun w hh => ⟨(), rfl, trivial, hh.sel [] [] 2 (by decide) (by decide) rfl rfl rfl⟩)
def m_laurelkit_Eq_tideLook (a0 : (List Look)) (b1 : (List Look)) : Option Bool :=
 (m_slices_Equal_tideLooktideLook a0 b1).bind fun t7 =>
 some t7
set_option maxRecDepth 100000 in
set_option maxHeartbeats 4000000 in
theorem c_laurelkit_Eq_tideLook (a0 : (List Look)) (b1 : (List Look)) (qa0 : Option Addr) (na0 ca0 : Nat) (qa1 : Option Addr) (na1 ca1 : Nat) (w : World) (hw : HV w (keys [] []) [] [] [(aB qa0, aO qa0, RL.enc a0), (aB qa1, aO qa1, RL.enc b1)] w) (hna0 : a0.length = na0) (hqa0 : AOK na0 qa0) (hla0 : na0 ≤ ca0) (hna1 : b1.length = na1) (hqa1 : AOK na1 qa1) (hla1 : na1 ≤ ca1) {res : Bool} (hm : m_laurelkit_Eq_tideLook a0 b1 = some res) :
    Calls Try.prog 60 #[.slice qa0 na0 ca0, .slice qa1 na1 ca1] w (fun en w' => ∃ l : Unit, en = .returned (.bool res) ∧ (True) ∧ HV w (keys [] []) [] [] [] w') := by
  unfold m_laurelkit_Eq_tideLook at hm
  refine g_enter (args := [.slice qa0 na0 ca0, .slice qa1 na1 ca1]) Try.func60 rfl Try.ntmps60 rfl (e := [(0, _), (1, _)]) rfl (H := HV w (keys [] []) [] [] [(aB qa0, aO qa0, RL.enc a0), (aB qa1, aO qa1, RL.enc b1)]) hw ?_
  refine g_seq ?_
  refine g_region ?_
  refine g_val rfl rfl rfl (fun _ _ => v_assign rfl) ?_
  refine g_nil ?_
  refine g_n_then ?_
  refine g_seq ?_
  refine g_region ?_
  refine g_val rfl rfl rfl (fun _ _ => v_move rfl) ?_
  refine g_val rfl rfl rfl (fun _ _ => v_move rfl) ?_
  obtain ⟨t7, h1, hm⟩ := bindO hm
  refine g_callH [] [] rfl rfl rfl rfl rfl rfl rfl (fun a w => Try.call131 a w) (fun w hh => c_slices_Equal_tideLooktideLook a0 b1 qa0 na0 ca0 qa1 na1 ca1 w (HV.callee (S0 := []) (vs0 := []) hh (roC (hh.rsep (S0 := []) (vs0 := []) 0 rfl) (roC (hh.rsep (S0 := []) (vs0 := []) 1 rfl) roN))) hna0 hqa0 hla0 hna1 hqa1 hla1 h1) (fun l h2 => ?_)
  refine g_val rfl rfl rfl (fun _ _ => v_assign rfl) ?_
  refine g_nil ?_
  refine g_n_then ?_
  refine g_ret ?_
  obtain rfl := Option.some.inj hm
  refine g_done rfl (fun w hh => (.tmp rfl .nil)) (fun w hh => ⟨(), rfl, trivial, hh.sel [] [] 2 (by decide) (by decide) rfl rfl rfl⟩)
end Go.Proofs.Wk

namespace Go.Proofs.Wk
open Go Go.Gx Go.Pl
set_option linter.unusedVariables false
/-! ### truths that agree with looks -/
def agT (s : Sands) (w : Int) (l : Look) : Bool := decide (refGate ((gatesOf s).getD l.place.toNat 0) < heightF s l.min + w) == l.wet
theorem step_mem {s : Sands} (hG : Good s) {w : Int} (hw : s.wind.lo ≤ w ∧ w ≤ s.wind.hi) {l : Look} (hl : lookOK s l) (o : Span) :
    ((leftStep s (gatesOf s) o l).lo ≤ w ∧ w ≤ (leftStep s (gatesOf s) o l).hi) ↔ (o.lo ≤ w ∧ w ≤ o.hi) ∧ agT s w l = true := by
  have hhi := hG.hi
  have hh := height_tight hG hl.1
  have hgo := gates_ok (s := s)
  have hg0 := hgo.lo l.place.toNat
  have hg1 := hgo.hi l.place.toNat
  unfold leftStep mostG agT refGate
  generalize (gatesOf s).getD l.place.toNat 0 = g at hg0 hg1
  generalize heightF s l.min = h at hh
  cases hwet : l.wet with
  | true =>
    simp only [if_true]
    by_cases hg : g = 1000
    · rw [if_pos hg, if_pos hg, decide_eq_false (by omega)]
      simp only [beq_iff_eq, Bool.false_eq_true, and_false, iff_false]
      omega
    · rw [if_neg hg, if_neg hg]
      by_cases hc : g < h + w
      · rw [decide_eq_true hc]
        simp only [beq_self_eq_true, and_true]
        omega
      · rw [decide_eq_false hc]
        simp only [beq_iff_eq, Bool.false_eq_true, and_false, iff_false]
        omega
  | false =>
    simp only [Bool.false_eq_true, if_false]
    by_cases hg : g = 1000
    · rw [if_pos hg, if_pos hg, decide_eq_false (by omega)]
      simp only [beq_self_eq_true, and_true]
      omega
    · rw [if_neg hg, if_neg hg]
      by_cases hc : g < h + w
      · rw [decide_eq_true hc]
        simp only [beq_iff_eq, Bool.true_eq_false, and_false, iff_false]
        omega
      · rw [decide_eq_false hc]
        simp only [beq_self_eq_true, and_true]
        omega
theorem fold_mem {s : Sands} (hG : Good s) {w : Int} (hw : s.wind.lo ≤ w ∧ w ≤ s.wind.hi) : ∀ (k : List Look) (o : Span), (∀ l, l ∈ k → lookOK s l) → (((k.foldl (leftStep s (gatesOf s)) o).lo ≤ w ∧ w ≤ (k.foldl (leftStep s (gatesOf s)) o).hi) ↔ (o.lo ≤ w ∧ w ≤ o.hi) ∧ ∀ l, l ∈ k → agT s w l = true)
  | [], o, _ => by simp
  | x :: k, o, h => by
    rw [List.foldl_cons, fold_mem hG hw k _ (fun l hl => h l (List.mem_cons_of_mem _ hl)), step_mem hG hw (h x List.mem_cons_self)]
    simp only [List.mem_cons, forall_eq_or_imp]
    constructor
    · rintro ⟨⟨h1, h2⟩, h3⟩; exact ⟨h1, h2, h3⟩
    · rintro ⟨h1, h2, h3⟩; exact ⟨⟨h1, h2⟩, h3⟩
/-- a truth lies in what looks leave, just if it agrees with them all -/
theorem left_mem {s : Sands} (hG : Good s) {w : Int} (hw : s.wind.lo ≤ w ∧ w ≤ s.wind.hi) {k : List Look} (hk : ∀ l, l ∈ k → lookOK s l) : ((leftG s (gatesOf s) k).lo ≤ w ∧ w ≤ (leftG s (gatesOf s) k).hi) ↔ ∀ l, l ∈ k → agT s w l = true := by
  unfold leftG
  rw [fold_mem hG hw k s.wind hk]
  exact ⟨fun h => h.2, fun h => ⟨hw, h⟩⟩
theorem fold_in {s : Sands} : ∀ (k : List Look) (o : Span), o.lo ≤ (k.foldl (leftStep s (gatesOf s)) o).lo ∧ (k.foldl (leftStep s (gatesOf s)) o).hi ≤ o.hi
  | [], o => ⟨Int.le_refl _, Int.le_refl _⟩
  | x :: k, o => by
    have h := fold_in (s := s) k (leftStep s (gatesOf s) o x)
    rw [List.foldl_cons]
    have h2 : o.lo ≤ (leftStep s (gatesOf s) o x).lo ∧ (leftStep s (gatesOf s) o x).hi ≤ o.hi := by
      unfold leftStep
      split <;> (simp only; omega)
    omega
/-- the reference's agreement -/
theorem refagrees_eq {s : Sands} (hG : Good s) {w : Int} (hw : s.wind.lo ≤ w ∧ w ≤ s.wind.hi) {l : Look} (hl : lookOK s l) : m_laurelref01_agrees s ((List.range s.floors.length).map (fun p : Nat => refGate ((gatesOf s).getD p 0))) w l = some (agT s w l) := by
  have hlo := hG.lo
  have hhi := hG.hi
  have hh := height_tight hG hl.1
  unfold m_laurelref01_agrees
  rw [gates_ix hl.2, Option.bind_some, refheight_eq hG hl.1, Option.bind_some, addc_eq (by omega), Option.bind_some]
  rfl
end Go.Proofs.Wk

namespace Go.Proofs.Wk
open Go Go.Gx Go.Pl
set_option linter.unusedVariables false
theorem rem2 (a : Nat) : remc (a : Int) 2 = some ((a % 2 : Nat) : Int) := by
  rw [remc_eq (by omega), Int.tmod_eq_emod_of_nonneg (by omega)]
  exact congrArg some (by omega)
theorem quo2 {a : Nat} (h : a < 1000000) : quoc (a : Int) 2 = some ((a / 2 : Nat) : Int) := by
  have e : (a : Int).tdiv 2 = ((a / 2 : Nat) : Int) := by rw [Int.tdiv_eq_ediv_of_nonneg (by omega)]; omega
  rw [quoc_eq (by omega) (by rw [e]; omega), e]
/-- look i agrees, if the set has it -/
def bitT (s : Sands) (w : Int) (k : List Look) (n i : Nat) : Bool := !decide (n / 2 ^ i % 2 = 1) || agT s w (k.getD i default)
def setT (s : Sands) (k : List Look) (n : Nat) (w : Int) : Bool := (List.range k.length).all (bitT s w k n)
theorem refleft_one {s : Sands} (hG : Good s) {w : Int} (hw : s.wind.lo ≤ w ∧ w ≤ s.wind.hi) {k : List Look} (hk : ∀ l, l ∈ k → lookOK s l) (hl : k.length ≤ 100) {n : Nat} (hn : n < 1000000) {S : m_laurelref01_Left_S0} (hS : S.w10 = w) :
    iterM FU (m_laurelref01_Left_L1 k s ((List.range s.floors.length).map (fun p : Nat => refGate ((gatesOf s).getD p 0))) S) ⟨true, (n : Int), 0⟩ = some (setT s k n w) := by
  have hz : (⟨true, (n : Int), 0⟩ : m_laurelref01_Left_S1) = (fun j : Nat => (⟨(List.range j).all (bitT s w k n), ((n / 2 ^ j : Nat) : Int), (j : Int)⟩ : m_laurelref01_Left_S1)) 0 := by simp
  rw [hz]
  refine iterM_run (fun j : Nat => (⟨(List.range j).all (bitT s w k n), ((n / 2 ^ j : Nat) : Int), (j : Int)⟩ : m_laurelref01_Left_S1)) k.length (fun j hj => ?_) ?_ FU (FU_lt (by omega))
  · have h2 : n / 2 ^ j / 2 = n / 2 ^ (j + 1) := by rw [Nat.pow_succ, ← Nat.div_div_eq_div_mul]
    have hb : n / 2 ^ j ≤ n := Nat.div_le_self _ _
    have hsucc : (List.range (j + 1)).all (bitT s w k n) = ((List.range j).all (bitT s w k n) && bitT s w k n j) := by
      rw [List.range_succ, List.all_append]; simp
    have hag := refagrees_eq hG hw (hk _ (mem_getD (d := (default : Look)) hj))
    unfold m_laurelref01_Left_L1
    dsimp only
    rw [if_pos (by omega), rem2, Option.bind_some, quo2 (by omega), h2, hsucc]
    generalize (List.range j).all (bitT s w k n) = a
    by_cases hbit : n / 2 ^ j % 2 = 1
    · rw [if_pos (by omega)]
      have hbt : bitT s w k n j = agT s w (k.getD j default) := by simp [bitT, hbit]
      rw [hbt]
      cases a with
      | true =>
        rw [if_pos rfl, ix_nat default hj, Option.bind_some, hS]
        have e : (⟨(k.getD j default).min, (k.getD j default).place, (k.getD j default).wet⟩ : Look) = k.getD j default := rfl
        rw [e, hag, Option.bind_some, Option.bind_some, Option.bind_some, addc_eq (by omega), Option.bind_some]
        simp only [Bool.true_and]
        rfl
      | false =>
        rw [if_neg (by decide), Option.bind_some, Option.bind_some, addc_eq (by omega), Option.bind_some]
        simp only [Bool.false_and]
        rfl
    · rw [if_neg (by omega)]
      have hbt : bitT s w k n j = true := by simp [bitT, hbit]
      rw [hbt, Option.bind_some, Option.bind_some, addc_eq (by omega), Option.bind_some, Bool.and_true]
      rfl
  · unfold m_laurelref01_Left_L1
    dsimp only
    rw [if_neg (by omega)]
    rfl
/-- the truths that agree with a set of looks, in order -/
def leftL (s : Sands) (k : List Look) (n : Nat) (m : Nat) : List Int := ((List.range m).map (fun i : Nat => s.wind.lo + (i : Int))).filter (setT s k n)
theorem leftL_succ {s : Sands} {k : List Look} {n m : Nat} : leftL s k n (m + 1) = leftL s k n m ++ (if setT s k n (s.wind.lo + (m : Int)) = true then [s.wind.lo + (m : Int)] else []) := by
  unfold leftL
  rw [List.range_succ, List.map_append, List.filter_append]
  congr 1
  simp only [List.map_cons, List.map_nil, List.filter_cons, List.filter_nil]
theorem refleft_eq {s : Sands} (hG : Good s) {k : List Look} (hk : ∀ l, l ∈ k → lookOK s l) (hl : k.length ≤ 100) {n : Nat} (hn : n < 1000000) :
    m_laurelref01_Left s ((List.range s.floors.length).map (fun p : Nat => refGate ((gatesOf s).getD p 0))) k (n : Int) = some (leftL s k n (s.wind.hi - s.wind.lo + 1).toNat) := by
  have hlo := hG.lo
  have hhi := hG.hi
  have hwi := hG.wind
  unfold m_laurelref01_Left
  have key : iterM FU (m_laurelref01_Left_L0 s k ((List.range s.floors.length).map (fun p : Nat => refGate ((gatesOf s).getD p 0))) (n : Int)) ⟨s.wind.lo, []⟩ = some (leftL s k n (s.wind.hi - s.wind.lo + 1).toNat) := by
    have hz : (⟨s.wind.lo, []⟩ : m_laurelref01_Left_S0) = (fun j : Nat => (⟨s.wind.lo + (j : Int), leftL s k n j⟩ : m_laurelref01_Left_S0)) 0 := by simp [leftL]
    rw [hz]
    refine iterM_run (fun j : Nat => (⟨s.wind.lo + (j : Int), leftL s k n j⟩ : m_laurelref01_Left_S0)) (s.wind.hi - s.wind.lo + 1).toNat (fun j hj => ?_) ?_ FU (FU_lt (by omega))
    · have hlen : (leftL s k n j).length ≤ j := by
        unfold leftL
        refine Nat.le_trans (List.length_filter_le _ _) (by simp)
      unfold m_laurelref01_Left_L0
      dsimp only
      rw [if_pos (by omega), refleft_one hG (w := s.wind.lo + (j : Int)) (by omega) hk hl hn rfl, Option.bind_some, leftL_succ]
      by_cases h : setT s k n (s.wind.lo + (j : Int)) = true
      · rw [if_pos h, if_pos h, appc_eq (by simp only [List.length_singleton]; omega), Option.bind_some, Option.bind_some, addc_eq (by omega), Option.bind_some]
        exact congrArg (fun z => some (Sum.inl (⟨z, _⟩ : m_laurelref01_Left_S0))) (by omega)
      · rw [if_neg h, if_neg h, Option.bind_some, addc_eq (by omega), Option.bind_some, List.append_nil]
        exact congrArg (fun z => some (Sum.inl (⟨z, _⟩ : m_laurelref01_Left_S0))) (by omega)
    · unfold m_laurelref01_Left_L0
      dsimp only
      rw [if_neg (by omega)]
  rw [key, Option.bind_some]
end Go.Proofs.Wk

namespace Go.Proofs.Wk
open Go Go.Gx Go.Pl
set_option linter.unusedVariables false
/-! ### small sets, as numbers -/
def memL (n : Nat) : List Int := ((List.range 6).filter (fun i => decide (n / 2 ^ i % 2 = 1))).map (fun i : Nat => (i : Int))
def aheadB : List Int → List Int → Bool
  | a, b => if a.length = b.length then lexB a b else decide (a.length < b.length)
 where lexB : List Int → List Int → Bool
  | [], _ => false
  | _ :: _, [] => false
  | x :: a, y :: b => if x = y then lexB a b else decide (x < y)
set_option maxRecDepth 100000 in
theorem members_tab : ∀ n : Nat, n < 64 → m_laurelref01_members (n : Int) = some (memL n) := by decide +kernel
set_option maxRecDepth 100000 in
theorem ahead_tab : ∀ n : Nat, n < 64 → ∀ k : Nat, k < 64 → m_laurelref01_ahead (memL n) (memL k) = some (aheadB (memL n) (memL k)) := by decide +kernel
set_option maxRecDepth 100000 in
theorem ahead_one : ∀ n : Nat, n < 64 → 0 < n → ∀ i : Nat, i < 6 → aheadB (memL n) [(i : Int)] = true → (List.range i).any (fun j => decide (memL n = [(j : Int)])) = true := by decide +kernel
set_option maxRecDepth 100000 in
theorem ahead_two' : ((List.range 64).all fun n => (List.range 6).all fun i => (List.range 6).all fun j => !(decide (0 < n) && decide (i < j) && aheadB (memL n) [(i : Int), (j : Int)]) || ((List.range 6).any (fun a => decide (memL n = [(a : Int)])) || (List.range 6).any (fun a => (List.range 6).any (fun b => decide (a < b) && decide (a < i ∨ (a = i ∧ b < j)) && decide (memL n = [(a : Int), (b : Int)]))))) = true := by decide +kernel
theorem ahead_two {n : Nat} (hn : n < 64) (h0 : 0 < n) {i j : Nat} (hi : i < 6) (hj : j < 6) (hij : i < j) (h : aheadB (memL n) [(i : Int), (j : Int)] = true) : (∃ a : Nat, a < 6 ∧ memL n = [(a : Int)]) ∨ ∃ a b : Nat, a < 6 ∧ b < 6 ∧ a < b ∧ (a < i ∨ (a = i ∧ b < j)) ∧ memL n = [(a : Int), (b : Int)] := by
  have k := List.all_eq_true.1 (List.all_eq_true.1 (List.all_eq_true.1 ahead_two' n (by simpa using hn)) i (by simpa using hi)) j (by simpa using hj)
  rw [decide_eq_true h0, decide_eq_true hij, h] at k
  simp only [Bool.true_and, Bool.not_true, Bool.false_or, Bool.or_eq_true, List.any_eq_true, List.mem_range, decide_eq_true_eq, Bool.and_eq_true] at k
  rcases k with ⟨a, h1, h2⟩ | ⟨a, h1, b, h2, ⟨h3, h4⟩, h5⟩
  · exact .inl ⟨a, h1, h2⟩
  · exact .inr ⟨a, b, h1, h2, h3, h4, h5⟩
set_option maxRecDepth 100000 in
theorem mem_one : ∀ i : Nat, i < 6 → memL (2 ^ i) = [(i : Int)] := by decide +kernel
set_option maxRecDepth 100000 in
theorem mem_two : ∀ i : Nat, i < 6 → ∀ j : Nat, j < 6 → i < j → memL (2 ^ i + 2 ^ j) = [(i : Int), (j : Int)] := by decide +kernel
end Go.Proofs.Wk

namespace Go.Proofs.Wk
open Go Go.Gx Go.Pl
set_option linter.unusedVariables false
/-- which set comes first, as a number -/
def rankL (l : List Int) : Int := l.foldl (fun a x => 8 * a + x) 0 + 10000000 * (l.length : Int)
set_option maxRecDepth 100000 in
theorem ahead_rank : ∀ n : Nat, n < 64 → ∀ k : Nat, k < 64 → aheadB (memL n) (memL k) = decide (rankL (memL n) < rankL (memL k)) := by decide +kernel
set_option maxRecDepth 100000 in
theorem mem_ne : ∀ n : Nat, n < 64 → 0 < n → memL n ≠ [] := by decide +kernel
theorem mem_len {n : Nat} : (memL n).length ≤ 6 := by
  unfold memL
  rw [List.length_map]
  exact Nat.le_trans (List.length_filter_le _ _) (by simp)
/-- a set of looks with which no truth agrees -/
def clashS (s : Sands) (k : List Look) (n : Nat) : Prop := leftL s k n (s.wind.hi - s.wind.lo + 1).toNat = []
/-- what the search over sets ends with -/
def BestOf (s : Sands) (k : List Look) (m : Nat) (best : List Int) : Prop :=
  (best = [] ∧ ∀ c, 0 < c → c < m → ¬ clashS s k c) ∨ ∃ b, 0 < b ∧ b < m ∧ best = memL b ∧ clashS s k b ∧ ∀ c, 0 < c → c < m → clashS s k c → rankL (memL b) ≤ rankL (memL c)
theorem refclash_step {s : Sands} (hG : Good s) {k : List Look} (hk : ∀ l, l ∈ k → lookOK s l) (hl : k.length ≤ 6) {o : Int} {n : Nat} (hn : 0 < n ∧ n < 64) (ho : (n : Int) < o) {best : List Int} (hB : BestOf s k n best) :
    ∃ best', m_laurelref01_Clash_L1 o s ((List.range s.floors.length).map (fun p : Nat => refGate ((gatesOf s).getD p 0))) k ⟨(n : Int), best⟩ = some (.inl ⟨((n + 1 : Nat) : Int), best'⟩) ∧ BestOf s k (n + 1) best' := by
  have hadd : addc (n : Int) 1 = some ((n + 1 : Nat) : Int) := by rw [addc_eq (by omega)]; exact congrArg some (by omega)
  have hleft := refleft_eq hG hk (by omega) (n := n) (by omega)
  unfold m_laurelref01_Clash_L1
  dsimp only
  rw [if_pos ho, members_tab n hn.2, Option.bind_some]
  have hdec : decide (((leftL s k n (s.wind.hi - s.wind.lo + 1).toNat).length : Int) = 0) = true ↔ clashS s k n := by
    unfold clashS
    rw [decide_eq_true_iff, ← List.length_eq_zero_iff]
    omega
  rcases hB with ⟨rfl, hno⟩ | ⟨b, hb0, hbm, rfl, hbc, hmin⟩
  · rw [if_pos (show (([] : List Int).isEmpty) = true from rfl), hleft, Option.bind_some, Option.bind_some]
    by_cases hc : clashS s k n
    · rw [if_pos (hdec.2 hc), Option.bind_some, hadd, Option.bind_some]
      refine ⟨_, rfl, .inr ⟨n, hn.1, by omega, rfl, hc, fun c h0 h1 h2 => ?_⟩⟩
      by_cases he : c = n
      · subst he; exact Int.le_refl _
      · exact absurd h2 (hno c h0 (by omega))
    · rw [if_neg (fun h => hc (hdec.1 h)), Option.bind_some, hadd, Option.bind_some]
      refine ⟨_, rfl, .inl ⟨rfl, fun c h0 h1 h2 => ?_⟩⟩
      by_cases he : c = n
      · subst he; exact hc h2
      · exact hno c h0 (by omega) h2
  · have hne : (memL b).isEmpty = false := by
      have := mem_ne b (by omega) hb0
      cases h : memL b with
      | nil => exact absurd h this
      | cons x y => rfl
    rw [hne, if_neg (by decide), ahead_tab n hn.2 b (by omega), Option.bind_some, ahead_rank n hn.2 b (by omega)]
    by_cases ha : rankL (memL n) < rankL (memL b)
    · rw [if_pos (decide_eq_true ha), hleft, Option.bind_some, Option.bind_some]
      by_cases hc : clashS s k n
      · rw [if_pos (hdec.2 hc), Option.bind_some, hadd, Option.bind_some]
        refine ⟨_, rfl, .inr ⟨n, hn.1, by omega, rfl, hc, fun c h0 h1 h2 => ?_⟩⟩
        by_cases he : c = n
        · subst he; exact Int.le_refl _
        · have := hmin c h0 (by omega) h2
          omega
      · rw [if_neg (fun h => hc (hdec.1 h)), Option.bind_some, hadd, Option.bind_some]
        refine ⟨_, rfl, .inr ⟨b, hb0, by omega, rfl, hbc, fun c h0 h1 h2 => ?_⟩⟩
        by_cases he : c = n
        · subst he; exact absurd h2 hc
        · exact hmin c h0 (by omega) h2
    · rw [decide_eq_false ha, if_neg (by decide), Option.bind_some, if_neg (by decide), Option.bind_some, hadd, Option.bind_some]
      refine ⟨_, rfl, .inr ⟨b, hb0, by omega, rfl, hbc, fun c h0 h1 h2 => ?_⟩⟩
      by_cases he : c = n
      · subst he; omega
      · exact hmin c h0 (by omega) h2
end Go.Proofs.Wk

namespace Go.Proofs.Wk
open Go Go.Gx Go.Pl
set_option linter.unusedVariables false
theorem pow_bd {j : Nat} (h : j ≤ 6) : 1 ≤ 2 ^ j ∧ 2 ^ j ≤ 64 := by
  have h1 := Nat.pow_le_pow_right (n := 2) (by omega) h
  have h2 := Nat.one_le_two_pow (n := j)
  exact ⟨h2, by simpa using h1⟩
theorem refclash_eq {s : Sands} (hG : Good s) {k : List Look} (hk : ∀ l, l ∈ k → lookOK s l) (hl : k.length ≤ 6) :
    ∃ best, m_laurelref01_Clash s ((List.range s.floors.length).map (fun p : Nat => refGate ((gatesOf s).getD p 0))) k = some ⟨!best.isEmpty, best⟩ ∧ BestOf s k (2 ^ k.length) best := by
  have hp := pow_bd hl
  unfold m_laurelref01_Clash
  have k0 : iterM FU (m_laurelref01_Clash_L0 k) ⟨1, 0⟩ = some ((2 ^ k.length : Nat) : Int) := by
    have hz : (⟨1, 0⟩ : m_laurelref01_Clash_S0) = (fun j : Nat => (⟨((2 ^ j : Nat) : Int), (j : Int)⟩ : m_laurelref01_Clash_S0)) 0 := rfl
    rw [hz]
    refine iterM_run (fun j : Nat => (⟨((2 ^ j : Nat) : Int), (j : Int)⟩ : m_laurelref01_Clash_S0)) k.length (fun j hj => ?_) ?_ FU (FU_lt (by omega))
    · have hb := pow_bd (j := j) (by omega)
      have e : 2 ^ (j + 1) = 2 * 2 ^ j := by rw [Nat.pow_succ]; omega
      generalize 2 ^ j = a at hb e
      unfold m_laurelref01_Clash_L0
      dsimp only
      rw [if_pos (by omega), mulc_eq (by omega), Option.bind_some, addc_eq (by omega), Option.bind_some, e]
      exact congrArg (fun z => some (Sum.inl (⟨z, _⟩ : m_laurelref01_Clash_S0))) (by omega)
    · unfold m_laurelref01_Clash_L0
      dsimp only
      rw [if_neg (by omega)]
  rw [k0, Option.bind_some]
  generalize 2 ^ k.length = N at hp
  obtain ⟨b, hb, hQ⟩ := iterM_inv (f := m_laurelref01_Clash_L1 (N : Int) s ((List.range s.floors.length).map (fun p : Nat => refGate ((gatesOf s).getD p 0))) k) (fun x => ∃ n : Nat, x.set11 = (n : Int) ∧ (0 < n ∧ n ≤ N) ∧ BestOf s k n x.best10) (fun x => N - x.set11.toNat) (fun b => BestOf s k N b)
    (fun x ⟨n, hx, hn, hB⟩ => by
      obtain ⟨c, best⟩ := x
      simp only at hx hB
      subst hx
      by_cases hlt : n < N
      · left
        obtain ⟨b', h1, h2⟩ := refclash_step hG hk hl (o := (N : Int)) (n := n) ⟨hn.1, by omega⟩ (by omega) hB
        exact ⟨_, h1, ⟨n + 1, rfl, ⟨by omega, by omega⟩, h2⟩, by simp only; omega⟩
      · right
        have : n = N := by omega
        subst this
        unfold m_laurelref01_Clash_L1
        dsimp only
        rw [if_neg (by omega)]
        exact ⟨_, rfl, hB⟩) FU ⟨1, []⟩ (FU_lt (by simp only; omega)) ⟨1, rfl, ⟨by omega, by omega⟩, .inl ⟨rfl, fun c h0 h1 => by omega⟩⟩
  rw [hb, Option.bind_some]
  exact ⟨b, rfl, hQ⟩
end Go.Proofs.Wk

namespace Go.Proofs.Wk
open Go Go.Gx Go.Pl
set_option linter.unusedVariables false
/-- looks leave nothing, just if no truth agrees with them all -/
theorem left_empty {s : Sands} (hG : Good s) {k : List Look} (hk : ∀ l, l ∈ k → lookOK s l) : (leftG s (gatesOf s) k).hi < (leftG s (gatesOf s) k).lo ↔ ∀ w, s.wind.lo ≤ w → w ≤ s.wind.hi → ¬ ∀ l, l ∈ k → agT s w l = true := by
  have hin := fold_in (s := s) k s.wind
  have e : leftG s (gatesOf s) k = k.foldl (leftStep s (gatesOf s)) s.wind := rfl
  rw [← e] at hin
  constructor
  · intro h w h1 h2 h3
    have := (left_mem hG ⟨h1, h2⟩ hk).2 h3
    omega
  · intro h
    refine Classical.byContradiction fun hc => ?_
    exact h (leftG s (gatesOf s) k).lo hin.1 (by omega) ((left_mem hG ⟨hin.1, by omega⟩ hk).1 ⟨Int.le_refl _, by omega⟩)
theorem clash_iff {s : Sands} {k : List Look} {n : Nat} : clashS s k n ↔ ∀ w, s.wind.lo ≤ w → w ≤ s.wind.hi → setT s k n w = false := by
  unfold clashS leftL
  rw [List.filter_eq_nil_iff]
  constructor
  · intro h w h1 h2
    have := h w (List.mem_map.2 ⟨(w - s.wind.lo).toNat, by simp; omega, by omega⟩)
    simpa using this
  · intro h w hw
    obtain ⟨i, hi, rfl⟩ := List.mem_map.1 hw
    have hi' : i < (s.wind.hi - s.wind.lo + 1).toNat := by simpa using hi
    rw [h _ (by omega) (by omega)]
    decide
/-- a set's looks -/
theorem setT_iff {s : Sands} {k : List Look} {n : Nat} {w : Int} : setT s k n w = true ↔ ∀ i, i < k.length → n / 2 ^ i % 2 = 1 → agT s w (k.getD i default) = true := by
  unfold setT
  rw [List.all_eq_true]
  constructor
  · intro h i hi hb
    have := h i (by simpa using hi)
    simpa [bitT, hb] using this
  · intro h i hi
    have hi' : i < k.length := by simpa using hi
    unfold bitT
    by_cases hb : n / 2 ^ i % 2 = 1
    · rw [h i hi' hb]; simp
    · simp [hb]
set_option maxRecDepth 100000 in
theorem bit_one : ∀ i : Nat, i < 6 → ∀ a : Nat, a < 6 → (2 ^ i / 2 ^ a % 2 = 1 ↔ a = i) := by decide +kernel
set_option maxRecDepth 100000 in
theorem bit_two : ∀ i : Nat, i < 6 → ∀ j : Nat, j < 6 → i < j → ∀ a : Nat, a < 6 → ((2 ^ i + 2 ^ j) / 2 ^ a % 2 = 1 ↔ a = i ∨ a = j) := by decide +kernel
end Go.Proofs.Wk

namespace Go.Proofs.Wk
open Go Go.Gx Go.Pl
set_option linter.unusedVariables false
/-! ### the look that settles most -/
def mostF (s : Sands) (m : Int) (p : Nat) : Int := if (gatesOf s).getD p 0 = 1000 then 50 else (gatesOf s).getD p 0 - heightF s m
def yesF (s : Sands) (m : Int) (p : Nat) : Int := max 0 (s.wind.hi - max s.wind.lo (mostF s m p + 1) + 1)
def allW (s : Sands) : Int := s.wind.hi - s.wind.lo + 1
def nF (s : Sands) (m : Int) (p : Nat) : Int := max (yesF s m p) (allW s - yesF s m p)
def askStep (s : Sands) (m : Int) (st : Int × Look) (p : Nat) : Int × Look := if nF s m p < st.1 then (nF s m p, ⟨m, (p : Int), true⟩) else st
theorem x_left_eq {s : Sands} (hG : Good s) {k : List Look} (hk : k.all (fun l => dayF s l.min && isPlace s l.place) = true) (hl : k.length ≤ 1000) : x_left s k = some (leftG s (gatesOf s) k) := by
  have hs := Good.short hG
  have h1 := hs.t
  have h2 := hs.f
  have h3 := hs.s
  unfold x_left
  rw [if_pos ⟨⟨by omega, by omega, by omega⟩, check_of_good hG, hk, by omega⟩]
end Go.Proofs.Wk

namespace Go.Proofs.Wk
open Go Go.Fw Go.Gx Go.Pl
set_option linter.unusedVariables false
structure m_laurellaw01_TideLooks_C1 where
  own5 : Sands
  x6 : Sands
  mine7 : (List Look)
  y8 : (List Look)
def m_laurellaw01_TideLooks_Q0 : Plan := (.one 1 (.one 3 (.one 5 (.one 7 (.one 10 (.one 11 (.free 12 (.free 13 .done))))))))
def m_laurellaw01_TideLooks_Q1 : Plan := (.one 3 (.one 5 (.one 7 (.one 10 (.one 11 (.free 12 (.free 13 .done)))))))
def m_laurellaw01_TideLooks_Q2 : Plan := (.one 5 (.one 7 (.one 10 (.one 11 (.free 12 (.free 13 .done))))))
def m_laurellaw01_TideLooks_Q3 : Plan := (.one 7 (.one 10 (.one 11 (.free 12 (.free 13 .done)))))
def m_laurellaw01_TideLooks_Q4 : Plan := (.one 8 (.one 10 (.one 11 (.free 12 (.free 13 .done)))))
def m_laurellaw01_TideLooks_Q5 : Plan := (.br (.alt 7 m_laurellaw01_TideLooks_Q4 (.alt 8 m_laurellaw01_TideLooks_Q3 .nil)))
def m_laurellaw01_TideLooks_Q6 : Plan := (.br (.alt 5 m_laurellaw01_TideLooks_Q5 (.alt 8 m_laurellaw01_TideLooks_Q2 .nil)))
def m_laurellaw01_TideLooks_Q7 : Plan := (.br (.alt 3 m_laurellaw01_TideLooks_Q6 (.alt 8 m_laurellaw01_TideLooks_Q1 .nil)))
def m_laurellaw01_TideLooks_Q8 : Plan := (.br (.alt 1 m_laurellaw01_TideLooks_Q7 (.alt 8 m_laurellaw01_TideLooks_Q0 .nil)))
def m_laurellaw01_TideLooks_Q9 : Plan := (.one 9 (.one 10 (.one 11 (.free 12 (.free 13 .done)))))
def m_laurellaw01_TideLooks_Q10 : Plan := (.br (.alt 7 m_laurellaw01_TideLooks_Q9 (.alt 9 m_laurellaw01_TideLooks_Q3 .nil)))
def m_laurellaw01_TideLooks_Q11 : Plan := (.br (.alt 5 m_laurellaw01_TideLooks_Q10 (.alt 9 m_laurellaw01_TideLooks_Q2 .nil)))
def m_laurellaw01_TideLooks_Q12 : Plan := (.br (.alt 3 m_laurellaw01_TideLooks_Q11 (.alt 9 m_laurellaw01_TideLooks_Q1 .nil)))
def m_laurellaw01_TideLooks_Q13 : Plan := (.br (.alt 1 m_laurellaw01_TideLooks_Q12 (.alt 9 m_laurellaw01_TideLooks_Q0 .nil)))
def m_laurellaw01_TideLooks_Q14 : Plan := (.br (.alt 8 m_laurellaw01_TideLooks_Q9 (.alt 9 m_laurellaw01_TideLooks_Q4 .nil)))
def m_laurellaw01_TideLooks_Q15 : Plan := (.br (.alt 7 m_laurellaw01_TideLooks_Q14 (.alt 8 m_laurellaw01_TideLooks_Q10 (.alt 9 m_laurellaw01_TideLooks_Q5 .nil))))
def m_laurellaw01_TideLooks_Q16 : Plan := (.br (.alt 5 m_laurellaw01_TideLooks_Q15 (.alt 8 m_laurellaw01_TideLooks_Q11 (.alt 9 m_laurellaw01_TideLooks_Q6 .nil))))
def m_laurellaw01_TideLooks_Q17 : Plan := (.br (.alt 3 m_laurellaw01_TideLooks_Q16 (.alt 8 m_laurellaw01_TideLooks_Q12 (.alt 9 m_laurellaw01_TideLooks_Q7 .nil))))
def m_laurellaw01_TideLooks_Q18 : Plan := (.one 10 (.one 11 (.free 12 (.free 13 .done))))
structure m_laurellaw01_TideLooks_C2 where
  w9 : Int
  u10 : Int
  span12_lo : Int
  span12_hi : Int
  want11 : (List Int)
structure m_laurellaw01_TideLooks_C3 where
  u10 : Int
  want11 : (List Int)
def m_laurellaw01_TideLooks (s0 : Sands) (looks1 : (List Look)) : Option Bool :=
 ((m_laurellaw01_wide s0).bind fun t21 =>
 if t21 = true then
 (some true) else
 (if 15 < (looks1.length : Int) then
 (some true) else
 (if 6 < (looks1.length : Int) then
 (some (decide ((looks1.length : Int) ≤ 10))) else
 (some false)))).bind fun o =>
 if o = true then
 ((x_awake).bind fun t37 =>
 some t37) else
 (((m_laurellaw01_Own s0).bind fun t39 =>
 (m_laurellaw01_theirs s0).bind fun t41 =>
 (m_laurelkit_Dup_tideLook looks1).bind fun t43 =>
 (m_laurellaw01_seen looks1).bind fun t45 =>
 some (⟨t39, t41, t43, t45⟩ : m_laurellaw01_TideLooks_C1)).bind fun o_1 =>
 (m_laurelref01_LooksError o_1.x6 o_1.y8).bind fun t48 =>
 (if t48 = 0 then
 ((m_laurelref01_Gates o_1.x6).bind fun t54 =>
 if (0 : Int) ≤ (looks1.length : Int) then ((subc (IntKind.i64.wrap (1 * 2 ^ min (Int.toNat (looks1.length : Int)) IntKind.i64.bits)) 1).bind fun t61 =>
 (m_laurelref01_Left o_1.x6 t54 o_1.y8 t61).bind fun t62 =>
 ((m_laurelref01_Clash o_1.x6 t54 o_1.y8).bind fun t67 =>
 if (!t67.r1) = true then
 (some (⟨6, t67.r0⟩ : m_laurellaw01_TideLooks_C3)) else
 (some (⟨t48, t67.r0⟩ : m_laurellaw01_TideLooks_C3))).bind fun o_3 =>
 if (t62.length : Int) = 0 then
 (some (⟨7, o_3.u10, 0, 0, o_3.want11⟩ : m_laurellaw01_TideLooks_C2)) else
 ((ix t62 0).bind fun t76 =>
 (subc (t62.length : Int) 1).bind fun t81 =>
 (ix t62 t81).bind fun t82 =>
 some (⟨t48, o_3.u10, t76, t82, o_3.want11⟩ : m_laurellaw01_TideLooks_C2))) else none) else
 (some (⟨t48, t48, 0, 0, []⟩ : m_laurellaw01_TideLooks_C2))).bind fun o_2 =>
 (x_Looks o_1.own5 o_1.mine7).bind fun t88 =>
 (m_tide_Clash_1 o_1.own5 o_1.mine7).bind fun t94 =>
 (if t88.2 = o_2.w9 then
 (if t94.r1 = o_2.u10 then
 (if t88.1 = (⟨o_2.span12_lo, o_2.span12_hi⟩ : Span) then
 ((m_laurelkit_Eq_int t94.r0 o_2.want11).bind fun t113 =>
 if t113 = true then
 ((m_laurellaw01_same o_1.own5 s0).bind fun t118 =>
 if t118 = true then
 ((m_laurelkit_Eq_tideLook o_1.mine7 looks1).bind fun t123 =>
 if t123 = true then
 ((x_awake).bind fun t126 =>
 some t126) else
 (some false)) else
 (some false)) else
 (some false)) else
 (some false)) else
 (some false)) else
 (some false)).bind fun o_4 =>
 some o_4)
set_option maxRecDepth 100000 in
set_option maxHeartbeats 4000000 in
theorem c_laurellaw01_TideLooks (s0 : Sands) (looks1 : (List Look)) (qa0 : Option Addr) (na0 ca0 : Nat) (qa1 : Option Addr) (na1 ca1 : Nat) (qa2 : Option Addr) (na2 ca2 : Nat) (qa3 : Option Addr) (na3 ca3 : Nat) (w : World) (hw : HV w (keys [] []) [] [] [(aB qa0, aO qa0, RW.enc s0.table), (aB qa1, aO qa1, RI.enc s0.floors), (aB qa2, aO qa2, RS.enc s0.sills), (aB qa3, aO qa3, RL.enc looks1)] w) (hna0 : s0.table.length = na0) (hqa0 : AOK na0 qa0) (hla0 : na0 ≤ ca0) (hna1 : s0.floors.length = na1) (hqa1 : AOK na1 qa1) (hla1 : na1 ≤ ca1) (hna2 : s0.sills.length = na2) (hqa2 : AOK na2 qa2) (hla2 : na2 ≤ ca2) (hna3 : looks1.length = na3) (hqa3 : AOK na3 qa3) (hla3 : na3 ≤ ca3) {res : Bool} (hm : m_laurellaw01_TideLooks s0 looks1 = some res) :
    Calls Try.prog 9 #[.agg #[.slice qa0 na0 ca0, .int .i64 s0.wind.lo, .int .i64 s0.wind.hi, .slice qa1 na1 ca1, .slice qa2 na2 ca2], .slice qa3 na3 ca3] w (fun en w' => ∃ l : Unit, en = .returned (.bool res) ∧ (True) ∧ HV w (keys [] []) [] [] [] w') := by
  unfold m_laurellaw01_TideLooks at hm
  refine g_enter (args := [.agg #[.slice qa0 na0 ca0, .int .i64 s0.wind.lo, .int .i64 s0.wind.hi, .slice qa1 na1 ca1, .slice qa2 na2 ca2], .slice qa3 na3 ca3]) Try.func9 rfl Try.ntmps9 rfl (e := [(0, _), (1, _)]) rfl (H := HV w (keys [] []) [] [] [(aB qa0, aO qa0, RW.enc s0.table), (aB qa1, aO qa1, RI.enc s0.floors), (aB qa2, aO qa2, RS.enc s0.sills), (aB qa3, aO qa3, RL.enc looks1)]) hw ?_
  refine g_seq ?_
  refine g_region ?_
  refine g_boxV rfl rfl (fun b h1 => ?_)
  refine g_val rfl rfl rfl (fun _ _ => v_assign rfl) ?_
  refine g_nil ?_
  refine g_n_then ?_
  refine g_seq ?_
  refine g_seq ?_
  obtain ⟨o, h2, h3⟩ := bindO hm
  refine g_cut (ι := Unit) (fun l => True) (fun l => [(1, .slice qa3 na3 ca3), (2, ptr b 0), (36, .bool o)]) (fun l => [(b, .cells #[.slice qa0 na0 ca0, .int .i64 s0.wind.lo, .int .i64 s0.wind.hi, .slice qa1 na1 ca1, .slice qa2 na2 ca2] 29 (0, 0))]) (fun l => []) ?_ ?_
  ·replace hm := h2
   refine g_region ?_
   refine g_val rfl rfl rfl (fun w hh => v_loadAgg (vs := [_, _, _, _, _]) (Try.isAgg29 w) (Try.sizeOf29 w) rfl (hh.cells 0 rfl rfl)) ?_
   obtain ⟨t21, h4, hm⟩ := bindO hm
   refine g_callH [] [] rfl rfl rfl rfl rfl rfl rfl (fun a w => Try.call52 a w) (fun w hh => c_laurellaw01_wide s0 qa0 na0 ca0 qa1 na1 ca1 qa2 na2 ca2 w (HV.callee (S0 := []) (vs0 := []) hh (roC (hh.rsep (S0 := []) (vs0 := []) 0 rfl) (roC (hh.rsep (S0 := []) (vs0 := []) 1 rfl) (roC (hh.rsep (S0 := []) (vs0 := []) 2 rfl) roN)))) hna0 hqa0 hla0 hna1 hqa1 hla1 hna2 hqa2 hla2 h4) (fun l_1 h5 => ?_)
   refine g_val rfl rfl rfl (fun _ _ => v_move rfl) ?_
   refine g_case 22 rfl (fun h6 => ?_) (fun h6 => ?_)
   ·replace hm := ifT (h6) hm
    refine g_skipG rfl rfl rfl rfl rfl rfl ?_
    refine g_skipG rfl rfl rfl rfl rfl rfl ?_
    refine g_skipG rfl rfl rfl rfl rfl rfl ?_
    refine g_val rfl rfl rfl (fun _ _ => v_pickT rfl rfl) ?_
    refine g_val rfl rfl rfl (fun _ _ => v_move rfl) ?_
    refine g_skipG rfl rfl rfl rfl rfl rfl ?_
    refine g_skipG rfl rfl rfl rfl rfl rfl ?_
    refine g_skipG rfl rfl rfl rfl rfl rfl ?_
    refine g_skipG rfl rfl rfl rfl rfl rfl ?_
    refine g_skipU' rfl rfl rfl rfl rfl ?_
    refine g_skipU' rfl rfl rfl rfl rfl ?_
    refine g_skipU' rfl rfl rfl rfl rfl ?_
    refine g_skipG rfl rfl rfl rfl rfl rfl ?_
    refine g_val rfl rfl rfl (fun _ _ => v_pickT rfl rfl) ?_
    refine g_nil ?_
    obtain rfl := Option.some.inj hm
    exact g_leaf () (trivial) ((.cons rfl (.cons rfl (.cons rfl .nil)))) (fun w hh => hh)
   ·replace hm := ifF ((fun hh => Bool.noConfusion ((h6).symm.trans hh))) hm
    refine v_unguard rfl rfl ?_
    refine g_val rfl rfl rfl (fun _ _ => v_move rfl) ?_
    refine v_unguard rfl rfl ?_
    refine g_val rfl rfl rfl (fun w _ => v_lenR hna3 (Try.runUnderlying35 w) rfl) ?_
    refine v_unguard rfl rfl ?_
    refine g_val rfl rfl rfl (fun _ _ => v_gtr rfl rfl) ?_
    refine g_val rfl rfl rfl (fun _ _ => v_pickF rfl rfl) ?_
    refine g_val rfl rfl rfl (fun _ _ => v_move rfl) ?_
    refine g_case 27 rfl (fun h7 => ?_) (fun h7 => ?_)
    ·replace hm := ifT (of_decide_eq_true h7) hm
     refine g_skipG rfl rfl rfl rfl rfl rfl ?_
     refine g_skipG rfl rfl rfl rfl rfl rfl ?_
     refine g_skipG rfl rfl rfl rfl rfl rfl ?_
     refine g_skipG rfl rfl rfl rfl rfl rfl ?_
     refine g_skipU' rfl rfl rfl rfl rfl ?_
     refine g_skipU' rfl rfl rfl rfl rfl ?_
     refine g_skipU' rfl rfl rfl rfl rfl ?_
     refine g_skipG rfl rfl rfl rfl rfl rfl ?_
     refine g_val rfl rfl rfl (fun _ _ => v_pickT rfl rfl) ?_
     refine g_nil ?_
     obtain rfl := Option.some.inj hm
     exact g_leaf () (trivial) ((.cons rfl (.cons rfl (.cons rfl .nil)))) (fun w hh => hh)
    ·replace hm := ifF (of_decide_eq_false h7) hm
     refine v_unguard rfl rfl ?_
     refine g_val rfl rfl rfl (fun _ _ => v_move rfl) ?_
     refine v_unguard rfl rfl ?_
     refine g_val rfl rfl rfl (fun w _ => v_lenR hna3 (Try.runUnderlying35 w) rfl) ?_
     refine v_unguard rfl rfl ?_
     refine g_val rfl rfl rfl (fun _ _ => v_gtr rfl rfl) ?_
     refine v_unguard rfl rfl ?_
     refine g_val rfl rfl rfl (fun _ _ => v_move rfl) ?_
     refine g_case 31 rfl (fun h8 => ?_) (fun h8 => ?_)
     ·replace hm := ifT (of_decide_eq_true h8) hm
      refine v_unguard rfl rfl ?_
      refine g_val rfl rfl rfl (fun _ _ => v_move rfl) ?_
      refine v_unguard rfl rfl ?_
      refine g_val rfl rfl rfl (fun w _ => v_lenR hna3 (Try.runUnderlying35 w) rfl) ?_
      refine v_unguard rfl rfl ?_
      refine g_val rfl rfl rfl (fun _ _ => v_leq rfl rfl) ?_
      refine v_unguard rfl rfl ?_
      refine g_val rfl rfl rfl (fun _ _ => v_pickT rfl rfl) ?_
      refine g_val rfl rfl rfl (fun _ _ => v_pickF rfl rfl) ?_
      refine g_nil ?_
      obtain rfl := Option.some.inj hm
      exact g_leaf () (trivial) ((.cons rfl (.cons rfl (.cons rfl .nil)))) (fun w hh => hh)
     ·replace hm := ifF (of_decide_eq_false h8) hm
      refine g_skipG rfl rfl rfl rfl rfl rfl ?_
      refine g_skipG rfl rfl rfl rfl rfl rfl ?_
      refine g_skipG rfl rfl rfl rfl rfl rfl ?_
      refine v_unguard rfl rfl ?_
      refine g_val rfl rfl rfl (fun _ _ => v_pickF rfl rfl) ?_
      refine g_val rfl rfl rfl (fun _ _ => v_pickF rfl rfl) ?_
      refine g_nil ?_
      obtain rfl := Option.some.inj hm
      exact g_leaf () (trivial) ((.cons rfl (.cons rfl (.cons rfl .nil)))) (fun w hh => hh)
  ·intro l hj
   replace hm := h3
   refine g_n_then ?_
   refine g_cond rfl (fun h9 => ?_) (fun h9 => ?_)
   ·replace hm := ifT (h9) hm
    refine g_seq ?_
    refine g_region ?_
    obtain ⟨t37, h10, hm⟩ := bindO hm
    refine g_callH [] [] rfl rfl rfl rfl rfl rfl rfl (fun a w => Try.call30 a w) (fun w hh => cx_awake  w (HV.callee (S0 := []) (vs0 := []) hh roN)  h10) (fun l_2 h11 => ?_)
    refine g_val rfl rfl rfl (fun _ _ => v_assign rfl) ?_
    refine g_nil ?_
    refine g_n_then ?_
    refine g_ret ?_
    refine g_r_then ?_
    obtain rfl := Option.some.inj hm
    refine g_done rfl (fun w hh => (.tmp rfl .nil)) (fun w hh => ⟨(), rfl, trivial, hh.sel [] [] 4 (by decide) (by decide) rfl rfl rfl⟩)
   ·replace hm := ifF ((fun hh => Bool.noConfusion ((h9).symm.trans hh))) hm
    refine g_skip ?_
    refine g_n_then ?_
    refine g_seq ?_
    obtain ⟨o_1, h12, h13⟩ := bindO hm
    refine g_cut (ι := Nat × Nat × VL × VL × VL × VL × VL × VL × VL × VL) (fun l_3 => VOK 3 l_3.2.2.1.n l_3.2.2.1.cap (RL.enc o_1.mine7) l_3.2.2.1.sp l_3.2.2.1.q ∧ VOK 3 l_3.2.2.2.1.n l_3.2.2.2.1.cap (RL.enc o_1.y8) l_3.2.2.2.1.sp l_3.2.2.2.1.q ∧ VOK 2 l_3.2.2.2.2.1.n l_3.2.2.2.2.1.cap (RW.enc o_1.own5.table) l_3.2.2.2.2.1.sp l_3.2.2.2.2.1.q ∧ VOK 1 l_3.2.2.2.2.2.1.n l_3.2.2.2.2.2.1.cap (RI.enc o_1.own5.floors) l_3.2.2.2.2.2.1.sp l_3.2.2.2.2.2.1.q ∧ VOK 3 l_3.2.2.2.2.2.2.1.n l_3.2.2.2.2.2.2.1.cap (RS.enc o_1.own5.sills) l_3.2.2.2.2.2.2.1.sp l_3.2.2.2.2.2.2.1.q ∧ VOK 2 l_3.2.2.2.2.2.2.2.1.n l_3.2.2.2.2.2.2.2.1.cap (RW.enc o_1.x6.table) l_3.2.2.2.2.2.2.2.1.sp l_3.2.2.2.2.2.2.2.1.q ∧ VOK 1 l_3.2.2.2.2.2.2.2.2.1.n l_3.2.2.2.2.2.2.2.2.1.cap (RI.enc o_1.x6.floors) l_3.2.2.2.2.2.2.2.2.1.sp l_3.2.2.2.2.2.2.2.2.1.q ∧ VOK 3 l_3.2.2.2.2.2.2.2.2.2.n l_3.2.2.2.2.2.2.2.2.2.cap (RS.enc o_1.x6.sills) l_3.2.2.2.2.2.2.2.2.2.sp l_3.2.2.2.2.2.2.2.2.2.q) (fun l_3 => [(1, .slice qa3 na3 ca3), (2, ptr b 0), (5, ptr l_3.1 0), (6, ptr l_3.2.1 0), (7, slv l_3.2.2.1.q l_3.2.2.1.n l_3.2.2.1.cap), (8, slv l_3.2.2.2.1.q l_3.2.2.2.1.n l_3.2.2.2.1.cap)]) (fun l_3 => [(b, .cells #[.slice qa0 na0 ca0, .int .i64 s0.wind.lo, .int .i64 s0.wind.hi, .slice qa1 na1 ca1, .slice qa2 na2 ca2] 29 (0, 0)), (l_3.1, .cells #[slv l_3.2.2.2.2.1.q l_3.2.2.2.2.1.n l_3.2.2.2.2.1.cap, .int .i64 o_1.own5.wind.lo, .int .i64 o_1.own5.wind.hi, slv l_3.2.2.2.2.2.1.q l_3.2.2.2.2.2.1.n l_3.2.2.2.2.2.1.cap, slv l_3.2.2.2.2.2.2.1.q l_3.2.2.2.2.2.2.1.n l_3.2.2.2.2.2.2.1.cap] 29 (0, 0)), (l_3.2.1, .cells #[slv l_3.2.2.2.2.2.2.2.1.q l_3.2.2.2.2.2.2.2.1.n l_3.2.2.2.2.2.2.2.1.cap, .int .i64 o_1.x6.wind.lo, .int .i64 o_1.x6.wind.hi, slv l_3.2.2.2.2.2.2.2.2.1.q l_3.2.2.2.2.2.2.2.2.1.n l_3.2.2.2.2.2.2.2.2.1.cap, slv l_3.2.2.2.2.2.2.2.2.2.q l_3.2.2.2.2.2.2.2.2.2.n l_3.2.2.2.2.2.2.2.2.2.cap] 59 (0, 0))]) (fun l_3 => [⟨89, RL.enc o_1.mine7, l_3.2.2.1.sp, l_3.2.2.1.q⟩, ⟨101, RL.enc o_1.y8, l_3.2.2.2.1.sp, l_3.2.2.2.1.q⟩, ⟨68, RW.enc o_1.own5.table, l_3.2.2.2.2.1.sp, l_3.2.2.2.2.1.q⟩, ⟨3, RI.enc o_1.own5.floors, l_3.2.2.2.2.2.1.sp, l_3.2.2.2.2.2.1.q⟩, ⟨51, RS.enc o_1.own5.sills, l_3.2.2.2.2.2.2.1.sp, l_3.2.2.2.2.2.2.1.q⟩, ⟨158, RW.enc o_1.x6.table, l_3.2.2.2.2.2.2.2.1.sp, l_3.2.2.2.2.2.2.2.1.q⟩, ⟨3, RI.enc o_1.x6.floors, l_3.2.2.2.2.2.2.2.2.1.sp, l_3.2.2.2.2.2.2.2.2.1.q⟩, ⟨159, RS.enc o_1.x6.sills, l_3.2.2.2.2.2.2.2.2.2.sp, l_3.2.2.2.2.2.2.2.2.2.q⟩]) ?_ ?_
    ·replace hm := h12
     obtain ⟨t39, h22, hm⟩ := bindO hm
     obtain ⟨t41, h23, hm⟩ := bindO hm
     obtain ⟨t43, h24, hm⟩ := bindO hm
     obtain ⟨t45, h25, hm⟩ := bindO hm
     refine g_draw none (.hoist 0 (.hoist 2 (.free 4 (.free 6 (.br (.alt 1 m_laurellaw01_TideLooks_Q17 (.alt 8 m_laurellaw01_TideLooks_Q13 (.alt 9 m_laurellaw01_TideLooks_Q8 .nil)))))))) _ rfl (by decide +kernel) (fun w k hh => hh.draw k) (fun w hh => hh) ?_
     refine p_hoist rfl rfl rfl rfl (fun w hh => v_loadAgg (vs := [_, _, _, _, _]) (Try.isAgg29 w) (Try.sizeOf29 w) rfl (hh.cells 0 rfl rfl)) ?_
     refine p_hoist rfl rfl rfl rfl (fun w hh => v_loadAgg (vs := [_, _, _, _, _]) (Try.isAgg29 w) (Try.sizeOf29 w) rfl (hh.cells 0 rfl rfl)) ?_
     refine p_free rfl rfl rfl rfl (fun _ _ => v_move rfl) ?_
     refine p_free rfl rfl rfl rfl (fun _ _ => v_move rfl) ?_
     refine p_share (.free 12 (.free 13 .done)) (fun g => ∀ (b_1 : Nat) (b_2 : Nat) (L : VL) (L_1 : VL) (L_2 : VL) (L_3 : VL) (L_4 : VL) (L_5 : VL) (L_6 : VL) (L_7 : VL), vk 3 L (RL.enc t43) → vk 3 L_1 (RL.enc t45) → vk 2 L_2 (RW.enc t39.table) → vk 1 L_3 (RI.enc t39.floors) → vk 3 L_4 (RS.enc t39.sills) → vk 2 L_5 (RW.enc t41.table) → vk 1 L_6 (RI.enc t41.floors) → vk 3 L_7 (RS.enc t41.sills) → g [(1, .slice qa3 na3 ca3), (2, ptr b 0), (5, ptr b_1 0), (6, ptr b_2 0), (43, sL L), (45, sL L_1)] [(b, .cells #[.slice qa0 na0 ca0, .int .i64 s0.wind.lo, .int .i64 s0.wind.hi, .slice qa1 na1 ca1, .slice qa2 na2 ca2] 29 (0, 0)), (b_1, .cells #[sL L_2, .int .i64 t39.wind.lo, .int .i64 t39.wind.hi, sL L_3, sL L_4] 29 (0, 0)), (b_2, .cells #[sL L_5, .int .i64 t41.wind.lo, .int .i64 t41.wind.hi, sL L_6, sL L_7] 59 (0, 0))] [vL 89 L (RL.enc t43), vL 101 L_1 (RL.enc t45), vL 68 L_2 (RW.enc t39.table), vL 3 L_3 (RI.enc t39.floors), vL 51 L_4 (RS.enc t39.sills), vL 158 L_5 (RW.enc t41.table), vL 3 L_6 (RI.enc t41.floors), vL 159 L_7 (RS.enc t41.sills)]) ?_ (fun h34 => ?_)
     ·intro b_1 b_2 L L_1 L_2 L_3 L_4 L_5 L_6 L_7 h26 h27 h28 h29 h30 h31 h32 h33
      refine p_free rfl rfl rfl rfl (fun _ _ => v_assign rfl) ?_
      refine p_free rfl rfl rfl rfl (fun _ _ => v_assign rfl) ?_
      refine p_done ?_
      obtain rfl := Option.some.inj hm
      exact g_leaf (b_1, b_2, L, L_1, L_2, L_3, L_4, L_5, L_6, L_7) (⟨h26, h27, h28, h29, h30, h31, h32, h33⟩) ((.cons rfl (.cons rfl (.cons rfl (.cons rfl (.cons rfl (.cons rfl .nil))))))) (fun w hh => hh)
     refine p_share (.one 11 (.free 12 (.free 13 .done))) (fun g => ∀ (b_3 : Nat) (b_4 : Nat) (L_8 : VL) (L_9 : VL) (L_10 : VL) (L_11 : VL) (L_12 : VL) (L_13 : VL) (L_14 : VL) (L_15 : VL), vk 2 L_8 (RW.enc t41.table) → vk 1 L_9 (RI.enc t41.floors) → vk 3 L_10 (RS.enc t41.sills) → vk 3 L_11 (RL.enc t43) → vk 3 L_12 (RL.enc t45) → vk 2 L_13 (RW.enc t39.table) → vk 1 L_14 (RI.enc t39.floors) → vk 3 L_15 (RS.enc t39.sills) → g [(1, .slice qa3 na3 ca3), (2, ptr b 0), (5, ptr b_3 0), (6, ptr b_4 0), (41, .agg #[sL L_8, .int .i64 t41.wind.lo, .int .i64 t41.wind.hi, sL L_9, sL L_10]), (43, sL L_11), (45, sL L_12)] [(b, .cells #[.slice qa0 na0 ca0, .int .i64 s0.wind.lo, .int .i64 s0.wind.hi, .slice qa1 na1 ca1, .slice qa2 na2 ca2] 29 (0, 0)), (b_3, .cells #[sL L_13, .int .i64 t39.wind.lo, .int .i64 t39.wind.hi, sL L_14, sL L_15] 29 (0, 0)), (b_4, .cells #[slv none 0 0, .int .i64 0, .int .i64 0, slv none 0 0, slv none 0 0] 59 (0, 0))] [vL 158 L_8 (RW.enc t41.table), vL 3 L_9 (RI.enc t41.floors), vL 159 L_10 (RS.enc t41.sills), vL 89 L_11 (RL.enc t43), vL 101 L_12 (RL.enc t45), vL 68 L_13 (RW.enc t39.table), vL 3 L_14 (RI.enc t39.floors), vL 51 L_15 (RS.enc t39.sills)]) ?_ (fun h43 => ?_)
     ·intro b_3 b_4 L_8 L_9 L_10 L_11 L_12 L_13 L_14 L_15 h35 h36 h37 h38 h39 h40 h41 h42
      refine p_one rfl ?_
      refine g_stSA (us := #[_, _, _, _, _]) (cs' := [_, _, _, _, _]) (S' := [_, _, _]) 2 (fun w => Try.sizeOf59 w) rfl rfl rfl rfl rfl rfl rfl ?_
      refine p_next (fun w hh => hh.sel [0] [] 0 (by decide) (by decide) rfl rfl rfl) ?_
      exact p_shr (h34 b_3 b_4 L_11 L_12 L_13 L_14 L_15 L_8 L_9 L_10 h38 h39 h40 h41 h42 h35 h36 h37) ((.cons rfl (.cons rfl (.cons rfl (.cons rfl (.cons rfl (.cons rfl .nil))))))) (fun w hh => hh.sel [0, 1, 2] [3, 4, 5, 6, 7, 0, 1, 2] 0 (by decide) (by decide) rfl rfl rfl)
     refine p_share m_laurellaw01_TideLooks_Q18 (fun g => ∀ (b_5 : Nat) (b_6 : Nat) (L_16 : VL) (L_17 : VL) (L_18 : VL) (L_19 : VL) (L_20 : VL) (L_21 : VL) (L_22 : VL) (L_23 : VL), vk 2 L_16 (RW.enc t39.table) → vk 1 L_17 (RI.enc t39.floors) → vk 3 L_18 (RS.enc t39.sills) → vk 2 L_19 (RW.enc t41.table) → vk 1 L_20 (RI.enc t41.floors) → vk 3 L_21 (RS.enc t41.sills) → vk 3 L_22 (RL.enc t43) → vk 3 L_23 (RL.enc t45) → g [(1, .slice qa3 na3 ca3), (2, ptr b 0), (5, ptr b_5 0), (6, ptr b_6 0), (39, .agg #[sL L_16, .int .i64 t39.wind.lo, .int .i64 t39.wind.hi, sL L_17, sL L_18]), (41, .agg #[sL L_19, .int .i64 t41.wind.lo, .int .i64 t41.wind.hi, sL L_20, sL L_21]), (43, sL L_22), (45, sL L_23)] [(b, .cells #[.slice qa0 na0 ca0, .int .i64 s0.wind.lo, .int .i64 s0.wind.hi, .slice qa1 na1 ca1, .slice qa2 na2 ca2] 29 (0, 0)), (b_5, .cells #[slv none 0 0, .int .i64 0, .int .i64 0, slv none 0 0, slv none 0 0] 29 (0, 0)), (b_6, .cells #[slv none 0 0, .int .i64 0, .int .i64 0, slv none 0 0, slv none 0 0] 59 (0, 0))] [vL 68 L_16 (RW.enc t39.table), vL 3 L_17 (RI.enc t39.floors), vL 51 L_18 (RS.enc t39.sills), vL 158 L_19 (RW.enc t41.table), vL 3 L_20 (RI.enc t41.floors), vL 159 L_21 (RS.enc t41.sills), vL 89 L_22 (RL.enc t43), vL 101 L_23 (RL.enc t45)]) ?_ (fun h52 => ?_)
     ·intro b_5 b_6 L_16 L_17 L_18 L_19 L_20 L_21 L_22 L_23 h44 h45 h46 h47 h48 h49 h50 h51
      refine p_one rfl ?_
      refine g_stSA (us := #[_, _, _, _, _]) (cs' := [_, _, _, _, _]) (S' := [_, _, _]) 1 (fun w => Try.sizeOf29 w) rfl rfl rfl rfl rfl rfl rfl ?_
      refine p_next (fun w hh => hh.sel [0] [] 0 (by decide) (by decide) rfl rfl rfl) ?_
      exact p_shr (h43 b_5 b_6 L_19 L_20 L_21 L_22 L_23 L_16 L_17 L_18 h47 h48 h49 h50 h51 h44 h45 h46) ((.cons rfl (.cons rfl (.cons rfl (.cons rfl (.cons rfl (.cons rfl (.cons rfl .nil)))))))) (fun w hh => hh.sel [0, 1, 2] [3, 4, 5, 6, 7, 0, 1, 2] 0 (by decide) (by decide) rfl rfl rfl)
     refine p_share m_laurellaw01_TideLooks_Q3 (fun g => ∀ (b_7 : Nat) (b_8 : Nat) (L_24 : VL) (L_25 : VL) (L_26 : VL) (L_27 : VL) (L_28 : VL) (L_29 : VL) (L_30 : VL), vk 2 L_24 (RW.enc t39.table) → vk 1 L_25 (RI.enc t39.floors) → vk 3 L_26 (RS.enc t39.sills) → vk 2 L_27 (RW.enc t41.table) → vk 1 L_28 (RI.enc t41.floors) → vk 3 L_29 (RS.enc t41.sills) → vk 3 L_30 (RL.enc t43) → g [(1, .slice qa3 na3 ca3), (2, ptr b 0), (5, ptr b_7 0), (6, ptr b_8 0), (39, .agg #[sL L_24, .int .i64 t39.wind.lo, .int .i64 t39.wind.hi, sL L_25, sL L_26]), (41, .agg #[sL L_27, .int .i64 t41.wind.lo, .int .i64 t41.wind.hi, sL L_28, sL L_29]), (43, sL L_30), (44, .slice qa3 na3 ca3)] [(b, .cells #[.slice qa0 na0 ca0, .int .i64 s0.wind.lo, .int .i64 s0.wind.hi, .slice qa1 na1 ca1, .slice qa2 na2 ca2] 29 (0, 0)), (b_7, .cells #[slv none 0 0, .int .i64 0, .int .i64 0, slv none 0 0, slv none 0 0] 29 (0, 0)), (b_8, .cells #[slv none 0 0, .int .i64 0, .int .i64 0, slv none 0 0, slv none 0 0] 59 (0, 0))] [vL 68 L_24 (RW.enc t39.table), vL 3 L_25 (RI.enc t39.floors), vL 51 L_26 (RS.enc t39.sills), vL 158 L_27 (RW.enc t41.table), vL 3 L_28 (RI.enc t41.floors), vL 159 L_29 (RS.enc t41.sills), vL 89 L_30 (RL.enc t43)]) ?_ (fun h60 => ?_)
     ·intro b_7 b_8 L_24 L_25 L_26 L_27 L_28 L_29 L_30 h53 h54 h55 h56 h57 h58 h59
      refine p_one rfl ?_
      refine g_callH [] [] rfl rfl rfl rfl rfl rfl rfl (fun a w => Try.call54 a w) (fun w hh => c_laurellaw01_seen looks1 qa3 na3 ca3 w (HV.callee (S0 := []) (vs0 := []) hh (roC (hh.rsep (S0 := []) (vs0 := []) 3 rfl) roN)) hna3 hqa3 hla3 h25) (fun l_4 h61 => ?_)
      have h62 := h61
      refine g_sel (S' := [_, _, _]) (vs' := [_, _, _, _, _, _, _, _]) [0, 1, 2] [0, 1, 2, 3, 4, 5, 6, 7] 0 (by decide) (by decide) rfl rfl rfl ?_
      refine p_next (fun w hh => hh.sel [0] [] 0 (by decide) (by decide) rfl rfl rfl) ?_
      exact p_shr (h52 b_7 b_8 L_24 L_25 L_26 L_27 L_28 L_29 L_30 l_4 h53 h54 h55 h56 h57 h58 h59 h62) ((.cons rfl (.cons rfl (.cons rfl (.cons rfl (.cons rfl (.cons rfl (.cons rfl (.cons rfl .nil))))))))) (fun w hh => hh.sel [0, 1, 2] [1, 2, 3, 4, 5, 6, 7, 0] 0 (by decide) (by decide) rfl rfl rfl)
     refine p_share m_laurellaw01_TideLooks_Q4 (fun g => ∀ (b_9 : Nat) (L_31 : VL) (L_32 : VL) (L_33 : VL) (L_34 : VL) (L_35 : VL) (L_36 : VL) (L_37 : VL) (L_38 : VL), vk 2 L_31 (RW.enc t39.table) → vk 1 L_32 (RI.enc t39.floors) → vk 3 L_33 (RS.enc t39.sills) → vk 2 L_34 (RW.enc t41.table) → vk 1 L_35 (RI.enc t41.floors) → vk 3 L_36 (RS.enc t41.sills) → vk 3 L_37 (RL.enc t43) → vk 3 L_38 (RL.enc t45) → g [(1, .slice qa3 na3 ca3), (2, ptr b 0), (6, ptr b_9 0), (39, .agg #[sL L_31, .int .i64 t39.wind.lo, .int .i64 t39.wind.hi, sL L_32, sL L_33]), (41, .agg #[sL L_34, .int .i64 t41.wind.lo, .int .i64 t41.wind.hi, sL L_35, sL L_36]), (43, sL L_37), (45, sL L_38)] [(b, .cells #[.slice qa0 na0 ca0, .int .i64 s0.wind.lo, .int .i64 s0.wind.hi, .slice qa1 na1 ca1, .slice qa2 na2 ca2] 29 (0, 0)), (b_9, .cells #[slv none 0 0, .int .i64 0, .int .i64 0, slv none 0 0, slv none 0 0] 59 (0, 0))] [vL 68 L_31 (RW.enc t39.table), vL 3 L_32 (RI.enc t39.floors), vL 51 L_33 (RS.enc t39.sills), vL 158 L_34 (RW.enc t41.table), vL 3 L_35 (RI.enc t41.floors), vL 159 L_36 (RS.enc t41.sills), vL 89 L_37 (RL.enc t43), vL 101 L_38 (RL.enc t45)]) ?_ (fun h71 => ?_)
     ·intro b_9 L_31 L_32 L_33 L_34 L_35 L_36 L_37 L_38 h63 h64 h65 h66 h67 h68 h69 h70
      refine p_one rfl ?_
      refine g_allocV (fun w => Try.zeroValue29 w) rfl (fun b_10 h72 => ?_)
      refine p_next (fun w hh => hh.sel [1] [] 0 (by decide) (by decide) rfl rfl rfl) ?_
      exact p_shr (h52 b_10 b_9 L_31 L_32 L_33 L_34 L_35 L_36 L_37 L_38 h63 h64 h65 h66 h67 h68 h69 h70) ((.cons rfl (.cons rfl (.cons rfl (.cons rfl (.cons rfl (.cons rfl (.cons rfl (.cons rfl .nil))))))))) (fun w hh => hh.sel [1, 0, 2] [0, 1, 2, 3, 4, 5, 6, 7] 0 (by decide) (by decide) rfl rfl rfl)
     refine p_share m_laurellaw01_TideLooks_Q9 (fun g => ∀ (b_11 : Nat) (L_39 : VL) (L_40 : VL) (L_41 : VL) (L_42 : VL) (L_43 : VL) (L_44 : VL) (L_45 : VL) (L_46 : VL), vk 2 L_39 (RW.enc t39.table) → vk 1 L_40 (RI.enc t39.floors) → vk 3 L_41 (RS.enc t39.sills) → vk 2 L_42 (RW.enc t41.table) → vk 1 L_43 (RI.enc t41.floors) → vk 3 L_44 (RS.enc t41.sills) → vk 3 L_45 (RL.enc t43) → vk 3 L_46 (RL.enc t45) → g [(1, .slice qa3 na3 ca3), (2, ptr b 0), (5, ptr b_11 0), (39, .agg #[sL L_39, .int .i64 t39.wind.lo, .int .i64 t39.wind.hi, sL L_40, sL L_41]), (41, .agg #[sL L_42, .int .i64 t41.wind.lo, .int .i64 t41.wind.hi, sL L_43, sL L_44]), (43, sL L_45), (45, sL L_46)] [(b, .cells #[.slice qa0 na0 ca0, .int .i64 s0.wind.lo, .int .i64 s0.wind.hi, .slice qa1 na1 ca1, .slice qa2 na2 ca2] 29 (0, 0)), (b_11, .cells #[slv none 0 0, .int .i64 0, .int .i64 0, slv none 0 0, slv none 0 0] 29 (0, 0))] [vL 68 L_39 (RW.enc t39.table), vL 3 L_40 (RI.enc t39.floors), vL 51 L_41 (RS.enc t39.sills), vL 158 L_42 (RW.enc t41.table), vL 3 L_43 (RI.enc t41.floors), vL 159 L_44 (RS.enc t41.sills), vL 89 L_45 (RL.enc t43), vL 101 L_46 (RL.enc t45)]) ?_ (fun h81 => ?_)
     ·intro b_11 L_39 L_40 L_41 L_42 L_43 L_44 L_45 L_46 h73 h74 h75 h76 h77 h78 h79 h80
      refine p_one rfl ?_
      refine g_allocV (fun w => Try.zeroValue59 w) rfl (fun b_12 h82 => ?_)
      refine p_next (fun w hh => hh.sel [1] [] 0 (by decide) (by decide) rfl rfl rfl) ?_
      exact p_shr (h52 b_11 b_12 L_39 L_40 L_41 L_42 L_43 L_44 L_45 L_46 h73 h74 h75 h76 h77 h78 h79 h80) ((.cons rfl (.cons rfl (.cons rfl (.cons rfl (.cons rfl (.cons rfl (.cons rfl (.cons rfl .nil))))))))) (fun w hh => hh.sel [1, 2, 0] [0, 1, 2, 3, 4, 5, 6, 7] 0 (by decide) (by decide) rfl rfl rfl)
     refine p_share m_laurellaw01_TideLooks_Q2 (fun g => ∀ (b_13 : Nat) (b_14 : Nat) (L_47 : VL) (L_48 : VL) (L_49 : VL) (L_50 : VL) (L_51 : VL) (L_52 : VL), vk 2 L_47 (RW.enc t39.table) → vk 1 L_48 (RI.enc t39.floors) → vk 3 L_49 (RS.enc t39.sills) → vk 2 L_50 (RW.enc t41.table) → vk 1 L_51 (RI.enc t41.floors) → vk 3 L_52 (RS.enc t41.sills) → g [(1, .slice qa3 na3 ca3), (2, ptr b 0), (5, ptr b_13 0), (6, ptr b_14 0), (39, .agg #[sL L_47, .int .i64 t39.wind.lo, .int .i64 t39.wind.hi, sL L_48, sL L_49]), (41, .agg #[sL L_50, .int .i64 t41.wind.lo, .int .i64 t41.wind.hi, sL L_51, sL L_52]), (42, .slice qa3 na3 ca3), (44, .slice qa3 na3 ca3)] [(b, .cells #[.slice qa0 na0 ca0, .int .i64 s0.wind.lo, .int .i64 s0.wind.hi, .slice qa1 na1 ca1, .slice qa2 na2 ca2] 29 (0, 0)), (b_13, .cells #[slv none 0 0, .int .i64 0, .int .i64 0, slv none 0 0, slv none 0 0] 29 (0, 0)), (b_14, .cells #[slv none 0 0, .int .i64 0, .int .i64 0, slv none 0 0, slv none 0 0] 59 (0, 0))] [vL 68 L_47 (RW.enc t39.table), vL 3 L_48 (RI.enc t39.floors), vL 51 L_49 (RS.enc t39.sills), vL 158 L_50 (RW.enc t41.table), vL 3 L_51 (RI.enc t41.floors), vL 159 L_52 (RS.enc t41.sills)]) ?_ (fun h89 => ?_)
     ·intro b_13 b_14 L_47 L_48 L_49 L_50 L_51 L_52 h83 h84 h85 h86 h87 h88
      refine p_one rfl ?_
      refine g_callH [] [] rfl rfl rfl rfl rfl rfl rfl (fun a w => Try.call53 a w) (fun w hh => c_laurelkit_Dup_tideLook looks1 qa3 na3 ca3 w (HV.callee (S0 := []) (vs0 := []) hh (roC (hh.rsep (S0 := []) (vs0 := []) 3 rfl) roN)) hna3 hqa3 hla3 h24) (fun l_5 h90 => ?_)
      have h91 := h90
      refine g_sel (S' := [_, _, _]) (vs' := [_, _, _, _, _, _, _]) [0, 1, 2] [0, 1, 2, 3, 4, 5, 6] 0 (by decide) (by decide) rfl rfl rfl ?_
      refine p_next (fun w hh => hh.sel [0] [] 0 (by decide) (by decide) rfl rfl rfl) ?_
      exact p_shr (h60 b_13 b_14 L_47 L_48 L_49 L_50 L_51 L_52 l_5 h83 h84 h85 h86 h87 h88 h91) ((.cons rfl (.cons rfl (.cons rfl (.cons rfl (.cons rfl (.cons rfl (.cons rfl (.cons rfl .nil))))))))) (fun w hh => hh.sel [0, 1, 2] [1, 2, 3, 4, 5, 6, 0] 0 (by decide) (by decide) rfl rfl rfl)
     refine p_share m_laurellaw01_TideLooks_Q5 (fun g => ∀ (b_15 : Nat) (L_53 : VL) (L_54 : VL) (L_55 : VL) (L_56 : VL) (L_57 : VL) (L_58 : VL) (L_59 : VL), vk 2 L_53 (RW.enc t39.table) → vk 1 L_54 (RI.enc t39.floors) → vk 3 L_55 (RS.enc t39.sills) → vk 2 L_56 (RW.enc t41.table) → vk 1 L_57 (RI.enc t41.floors) → vk 3 L_58 (RS.enc t41.sills) → vk 3 L_59 (RL.enc t43) → g [(1, .slice qa3 na3 ca3), (2, ptr b 0), (6, ptr b_15 0), (39, .agg #[sL L_53, .int .i64 t39.wind.lo, .int .i64 t39.wind.hi, sL L_54, sL L_55]), (41, .agg #[sL L_56, .int .i64 t41.wind.lo, .int .i64 t41.wind.hi, sL L_57, sL L_58]), (43, sL L_59), (44, .slice qa3 na3 ca3)] [(b, .cells #[.slice qa0 na0 ca0, .int .i64 s0.wind.lo, .int .i64 s0.wind.hi, .slice qa1 na1 ca1, .slice qa2 na2 ca2] 29 (0, 0)), (b_15, .cells #[slv none 0 0, .int .i64 0, .int .i64 0, slv none 0 0, slv none 0 0] 59 (0, 0))] [vL 68 L_53 (RW.enc t39.table), vL 3 L_54 (RI.enc t39.floors), vL 51 L_55 (RS.enc t39.sills), vL 158 L_56 (RW.enc t41.table), vL 3 L_57 (RI.enc t41.floors), vL 159 L_58 (RS.enc t41.sills), vL 89 L_59 (RL.enc t43)]) ?_ (fun h99 => ?_)
     ·intro b_15 L_53 L_54 L_55 L_56 L_57 L_58 L_59 h92 h93 h94 h95 h96 h97 h98
      refine p_br ?_
      refine p_alt rfl ?_ ?_
      ·refine g_callH [] [] rfl rfl rfl rfl rfl rfl rfl (fun a w => Try.call54 a w) (fun w hh => c_laurellaw01_seen looks1 qa3 na3 ca3 w (HV.callee (S0 := []) (vs0 := []) hh (roC (hh.rsep (S0 := []) (vs0 := []) 3 rfl) roN)) hna3 hqa3 hla3 h25) (fun l_6 h100 => ?_)
       have h101 := h100
       refine g_sel (S' := [_, _]) (vs' := [_, _, _, _, _, _, _, _]) [0, 1] [0, 1, 2, 3, 4, 5, 6, 7] 0 (by decide) (by decide) rfl rfl rfl ?_
       refine p_next (fun w hh => hh.sel [0] [] 0 (by decide) (by decide) rfl rfl rfl) ?_
       exact p_shr (h71 b_15 L_53 L_54 L_55 L_56 L_57 L_58 L_59 l_6 h92 h93 h94 h95 h96 h97 h98 h101) ((.cons rfl (.cons rfl (.cons rfl (.cons rfl (.cons rfl (.cons rfl (.cons rfl .nil)))))))) (fun w hh => hh.sel [0, 1] [1, 2, 3, 4, 5, 6, 7, 0] 0 (by decide) (by decide) rfl rfl rfl)
      refine p_alt rfl ?_ ?_
      ·refine g_allocV (fun w => Try.zeroValue29 w) rfl (fun b_16 h102 => ?_)
       refine p_next (fun w hh => hh.sel [1] [] 0 (by decide) (by decide) rfl rfl rfl) ?_
       exact p_shr (h60 b_16 b_15 L_53 L_54 L_55 L_56 L_57 L_58 L_59 h92 h93 h94 h95 h96 h97 h98) ((.cons rfl (.cons rfl (.cons rfl (.cons rfl (.cons rfl (.cons rfl (.cons rfl (.cons rfl .nil))))))))) (fun w hh => hh.sel [1, 0, 2] [0, 1, 2, 3, 4, 5, 6] 0 (by decide) (by decide) rfl rfl rfl)
      exact p_nil
     refine p_share m_laurellaw01_TideLooks_Q10 (fun g => ∀ (b_17 : Nat) (L_60 : VL) (L_61 : VL) (L_62 : VL) (L_63 : VL) (L_64 : VL) (L_65 : VL) (L_66 : VL), vk 2 L_60 (RW.enc t39.table) → vk 1 L_61 (RI.enc t39.floors) → vk 3 L_62 (RS.enc t39.sills) → vk 2 L_63 (RW.enc t41.table) → vk 1 L_64 (RI.enc t41.floors) → vk 3 L_65 (RS.enc t41.sills) → vk 3 L_66 (RL.enc t43) → g [(1, .slice qa3 na3 ca3), (2, ptr b 0), (5, ptr b_17 0), (39, .agg #[sL L_60, .int .i64 t39.wind.lo, .int .i64 t39.wind.hi, sL L_61, sL L_62]), (41, .agg #[sL L_63, .int .i64 t41.wind.lo, .int .i64 t41.wind.hi, sL L_64, sL L_65]), (43, sL L_66), (44, .slice qa3 na3 ca3)] [(b, .cells #[.slice qa0 na0 ca0, .int .i64 s0.wind.lo, .int .i64 s0.wind.hi, .slice qa1 na1 ca1, .slice qa2 na2 ca2] 29 (0, 0)), (b_17, .cells #[slv none 0 0, .int .i64 0, .int .i64 0, slv none 0 0, slv none 0 0] 29 (0, 0))] [vL 68 L_60 (RW.enc t39.table), vL 3 L_61 (RI.enc t39.floors), vL 51 L_62 (RS.enc t39.sills), vL 158 L_63 (RW.enc t41.table), vL 3 L_64 (RI.enc t41.floors), vL 159 L_65 (RS.enc t41.sills), vL 89 L_66 (RL.enc t43)]) ?_ (fun h110 => ?_)
     ·intro b_17 L_60 L_61 L_62 L_63 L_64 L_65 L_66 h103 h104 h105 h106 h107 h108 h109
      refine p_br ?_
      refine p_alt rfl ?_ ?_
      ·refine g_callH [] [] rfl rfl rfl rfl rfl rfl rfl (fun a w => Try.call54 a w) (fun w hh => c_laurellaw01_seen looks1 qa3 na3 ca3 w (HV.callee (S0 := []) (vs0 := []) hh (roC (hh.rsep (S0 := []) (vs0 := []) 3 rfl) roN)) hna3 hqa3 hla3 h25) (fun l_7 h111 => ?_)
       have h112 := h111
       refine g_sel (S' := [_, _]) (vs' := [_, _, _, _, _, _, _, _]) [0, 1] [0, 1, 2, 3, 4, 5, 6, 7] 0 (by decide) (by decide) rfl rfl rfl ?_
       refine p_next (fun w hh => hh.sel [0] [] 0 (by decide) (by decide) rfl rfl rfl) ?_
       exact p_shr (h81 b_17 L_60 L_61 L_62 L_63 L_64 L_65 L_66 l_7 h103 h104 h105 h106 h107 h108 h109 h112) ((.cons rfl (.cons rfl (.cons rfl (.cons rfl (.cons rfl (.cons rfl (.cons rfl .nil)))))))) (fun w hh => hh.sel [0, 1] [1, 2, 3, 4, 5, 6, 7, 0] 0 (by decide) (by decide) rfl rfl rfl)
      refine p_alt rfl ?_ ?_
      ·refine g_allocV (fun w => Try.zeroValue59 w) rfl (fun b_18 h113 => ?_)
       refine p_next (fun w hh => hh.sel [1] [] 0 (by decide) (by decide) rfl rfl rfl) ?_
       exact p_shr (h60 b_17 b_18 L_60 L_61 L_62 L_63 L_64 L_65 L_66 h103 h104 h105 h106 h107 h108 h109) ((.cons rfl (.cons rfl (.cons rfl (.cons rfl (.cons rfl (.cons rfl (.cons rfl (.cons rfl .nil))))))))) (fun w hh => hh.sel [1, 2, 0] [0, 1, 2, 3, 4, 5, 6] 0 (by decide) (by decide) rfl rfl rfl)
      exact p_nil
     refine p_share m_laurellaw01_TideLooks_Q1 (fun g => ∀ (b_19 : Nat) (b_20 : Nat) (L_67 : VL) (L_68 : VL) (L_69 : VL), vk 2 L_67 (RW.enc t39.table) → vk 1 L_68 (RI.enc t39.floors) → vk 3 L_69 (RS.enc t39.sills) → g [(1, .slice qa3 na3 ca3), (2, ptr b 0), (5, ptr b_19 0), (6, ptr b_20 0), (39, .agg #[sL L_67, .int .i64 t39.wind.lo, .int .i64 t39.wind.hi, sL L_68, sL L_69]), (40, .agg #[.slice qa0 na0 ca0, .int .i64 s0.wind.lo, .int .i64 s0.wind.hi, .slice qa1 na1 ca1, .slice qa2 na2 ca2]), (42, .slice qa3 na3 ca3), (44, .slice qa3 na3 ca3)] [(b, .cells #[.slice qa0 na0 ca0, .int .i64 s0.wind.lo, .int .i64 s0.wind.hi, .slice qa1 na1 ca1, .slice qa2 na2 ca2] 29 (0, 0)), (b_19, .cells #[slv none 0 0, .int .i64 0, .int .i64 0, slv none 0 0, slv none 0 0] 29 (0, 0)), (b_20, .cells #[slv none 0 0, .int .i64 0, .int .i64 0, slv none 0 0, slv none 0 0] 59 (0, 0))] [vL 68 L_67 (RW.enc t39.table), vL 3 L_68 (RI.enc t39.floors), vL 51 L_69 (RS.enc t39.sills)]) ?_ (fun h117 => ?_)
     ·intro b_19 b_20 L_67 L_68 L_69 h114 h115 h116
      refine p_one rfl ?_
      refine g_callH [] [] rfl rfl rfl rfl rfl rfl rfl (fun a w => Try.call32 a w) (fun w hh => c_laurellaw01_theirs s0 qa0 na0 ca0 qa1 na1 ca1 qa2 na2 ca2 w (HV.callee (S0 := []) (vs0 := []) hh (roC (hh.rsep (S0 := []) (vs0 := []) 0 rfl) (roC (hh.rsep (S0 := []) (vs0 := []) 1 rfl) (roC (hh.rsep (S0 := []) (vs0 := []) 2 rfl) roN)))) hna0 hqa0 hla0 hna1 hqa1 hla1 hna2 hqa2 hla2 h23) (fun l_8 h118 => ?_)
      obtain ⟨h119, h120, h121⟩ := h118
      refine g_sel (S' := [_, _, _]) (vs' := [_, _, _, _, _, _]) [0, 1, 2] [0, 1, 2, 3, 4, 5] 0 (by decide) (by decide) rfl rfl rfl ?_
      refine p_next (fun w hh => hh.sel [0] [] 0 (by decide) (by decide) rfl rfl rfl) ?_
      exact p_shr (h89 b_19 b_20 L_67 L_68 L_69 l_8.1 l_8.2.1 l_8.2.2 h114 h115 h116 h119 h120 h121) ((.cons rfl (.cons rfl (.cons rfl (.cons rfl (.cons rfl (.cons rfl (.cons rfl (.cons rfl .nil))))))))) (fun w hh => hh.sel [0, 1, 2] [3, 4, 5, 0, 1, 2] 0 (by decide) (by decide) rfl rfl rfl)
     refine p_share m_laurellaw01_TideLooks_Q6 (fun g => ∀ (b_21 : Nat) (L_70 : VL) (L_71 : VL) (L_72 : VL) (L_73 : VL) (L_74 : VL) (L_75 : VL), vk 2 L_70 (RW.enc t39.table) → vk 1 L_71 (RI.enc t39.floors) → vk 3 L_72 (RS.enc t39.sills) → vk 2 L_73 (RW.enc t41.table) → vk 1 L_74 (RI.enc t41.floors) → vk 3 L_75 (RS.enc t41.sills) → g [(1, .slice qa3 na3 ca3), (2, ptr b 0), (6, ptr b_21 0), (39, .agg #[sL L_70, .int .i64 t39.wind.lo, .int .i64 t39.wind.hi, sL L_71, sL L_72]), (41, .agg #[sL L_73, .int .i64 t41.wind.lo, .int .i64 t41.wind.hi, sL L_74, sL L_75]), (42, .slice qa3 na3 ca3), (44, .slice qa3 na3 ca3)] [(b, .cells #[.slice qa0 na0 ca0, .int .i64 s0.wind.lo, .int .i64 s0.wind.hi, .slice qa1 na1 ca1, .slice qa2 na2 ca2] 29 (0, 0)), (b_21, .cells #[slv none 0 0, .int .i64 0, .int .i64 0, slv none 0 0, slv none 0 0] 59 (0, 0))] [vL 68 L_70 (RW.enc t39.table), vL 3 L_71 (RI.enc t39.floors), vL 51 L_72 (RS.enc t39.sills), vL 158 L_73 (RW.enc t41.table), vL 3 L_74 (RI.enc t41.floors), vL 159 L_75 (RS.enc t41.sills)]) ?_ (fun h128 => ?_)
     ·intro b_21 L_70 L_71 L_72 L_73 L_74 L_75 h122 h123 h124 h125 h126 h127
      refine p_br ?_
      refine p_alt rfl ?_ ?_
      ·refine g_callH [] [] rfl rfl rfl rfl rfl rfl rfl (fun a w => Try.call53 a w) (fun w hh => c_laurelkit_Dup_tideLook looks1 qa3 na3 ca3 w (HV.callee (S0 := []) (vs0 := []) hh (roC (hh.rsep (S0 := []) (vs0 := []) 3 rfl) roN)) hna3 hqa3 hla3 h24) (fun l_9 h129 => ?_)
       have h130 := h129
       refine g_sel (S' := [_, _]) (vs' := [_, _, _, _, _, _, _]) [0, 1] [0, 1, 2, 3, 4, 5, 6] 0 (by decide) (by decide) rfl rfl rfl ?_
       refine p_next (fun w hh => hh.sel [0] [] 0 (by decide) (by decide) rfl rfl rfl) ?_
       exact p_shr (h99 b_21 L_70 L_71 L_72 L_73 L_74 L_75 l_9 h122 h123 h124 h125 h126 h127 h130) ((.cons rfl (.cons rfl (.cons rfl (.cons rfl (.cons rfl (.cons rfl (.cons rfl .nil)))))))) (fun w hh => hh.sel [0, 1] [1, 2, 3, 4, 5, 6, 0] 0 (by decide) (by decide) rfl rfl rfl)
      refine p_alt rfl ?_ ?_
      ·refine g_allocV (fun w => Try.zeroValue29 w) rfl (fun b_22 h131 => ?_)
       refine p_next (fun w hh => hh.sel [1] [] 0 (by decide) (by decide) rfl rfl rfl) ?_
       exact p_shr (h89 b_22 b_21 L_70 L_71 L_72 L_73 L_74 L_75 h122 h123 h124 h125 h126 h127) ((.cons rfl (.cons rfl (.cons rfl (.cons rfl (.cons rfl (.cons rfl (.cons rfl (.cons rfl .nil))))))))) (fun w hh => hh.sel [1, 0, 2] [0, 1, 2, 3, 4, 5] 0 (by decide) (by decide) rfl rfl rfl)
      exact p_nil
     refine p_share m_laurellaw01_TideLooks_Q11 (fun g => ∀ (b_23 : Nat) (L_76 : VL) (L_77 : VL) (L_78 : VL) (L_79 : VL) (L_80 : VL) (L_81 : VL), vk 2 L_76 (RW.enc t39.table) → vk 1 L_77 (RI.enc t39.floors) → vk 3 L_78 (RS.enc t39.sills) → vk 2 L_79 (RW.enc t41.table) → vk 1 L_80 (RI.enc t41.floors) → vk 3 L_81 (RS.enc t41.sills) → g [(1, .slice qa3 na3 ca3), (2, ptr b 0), (5, ptr b_23 0), (39, .agg #[sL L_76, .int .i64 t39.wind.lo, .int .i64 t39.wind.hi, sL L_77, sL L_78]), (41, .agg #[sL L_79, .int .i64 t41.wind.lo, .int .i64 t41.wind.hi, sL L_80, sL L_81]), (42, .slice qa3 na3 ca3), (44, .slice qa3 na3 ca3)] [(b, .cells #[.slice qa0 na0 ca0, .int .i64 s0.wind.lo, .int .i64 s0.wind.hi, .slice qa1 na1 ca1, .slice qa2 na2 ca2] 29 (0, 0)), (b_23, .cells #[slv none 0 0, .int .i64 0, .int .i64 0, slv none 0 0, slv none 0 0] 29 (0, 0))] [vL 68 L_76 (RW.enc t39.table), vL 3 L_77 (RI.enc t39.floors), vL 51 L_78 (RS.enc t39.sills), vL 158 L_79 (RW.enc t41.table), vL 3 L_80 (RI.enc t41.floors), vL 159 L_81 (RS.enc t41.sills)]) ?_ (fun h138 => ?_)
     ·intro b_23 L_76 L_77 L_78 L_79 L_80 L_81 h132 h133 h134 h135 h136 h137
      refine p_br ?_
      refine p_alt rfl ?_ ?_
      ·refine g_callH [] [] rfl rfl rfl rfl rfl rfl rfl (fun a w => Try.call53 a w) (fun w hh => c_laurelkit_Dup_tideLook looks1 qa3 na3 ca3 w (HV.callee (S0 := []) (vs0 := []) hh (roC (hh.rsep (S0 := []) (vs0 := []) 3 rfl) roN)) hna3 hqa3 hla3 h24) (fun l_10 h139 => ?_)
       have h140 := h139
       refine g_sel (S' := [_, _]) (vs' := [_, _, _, _, _, _, _]) [0, 1] [0, 1, 2, 3, 4, 5, 6] 0 (by decide) (by decide) rfl rfl rfl ?_
       refine p_next (fun w hh => hh.sel [0] [] 0 (by decide) (by decide) rfl rfl rfl) ?_
       exact p_shr (h110 b_23 L_76 L_77 L_78 L_79 L_80 L_81 l_10 h132 h133 h134 h135 h136 h137 h140) ((.cons rfl (.cons rfl (.cons rfl (.cons rfl (.cons rfl (.cons rfl (.cons rfl .nil)))))))) (fun w hh => hh.sel [0, 1] [1, 2, 3, 4, 5, 6, 0] 0 (by decide) (by decide) rfl rfl rfl)
      refine p_alt rfl ?_ ?_
      ·refine g_allocV (fun w => Try.zeroValue59 w) rfl (fun b_24 h141 => ?_)
       refine p_next (fun w hh => hh.sel [1] [] 0 (by decide) (by decide) rfl rfl rfl) ?_
       exact p_shr (h89 b_23 b_24 L_76 L_77 L_78 L_79 L_80 L_81 h132 h133 h134 h135 h136 h137) ((.cons rfl (.cons rfl (.cons rfl (.cons rfl (.cons rfl (.cons rfl (.cons rfl (.cons rfl .nil))))))))) (fun w hh => hh.sel [1, 2, 0] [0, 1, 2, 3, 4, 5] 0 (by decide) (by decide) rfl rfl rfl)
      exact p_nil
     refine p_share m_laurellaw01_TideLooks_Q0 (fun g => ∀ (b_25 : Nat) (b_26 : Nat), g [(1, .slice qa3 na3 ca3), (2, ptr b 0), (5, ptr b_25 0), (6, ptr b_26 0), (38, .agg #[.slice qa0 na0 ca0, .int .i64 s0.wind.lo, .int .i64 s0.wind.hi, .slice qa1 na1 ca1, .slice qa2 na2 ca2]), (40, .agg #[.slice qa0 na0 ca0, .int .i64 s0.wind.lo, .int .i64 s0.wind.hi, .slice qa1 na1 ca1, .slice qa2 na2 ca2]), (42, .slice qa3 na3 ca3), (44, .slice qa3 na3 ca3)] [(b, .cells #[.slice qa0 na0 ca0, .int .i64 s0.wind.lo, .int .i64 s0.wind.hi, .slice qa1 na1 ca1, .slice qa2 na2 ca2] 29 (0, 0)), (b_25, .cells #[slv none 0 0, .int .i64 0, .int .i64 0, slv none 0 0, slv none 0 0] 29 (0, 0)), (b_26, .cells #[slv none 0 0, .int .i64 0, .int .i64 0, slv none 0 0, slv none 0 0] 59 (0, 0))] []) ?_ (fun h142 => ?_)
     ·intro b_25 b_26
      refine p_one rfl ?_
      refine g_callH [] [] rfl rfl rfl rfl rfl rfl rfl (fun a w => Try.call25 a w) (fun w hh => c_laurellaw01_Own s0 qa0 na0 ca0 qa1 na1 ca1 qa2 na2 ca2 w (HV.callee (S0 := []) (vs0 := []) hh (roC (hh.rsep (S0 := []) (vs0 := []) 0 rfl) (roC (hh.rsep (S0 := []) (vs0 := []) 1 rfl) (roC (hh.rsep (S0 := []) (vs0 := []) 2 rfl) roN)))) hna0 hqa0 hla0 hna1 hqa1 hla1 hna2 hqa2 hla2 h22) (fun l_11 h143 => ?_)
      obtain ⟨h144, h145, h146⟩ := h143
      refine g_sel (S' := [_, _, _]) (vs' := [_, _, _]) [0, 1, 2] [0, 1, 2] 0 (by decide) (by decide) rfl rfl rfl ?_
      refine p_next (fun w hh => hh.sel [0] [] 0 (by decide) (by decide) rfl rfl rfl) ?_
      exact p_shr (h117 b_25 b_26 l_11.1 l_11.2.1 l_11.2.2 h144 h145 h146) ((.cons rfl (.cons rfl (.cons rfl (.cons rfl (.cons rfl (.cons rfl (.cons rfl (.cons rfl .nil))))))))) (fun w hh => hh)
     refine p_share m_laurellaw01_TideLooks_Q7 (fun g => ∀ (b_27 : Nat) (L_82 : VL) (L_83 : VL) (L_84 : VL), vk 2 L_82 (RW.enc t39.table) → vk 1 L_83 (RI.enc t39.floors) → vk 3 L_84 (RS.enc t39.sills) → g [(1, .slice qa3 na3 ca3), (2, ptr b 0), (6, ptr b_27 0), (39, .agg #[sL L_82, .int .i64 t39.wind.lo, .int .i64 t39.wind.hi, sL L_83, sL L_84]), (40, .agg #[.slice qa0 na0 ca0, .int .i64 s0.wind.lo, .int .i64 s0.wind.hi, .slice qa1 na1 ca1, .slice qa2 na2 ca2]), (42, .slice qa3 na3 ca3), (44, .slice qa3 na3 ca3)] [(b, .cells #[.slice qa0 na0 ca0, .int .i64 s0.wind.lo, .int .i64 s0.wind.hi, .slice qa1 na1 ca1, .slice qa2 na2 ca2] 29 (0, 0)), (b_27, .cells #[slv none 0 0, .int .i64 0, .int .i64 0, slv none 0 0, slv none 0 0] 59 (0, 0))] [vL 68 L_82 (RW.enc t39.table), vL 3 L_83 (RI.enc t39.floors), vL 51 L_84 (RS.enc t39.sills)]) ?_ (fun h150 => ?_)
     ·intro b_27 L_82 L_83 L_84 h147 h148 h149
      refine p_br ?_
      refine p_alt rfl ?_ ?_
      ·refine g_callH [] [] rfl rfl rfl rfl rfl rfl rfl (fun a w => Try.call32 a w) (fun w hh => c_laurellaw01_theirs s0 qa0 na0 ca0 qa1 na1 ca1 qa2 na2 ca2 w (HV.callee (S0 := []) (vs0 := []) hh (roC (hh.rsep (S0 := []) (vs0 := []) 0 rfl) (roC (hh.rsep (S0 := []) (vs0 := []) 1 rfl) (roC (hh.rsep (S0 := []) (vs0 := []) 2 rfl) roN)))) hna0 hqa0 hla0 hna1 hqa1 hla1 hna2 hqa2 hla2 h23) (fun l_12 h151 => ?_)
       obtain ⟨h152, h153, h154⟩ := h151
       refine g_sel (S' := [_, _]) (vs' := [_, _, _, _, _, _]) [0, 1] [0, 1, 2, 3, 4, 5] 0 (by decide) (by decide) rfl rfl rfl ?_
       refine p_next (fun w hh => hh.sel [0] [] 0 (by decide) (by decide) rfl rfl rfl) ?_
       exact p_shr (h128 b_27 L_82 L_83 L_84 l_12.1 l_12.2.1 l_12.2.2 h147 h148 h149 h152 h153 h154) ((.cons rfl (.cons rfl (.cons rfl (.cons rfl (.cons rfl (.cons rfl (.cons rfl .nil)))))))) (fun w hh => hh.sel [0, 1] [3, 4, 5, 0, 1, 2] 0 (by decide) (by decide) rfl rfl rfl)
      refine p_alt rfl ?_ ?_
      ·refine g_allocV (fun w => Try.zeroValue29 w) rfl (fun b_28 h155 => ?_)
       refine p_next (fun w hh => hh.sel [1] [] 0 (by decide) (by decide) rfl rfl rfl) ?_
       exact p_shr (h117 b_28 b_27 L_82 L_83 L_84 h147 h148 h149) ((.cons rfl (.cons rfl (.cons rfl (.cons rfl (.cons rfl (.cons rfl (.cons rfl (.cons rfl .nil))))))))) (fun w hh => hh.sel [1, 0, 2] [0, 1, 2] 0 (by decide) (by decide) rfl rfl rfl)
      exact p_nil
     refine p_share m_laurellaw01_TideLooks_Q12 (fun g => ∀ (b_29 : Nat) (L_85 : VL) (L_86 : VL) (L_87 : VL), vk 2 L_85 (RW.enc t39.table) → vk 1 L_86 (RI.enc t39.floors) → vk 3 L_87 (RS.enc t39.sills) → g [(1, .slice qa3 na3 ca3), (2, ptr b 0), (5, ptr b_29 0), (39, .agg #[sL L_85, .int .i64 t39.wind.lo, .int .i64 t39.wind.hi, sL L_86, sL L_87]), (40, .agg #[.slice qa0 na0 ca0, .int .i64 s0.wind.lo, .int .i64 s0.wind.hi, .slice qa1 na1 ca1, .slice qa2 na2 ca2]), (42, .slice qa3 na3 ca3), (44, .slice qa3 na3 ca3)] [(b, .cells #[.slice qa0 na0 ca0, .int .i64 s0.wind.lo, .int .i64 s0.wind.hi, .slice qa1 na1 ca1, .slice qa2 na2 ca2] 29 (0, 0)), (b_29, .cells #[slv none 0 0, .int .i64 0, .int .i64 0, slv none 0 0, slv none 0 0] 29 (0, 0))] [vL 68 L_85 (RW.enc t39.table), vL 3 L_86 (RI.enc t39.floors), vL 51 L_87 (RS.enc t39.sills)]) ?_ (fun h159 => ?_)
     ·intro b_29 L_85 L_86 L_87 h156 h157 h158
      refine p_br ?_
      refine p_alt rfl ?_ ?_
      ·refine g_callH [] [] rfl rfl rfl rfl rfl rfl rfl (fun a w => Try.call32 a w) (fun w hh => c_laurellaw01_theirs s0 qa0 na0 ca0 qa1 na1 ca1 qa2 na2 ca2 w (HV.callee (S0 := []) (vs0 := []) hh (roC (hh.rsep (S0 := []) (vs0 := []) 0 rfl) (roC (hh.rsep (S0 := []) (vs0 := []) 1 rfl) (roC (hh.rsep (S0 := []) (vs0 := []) 2 rfl) roN)))) hna0 hqa0 hla0 hna1 hqa1 hla1 hna2 hqa2 hla2 h23) (fun l_13 h160 => ?_)
       obtain ⟨h161, h162, h163⟩ := h160
       refine g_sel (S' := [_, _]) (vs' := [_, _, _, _, _, _]) [0, 1] [0, 1, 2, 3, 4, 5] 0 (by decide) (by decide) rfl rfl rfl ?_
       refine p_next (fun w hh => hh.sel [0] [] 0 (by decide) (by decide) rfl rfl rfl) ?_
       exact p_shr (h138 b_29 L_85 L_86 L_87 l_13.1 l_13.2.1 l_13.2.2 h156 h157 h158 h161 h162 h163) ((.cons rfl (.cons rfl (.cons rfl (.cons rfl (.cons rfl (.cons rfl (.cons rfl .nil)))))))) (fun w hh => hh.sel [0, 1] [3, 4, 5, 0, 1, 2] 0 (by decide) (by decide) rfl rfl rfl)
      refine p_alt rfl ?_ ?_
      ·refine g_allocV (fun w => Try.zeroValue59 w) rfl (fun b_30 h164 => ?_)
       refine p_next (fun w hh => hh.sel [1] [] 0 (by decide) (by decide) rfl rfl rfl) ?_
       exact p_shr (h117 b_29 b_30 L_85 L_86 L_87 h156 h157 h158) ((.cons rfl (.cons rfl (.cons rfl (.cons rfl (.cons rfl (.cons rfl (.cons rfl (.cons rfl .nil))))))))) (fun w hh => hh.sel [1, 2, 0] [0, 1, 2] 0 (by decide) (by decide) rfl rfl rfl)
      exact p_nil
     refine p_br ?_
     refine p_alt rfl ?_ ?_
     ·refine g_callH [] [] rfl rfl rfl rfl rfl rfl rfl (fun a w => Try.call25 a w) (fun w hh => c_laurellaw01_Own s0 qa0 na0 ca0 qa1 na1 ca1 qa2 na2 ca2 w (HV.callee (S0 := []) (vs0 := []) hh (roC (hh.rsep (S0 := []) (vs0 := []) 0 rfl) (roC (hh.rsep (S0 := []) (vs0 := []) 1 rfl) (roC (hh.rsep (S0 := []) (vs0 := []) 2 rfl) roN)))) hna0 hqa0 hla0 hna1 hqa1 hla1 hna2 hqa2 hla2 h22) (fun l_14 h165 => ?_)
      obtain ⟨h166, h167, h168⟩ := h165
      refine g_sel (S' := [_]) (vs' := [_, _, _]) [0] [0, 1, 2] 0 (by decide) (by decide) rfl rfl rfl ?_
      refine p_next (fun w hh => hh.sel [0] [] 0 (by decide) (by decide) rfl rfl rfl) ?_
      refine p_br ?_
      refine p_alt rfl ?_ ?_
      ·refine g_callH [] [] rfl rfl rfl rfl rfl rfl rfl (fun a w => Try.call32 a w) (fun w hh => c_laurellaw01_theirs s0 qa0 na0 ca0 qa1 na1 ca1 qa2 na2 ca2 w (HV.callee (S0 := []) (vs0 := []) hh (roC (hh.rsep (S0 := []) (vs0 := []) 0 rfl) (roC (hh.rsep (S0 := []) (vs0 := []) 1 rfl) (roC (hh.rsep (S0 := []) (vs0 := []) 2 rfl) roN)))) hna0 hqa0 hla0 hna1 hqa1 hla1 hna2 hqa2 hla2 h23) (fun l_15 h169 => ?_)
       obtain ⟨h170, h171, h172⟩ := h169
       refine g_sel (S' := [_]) (vs' := [_, _, _, _, _, _]) [0] [0, 1, 2, 3, 4, 5] 0 (by decide) (by decide) rfl rfl rfl ?_
       refine p_next (fun w hh => hh.sel [0] [] 0 (by decide) (by decide) rfl rfl rfl) ?_
       refine p_br ?_
       refine p_alt rfl ?_ ?_
       ·refine g_callH [] [] rfl rfl rfl rfl rfl rfl rfl (fun a w => Try.call53 a w) (fun w hh => c_laurelkit_Dup_tideLook looks1 qa3 na3 ca3 w (HV.callee (S0 := []) (vs0 := []) hh (roC (hh.rsep (S0 := []) (vs0 := []) 3 rfl) roN)) hna3 hqa3 hla3 h24) (fun l_16 h173 => ?_)
        have h174 := h173
        refine g_sel (S' := [_]) (vs' := [_, _, _, _, _, _, _]) [0] [0, 1, 2, 3, 4, 5, 6] 0 (by decide) (by decide) rfl rfl rfl ?_
        refine p_next (fun w hh => hh.sel [0] [] 0 (by decide) (by decide) rfl rfl rfl) ?_
        refine p_br ?_
        refine p_alt rfl ?_ ?_
        ·refine g_callH [] [] rfl rfl rfl rfl rfl rfl rfl (fun a w => Try.call54 a w) (fun w hh => c_laurellaw01_seen looks1 qa3 na3 ca3 w (HV.callee (S0 := []) (vs0 := []) hh (roC (hh.rsep (S0 := []) (vs0 := []) 3 rfl) roN)) hna3 hqa3 hla3 h25) (fun l_17 h175 => ?_)
         have h176 := h175
         refine g_sel (S' := [_]) (vs' := [_, _, _, _, _, _, _, _]) [0] [0, 1, 2, 3, 4, 5, 6, 7] 0 (by decide) (by decide) rfl rfl rfl ?_
         refine p_next (fun w hh => hh.sel [0] [] 0 (by decide) (by decide) rfl rfl rfl) ?_
         refine p_br ?_
         refine p_alt rfl ?_ ?_
         ·refine g_allocV (fun w => Try.zeroValue29 w) rfl (fun b_31 h177 => ?_)
          refine p_next (fun w hh => hh.sel [1] [] 0 (by decide) (by decide) rfl rfl rfl) ?_
          exact p_shr (h81 b_31 l_14.1 l_14.2.1 l_14.2.2 l_15.1 l_15.2.1 l_15.2.2 l_16 l_17 h166 h167 h168 h170 h171 h172 h174 h176) ((.cons rfl (.cons rfl (.cons rfl (.cons rfl (.cons rfl (.cons rfl (.cons rfl .nil)))))))) (fun w hh => hh.sel [1, 0] [5, 6, 7, 2, 3, 4, 1, 0] 0 (by decide) (by decide) rfl rfl rfl)
         refine p_alt rfl ?_ ?_
         ·refine g_allocV (fun w => Try.zeroValue59 w) rfl (fun b_32 h178 => ?_)
          refine p_next (fun w hh => hh.sel [1] [] 0 (by decide) (by decide) rfl rfl rfl) ?_
          exact p_shr (h71 b_32 l_14.1 l_14.2.1 l_14.2.2 l_15.1 l_15.2.1 l_15.2.2 l_16 l_17 h166 h167 h168 h170 h171 h172 h174 h176) ((.cons rfl (.cons rfl (.cons rfl (.cons rfl (.cons rfl (.cons rfl (.cons rfl .nil)))))))) (fun w hh => hh.sel [1, 0] [5, 6, 7, 2, 3, 4, 1, 0] 0 (by decide) (by decide) rfl rfl rfl)
         exact p_nil
        refine p_alt rfl ?_ ?_
        ·refine g_allocV (fun w => Try.zeroValue29 w) rfl (fun b_33 h179 => ?_)
         refine p_next (fun w hh => hh.sel [1] [] 0 (by decide) (by decide) rfl rfl rfl) ?_
         exact p_shr (h110 b_33 l_14.1 l_14.2.1 l_14.2.2 l_15.1 l_15.2.1 l_15.2.2 l_16 h166 h167 h168 h170 h171 h172 h174) ((.cons rfl (.cons rfl (.cons rfl (.cons rfl (.cons rfl (.cons rfl (.cons rfl .nil)))))))) (fun w hh => hh.sel [1, 0] [4, 5, 6, 1, 2, 3, 0] 0 (by decide) (by decide) rfl rfl rfl)
        refine p_alt rfl ?_ ?_
        ·refine g_allocV (fun w => Try.zeroValue59 w) rfl (fun b_34 h180 => ?_)
         refine p_next (fun w hh => hh.sel [1] [] 0 (by decide) (by decide) rfl rfl rfl) ?_
         exact p_shr (h99 b_34 l_14.1 l_14.2.1 l_14.2.2 l_15.1 l_15.2.1 l_15.2.2 l_16 h166 h167 h168 h170 h171 h172 h174) ((.cons rfl (.cons rfl (.cons rfl (.cons rfl (.cons rfl (.cons rfl (.cons rfl .nil)))))))) (fun w hh => hh.sel [1, 0] [4, 5, 6, 1, 2, 3, 0] 0 (by decide) (by decide) rfl rfl rfl)
        exact p_nil
       refine p_alt rfl ?_ ?_
       ·refine g_allocV (fun w => Try.zeroValue29 w) rfl (fun b_35 h181 => ?_)
        refine p_next (fun w hh => hh.sel [1] [] 0 (by decide) (by decide) rfl rfl rfl) ?_
        exact p_shr (h138 b_35 l_14.1 l_14.2.1 l_14.2.2 l_15.1 l_15.2.1 l_15.2.2 h166 h167 h168 h170 h171 h172) ((.cons rfl (.cons rfl (.cons rfl (.cons rfl (.cons rfl (.cons rfl (.cons rfl .nil)))))))) (fun w hh => hh.sel [1, 0] [3, 4, 5, 0, 1, 2] 0 (by decide) (by decide) rfl rfl rfl)
       refine p_alt rfl ?_ ?_
       ·refine g_allocV (fun w => Try.zeroValue59 w) rfl (fun b_36 h182 => ?_)
        refine p_next (fun w hh => hh.sel [1] [] 0 (by decide) (by decide) rfl rfl rfl) ?_
        exact p_shr (h128 b_36 l_14.1 l_14.2.1 l_14.2.2 l_15.1 l_15.2.1 l_15.2.2 h166 h167 h168 h170 h171 h172) ((.cons rfl (.cons rfl (.cons rfl (.cons rfl (.cons rfl (.cons rfl (.cons rfl .nil)))))))) (fun w hh => hh.sel [1, 0] [3, 4, 5, 0, 1, 2] 0 (by decide) (by decide) rfl rfl rfl)
       exact p_nil
      refine p_alt rfl ?_ ?_
      ·refine g_allocV (fun w => Try.zeroValue29 w) rfl (fun b_37 h183 => ?_)
       refine p_next (fun w hh => hh.sel [1] [] 0 (by decide) (by decide) rfl rfl rfl) ?_
       exact p_shr (h159 b_37 l_14.1 l_14.2.1 l_14.2.2 h166 h167 h168) ((.cons rfl (.cons rfl (.cons rfl (.cons rfl (.cons rfl (.cons rfl (.cons rfl .nil)))))))) (fun w hh => hh.sel [1, 0] [0, 1, 2] 0 (by decide) (by decide) rfl rfl rfl)
      refine p_alt rfl ?_ ?_
      ·refine g_allocV (fun w => Try.zeroValue59 w) rfl (fun b_38 h184 => ?_)
       refine p_next (fun w hh => hh.sel [1] [] 0 (by decide) (by decide) rfl rfl rfl) ?_
       exact p_shr (h150 b_38 l_14.1 l_14.2.1 l_14.2.2 h166 h167 h168) ((.cons rfl (.cons rfl (.cons rfl (.cons rfl (.cons rfl (.cons rfl (.cons rfl .nil)))))))) (fun w hh => hh.sel [1, 0] [0, 1, 2] 0 (by decide) (by decide) rfl rfl rfl)
      exact p_nil
     refine p_alt rfl ?_ ?_
     ·refine g_allocV (fun w => Try.zeroValue29 w) rfl (fun b_39 h185 => ?_)
      refine p_next (fun w hh => hh.sel [1] [] 0 (by decide) (by decide) rfl rfl rfl) ?_
      refine p_br ?_
      refine p_alt rfl ?_ ?_
      ·refine g_callH [] [] rfl rfl rfl rfl rfl rfl rfl (fun a w => Try.call25 a w) (fun w hh => c_laurellaw01_Own s0 qa0 na0 ca0 qa1 na1 ca1 qa2 na2 ca2 w (HV.callee (S0 := []) (vs0 := []) hh (roC (hh.rsep (S0 := []) (vs0 := []) 0 rfl) (roC (hh.rsep (S0 := []) (vs0 := []) 1 rfl) (roC (hh.rsep (S0 := []) (vs0 := []) 2 rfl) roN)))) hna0 hqa0 hla0 hna1 hqa1 hla1 hna2 hqa2 hla2 h22) (fun l_18 h186 => ?_)
       obtain ⟨h187, h188, h189⟩ := h186
       refine g_sel (S' := [_, _]) (vs' := [_, _, _]) [0, 1] [0, 1, 2] 0 (by decide) (by decide) rfl rfl rfl ?_
       refine p_next (fun w hh => hh.sel [1] [] 0 (by decide) (by decide) rfl rfl rfl) ?_
       exact p_shr (h159 b_39 l_18.1 l_18.2.1 l_18.2.2 h187 h188 h189) ((.cons rfl (.cons rfl (.cons rfl (.cons rfl (.cons rfl (.cons rfl (.cons rfl .nil)))))))) (fun w hh => hh.sel [1, 0] [0, 1, 2] 0 (by decide) (by decide) rfl rfl rfl)
      refine p_alt rfl ?_ ?_
      ·refine g_allocV (fun w => Try.zeroValue59 w) rfl (fun b_40 h190 => ?_)
       refine p_next (fun w hh => hh.sel [2] [] 0 (by decide) (by decide) rfl rfl rfl) ?_
       exact p_shr (h142 b_39 b_40) ((.cons rfl (.cons rfl (.cons rfl (.cons rfl (.cons rfl (.cons rfl (.cons rfl (.cons rfl .nil))))))))) (fun w hh => hh.sel [2, 1, 0] [] 0 (by decide) (by decide) rfl rfl rfl)
      exact p_nil
     refine p_alt rfl ?_ ?_
     ·refine g_allocV (fun w => Try.zeroValue59 w) rfl (fun b_41 h191 => ?_)
      refine p_next (fun w hh => hh.sel [1] [] 0 (by decide) (by decide) rfl rfl rfl) ?_
      refine p_br ?_
      refine p_alt rfl ?_ ?_
      ·refine g_callH [] [] rfl rfl rfl rfl rfl rfl rfl (fun a w => Try.call25 a w) (fun w hh => c_laurellaw01_Own s0 qa0 na0 ca0 qa1 na1 ca1 qa2 na2 ca2 w (HV.callee (S0 := []) (vs0 := []) hh (roC (hh.rsep (S0 := []) (vs0 := []) 0 rfl) (roC (hh.rsep (S0 := []) (vs0 := []) 1 rfl) (roC (hh.rsep (S0 := []) (vs0 := []) 2 rfl) roN)))) hna0 hqa0 hla0 hna1 hqa1 hla1 hna2 hqa2 hla2 h22) (fun l_19 h192 => ?_)
       obtain ⟨h193, h194, h195⟩ := h192
       refine g_sel (S' := [_, _]) (vs' := [_, _, _]) [0, 1] [0, 1, 2] 0 (by decide) (by decide) rfl rfl rfl ?_
       refine p_next (fun w hh => hh.sel [1] [] 0 (by decide) (by decide) rfl rfl rfl) ?_
       exact p_shr (h150 b_41 l_19.1 l_19.2.1 l_19.2.2 h193 h194 h195) ((.cons rfl (.cons rfl (.cons rfl (.cons rfl (.cons rfl (.cons rfl (.cons rfl .nil)))))))) (fun w hh => hh.sel [1, 0] [0, 1, 2] 0 (by decide) (by decide) rfl rfl rfl)
      refine p_alt rfl ?_ ?_
      ·refine g_allocV (fun w => Try.zeroValue29 w) rfl (fun b_42 h196 => ?_)
       refine p_next (fun w hh => hh.sel [2] [] 0 (by decide) (by decide) rfl rfl rfl) ?_
       exact p_shr (h142 b_42 b_41) ((.cons rfl (.cons rfl (.cons rfl (.cons rfl (.cons rfl (.cons rfl (.cons rfl (.cons rfl .nil))))))))) (fun w hh => hh.sel [2, 0, 1] [] 0 (by decide) (by decide) rfl rfl rfl)
      exact p_nil
     exact p_nil
    ·intro l_3 hj
     obtain ⟨h14, h15, h16, h17, h18, h19, h20, h21⟩ := hj
     replace hm := h13
     refine g_n_then ?_
     refine g_seq ?_
     refine g_region ?_
     refine g_val rfl rfl rfl (fun w hh => v_loadAgg (vs := [_, _, _, _, _]) (Try.isAgg59 w) (Try.sizeOf59 w) rfl (hh.cells 2 rfl rfl)) ?_
     refine g_val rfl rfl rfl (fun _ _ => v_move rfl) ?_
     obtain ⟨t48, h197, hm⟩ := bindO hm
     refine g_callH [] [] rfl rfl rfl rfl rfl rfl rfl (fun a w => Try.call55 a w) (fun w hh => c_laurelref01_LooksError o_1.x6 o_1.y8 (qA l_3.2.2.2.2.2.2.2.1.q) l_3.2.2.2.2.2.2.2.1.n l_3.2.2.2.2.2.2.2.1.cap (qA l_3.2.2.2.2.2.2.2.2.1.q) l_3.2.2.2.2.2.2.2.2.1.n l_3.2.2.2.2.2.2.2.2.1.cap (qA l_3.2.2.2.2.2.2.2.2.2.q) l_3.2.2.2.2.2.2.2.2.2.n l_3.2.2.2.2.2.2.2.2.2.cap (qA l_3.2.2.2.1.q) l_3.2.2.2.1.n l_3.2.2.2.1.cap w (HV.callee (S0 := []) (vs0 := []) hh (roC (hh.vsepA (S0 := []) (vs0 := []) 5 rfl h19) (roC (hh.vsepA (S0 := []) (vs0 := []) 6 rfl h20) (roC (hh.vsepA (S0 := []) (vs0 := []) 7 rfl h21) (roC (hh.vsepA (S0 := []) (vs0 := []) 1 rfl h15) roN))))) (vlen RW h19 rfl) (AOK.q (vne h19)) (h19).hle (vlen RI h20 rfl) (AOK.q (vne h20)) (h20).hle (vlen RS h21 rfl) (AOK.q (vne h21)) (h21).hle (vlen RL h15 rfl) (AOK.q (vne h15)) (h15).hle h197) (fun l_20 h198 => ?_)
     refine g_val rfl rfl rfl (fun _ _ => v_assign rfl) ?_
     refine g_nil ?_
     refine g_n_then ?_
     refine g_seq ?_
     refine g_region ?_
     refine g_val rfl rfl rfl (fun _ _ => v_move rfl) ?_
     refine g_val rfl rfl rfl (fun _ _ => v_assign rfl) ?_
     refine g_nil ?_
     refine g_n_then ?_
     refine g_seq ?_
     refine g_region ?_
     refine g_val rfl rfl rfl (fun _ _ => v_build (vs := []) (cells := [_, _]) rfl rfl) ?_
     refine g_allocV (fun w => Try.zeroValue25 w) rfl (fun b_43 h199 => ?_)
     refine g_val rfl rfl rfl (fun _ _ => v_nilS rfl) ?_
     refine g_stSA (us := #[_, _]) (cs' := [_, _]) (S' := [_, _, _, _]) 0 (fun w => Try.sizeOf25 w) rfl rfl rfl rfl rfl rfl rfl ?_
     refine g_nil ?_
     refine g_n_then ?_
     refine g_seq ?_
     refine g_vnil 3 ?_
     obtain ⟨o_2, h200, h201⟩ := bindO hm
     refine g_cut (ι := VL) (fun l_21 => VOK 1 l_21.n l_21.cap (RI.enc o_2.want11) l_21.sp l_21.q) (fun l_21 => [(1, .slice qa3 na3 ca3), (2, ptr b 0), (5, ptr l_3.1 0), (7, slv l_3.2.2.1.q l_3.2.2.1.n l_3.2.2.1.cap), (9, .int .i64 o_2.w9), (10, .int .i64 o_2.u10), (11, slv l_21.q l_21.n l_21.cap), (12, ptr b_43 0)]) (fun l_21 => [(b_43, .cells #[.int .i64 o_2.span12_lo, .int .i64 o_2.span12_hi] 25 (0, 0)), (b, .cells #[.slice qa0 na0 ca0, .int .i64 s0.wind.lo, .int .i64 s0.wind.hi, .slice qa1 na1 ca1, .slice qa2 na2 ca2] 29 (0, 0)), (l_3.1, .cells #[slv l_3.2.2.2.2.1.q l_3.2.2.2.2.1.n l_3.2.2.2.2.1.cap, .int .i64 o_1.own5.wind.lo, .int .i64 o_1.own5.wind.hi, slv l_3.2.2.2.2.2.1.q l_3.2.2.2.2.2.1.n l_3.2.2.2.2.2.1.cap, slv l_3.2.2.2.2.2.2.1.q l_3.2.2.2.2.2.2.1.n l_3.2.2.2.2.2.2.1.cap] 29 (0, 0)), (l_3.2.1, .cells #[slv l_3.2.2.2.2.2.2.2.1.q l_3.2.2.2.2.2.2.2.1.n l_3.2.2.2.2.2.2.2.1.cap, .int .i64 o_1.x6.wind.lo, .int .i64 o_1.x6.wind.hi, slv l_3.2.2.2.2.2.2.2.2.1.q l_3.2.2.2.2.2.2.2.2.1.n l_3.2.2.2.2.2.2.2.2.1.cap, slv l_3.2.2.2.2.2.2.2.2.2.q l_3.2.2.2.2.2.2.2.2.2.n l_3.2.2.2.2.2.2.2.2.2.cap] 59 (0, 0))]) (fun l_21 => [⟨89, RL.enc o_1.mine7, l_3.2.2.1.sp, l_3.2.2.1.q⟩, ⟨3, RI.enc o_2.want11, l_21.sp, l_21.q⟩, ⟨68, RW.enc o_1.own5.table, l_3.2.2.2.2.1.sp, l_3.2.2.2.2.1.q⟩, ⟨3, RI.enc o_1.own5.floors, l_3.2.2.2.2.2.1.sp, l_3.2.2.2.2.2.1.q⟩, ⟨51, RS.enc o_1.own5.sills, l_3.2.2.2.2.2.2.1.sp, l_3.2.2.2.2.2.2.1.q⟩, ⟨158, RW.enc o_1.x6.table, l_3.2.2.2.2.2.2.2.1.sp, l_3.2.2.2.2.2.2.2.1.q⟩, ⟨3, RI.enc o_1.x6.floors, l_3.2.2.2.2.2.2.2.2.1.sp, l_3.2.2.2.2.2.2.2.2.1.q⟩, ⟨159, RS.enc o_1.x6.sills, l_3.2.2.2.2.2.2.2.2.2.sp, l_3.2.2.2.2.2.2.2.2.2.q⟩]) ?_ ?_
     ·replace hm := h200
      refine g_seq ?_
      refine g_region ?_
      refine g_val rfl rfl rfl (fun _ _ => v_move rfl) ?_
      refine g_val rfl rfl rfl (fun _ _ => v_eql rfl rfl) ?_
      refine g_nil ?_
      refine g_n_then ?_
      refine g_cond rfl (fun h203 => ?_) (fun h203 => ?_)
      ·replace hm := ifT (of_decide_eq_true h203) hm
       refine g_seq ?_
       refine g_region ?_
       refine g_val rfl rfl rfl (fun w hh => v_loadAgg (vs := [_, _, _, _, _]) (Try.isAgg59 w) (Try.sizeOf59 w) rfl (hh.cells 3 rfl rfl)) ?_
       obtain ⟨t54, h204, hm⟩ := bindO hm
       refine g_callH [] [] rfl rfl rfl rfl rfl rfl rfl (fun a w => Try.call43 a w) (fun w hh => c_laurelref01_Gates o_1.x6 (qA l_3.2.2.2.2.2.2.2.1.q) l_3.2.2.2.2.2.2.2.1.n l_3.2.2.2.2.2.2.2.1.cap (qA l_3.2.2.2.2.2.2.2.2.1.q) l_3.2.2.2.2.2.2.2.2.1.n l_3.2.2.2.2.2.2.2.2.1.cap (qA l_3.2.2.2.2.2.2.2.2.2.q) l_3.2.2.2.2.2.2.2.2.2.n l_3.2.2.2.2.2.2.2.2.2.cap w (HV.callee (S0 := []) (vs0 := []) hh (roC (hh.vsepA (S0 := []) (vs0 := []) 6 rfl h19) (roC (hh.vsepA (S0 := []) (vs0 := []) 7 rfl h20) (roC (hh.vsepA (S0 := []) (vs0 := []) 8 rfl h21) roN)))) (vlen RW h19 rfl) (AOK.q (vne h19)) (h19).hle (vlen RI h20 rfl) (AOK.q (vne h20)) (h20).hle (vlen RS h21 rfl) (AOK.q (vne h21)) (h21).hle h204) (fun l_22 h205 => ?_)
       have h206 := h205
       refine g_sel (S' := [_, _, _, _]) (vs' := [_, _, _, _, _, _, _, _, _, _]) [0, 1, 2, 3] [0, 1, 2, 3, 4, 5, 6, 7, 8, 9] 0 (by decide) (by decide) rfl rfl rfl ?_
       refine g_val rfl rfl rfl (fun _ _ => v_assign rfl) ?_
       refine g_nil ?_
       refine g_n_then ?_
       refine g_seq ?_
       refine g_draw none (.hoist 0 (.free 1 (.free 2 (.free 3 (.free 4 (.free 5 (.free 6 (.one 7 (.free 8 .done))))))))) _ rfl (by decide +kernel) (fun w k hh => hh.draw k) (fun w hh => hh) ?_
       refine p_hoist rfl rfl rfl rfl (fun w hh => v_loadAgg (vs := [_, _, _, _, _]) (Try.isAgg59 w) (Try.sizeOf59 w) rfl (hh.cells 3 rfl rfl)) ?_
       refine p_free rfl rfl rfl rfl (fun _ _ => v_move rfl) ?_
       refine p_free rfl rfl rfl rfl (fun _ _ => v_move rfl) ?_
       refine p_free rfl rfl rfl rfl (fun _ _ => v_move rfl) ?_
       refine p_free rfl rfl rfl rfl (fun w _ => v_lenR hna3 (Try.runUnderlying35 w) rfl) ?_
       obtain ⟨h207, hm⟩ := ifO hm
       refine p_free rfl rfl rfl rfl (fun _ _ => v_shl rfl rfl h207) ?_
       obtain ⟨t61, h208, hm⟩ := bindO hm
       refine p_free rfl rfl rfl rfl (fun _ _ => v_subc h208 rfl rfl) ?_
       refine p_one rfl ?_
       obtain ⟨t62, h209, hm⟩ := bindO hm
       refine g_callH [] [] rfl rfl rfl rfl rfl rfl rfl (fun a w => Try.call56 a w) (fun w hh => c_laurelref01_Left o_1.x6 t54 o_1.y8 t61 (qA l_3.2.2.2.2.2.2.2.1.q) l_3.2.2.2.2.2.2.2.1.n l_3.2.2.2.2.2.2.2.1.cap (qA l_3.2.2.2.2.2.2.2.2.1.q) l_3.2.2.2.2.2.2.2.2.1.n l_3.2.2.2.2.2.2.2.2.1.cap (qA l_3.2.2.2.2.2.2.2.2.2.q) l_3.2.2.2.2.2.2.2.2.2.n l_3.2.2.2.2.2.2.2.2.2.cap (qA l_22.q) l_22.n l_22.cap (qA l_3.2.2.2.1.q) l_3.2.2.2.1.n l_3.2.2.2.1.cap w (HV.callee (S0 := []) (vs0 := []) hh (roC (hh.vsepA (S0 := []) (vs0 := []) 7 rfl h19) (roC (hh.vsepA (S0 := []) (vs0 := []) 8 rfl h20) (roC (hh.vsepA (S0 := []) (vs0 := []) 9 rfl h21) (roC (hh.vsepA (S0 := []) (vs0 := []) 0 rfl h206) (roC (hh.vsepA (S0 := []) (vs0 := []) 3 rfl h15) roN)))))) (vlen RW h19 rfl) (AOK.q (vne h19)) (h19).hle (vlen RI h20 rfl) (AOK.q (vne h20)) (h20).hle (vlen RS h21 rfl) (AOK.q (vne h21)) (h21).hle (vlen RI h206 rfl) (AOK.q (vne h206)) (h206).hle (vlen RL h15 rfl) (AOK.q (vne h15)) (h15).hle h209) (fun l_23 h210 => ?_)
       have h211 := h210
       refine g_sel (S' := [_, _, _, _]) (vs' := [_, _, _, _, _, _, _, _, _, _, _]) [0, 1, 2, 3] [0, 1, 2, 3, 4, 5, 6, 7, 8, 9, 10] 0 (by decide) (by decide) rfl rfl rfl ?_
       refine p_next (fun w hh => hh.sel [0, 1, 2, 3] [1, 2, 3, 4, 5, 6, 7, 8, 9, 10] 0 (by decide) (by decide) rfl rfl rfl) ?_
       refine p_free rfl rfl rfl rfl (fun _ _ => v_assign rfl) ?_
       refine p_done ?_
       refine g_n_then ?_
       refine g_seq ?_
       refine g_region ?_
       refine g_val rfl rfl rfl (fun _ _ => v_assign rfl) ?_
       refine g_nil ?_
       refine g_n_then ?_
       refine g_seq ?_
       obtain ⟨o_3, h212, h213⟩ := bindO hm
       refine g_cut (ι := VL) (fun l_24 => VOK 1 l_24.n l_24.cap (RI.enc o_3.want11) l_24.sp l_24.q) (fun l_24 => [(1, .slice qa3 na3 ca3), (2, ptr b 0), (5, ptr l_3.1 0), (7, slv l_3.2.2.1.q l_3.2.2.1.n l_3.2.2.1.cap), (9, .int .i64 t48), (10, .int .i64 o_3.u10), (11, slv l_24.q l_24.n l_24.cap), (12, ptr b_43 0), (14, slv l_23.q l_23.n l_23.cap)]) (fun l_24 => [(b_43, .cells #[.int .i64 0, .int .i64 0] 25 (0, 0)), (b, .cells #[.slice qa0 na0 ca0, .int .i64 s0.wind.lo, .int .i64 s0.wind.hi, .slice qa1 na1 ca1, .slice qa2 na2 ca2] 29 (0, 0)), (l_3.1, .cells #[slv l_3.2.2.2.2.1.q l_3.2.2.2.2.1.n l_3.2.2.2.2.1.cap, .int .i64 o_1.own5.wind.lo, .int .i64 o_1.own5.wind.hi, slv l_3.2.2.2.2.2.1.q l_3.2.2.2.2.2.1.n l_3.2.2.2.2.2.1.cap, slv l_3.2.2.2.2.2.2.1.q l_3.2.2.2.2.2.2.1.n l_3.2.2.2.2.2.2.1.cap] 29 (0, 0)), (l_3.2.1, .cells #[slv l_3.2.2.2.2.2.2.2.1.q l_3.2.2.2.2.2.2.2.1.n l_3.2.2.2.2.2.2.2.1.cap, .int .i64 o_1.x6.wind.lo, .int .i64 o_1.x6.wind.hi, slv l_3.2.2.2.2.2.2.2.2.1.q l_3.2.2.2.2.2.2.2.2.1.n l_3.2.2.2.2.2.2.2.2.1.cap, slv l_3.2.2.2.2.2.2.2.2.2.q l_3.2.2.2.2.2.2.2.2.2.n l_3.2.2.2.2.2.2.2.2.2.cap] 59 (0, 0))]) (fun l_24 => [⟨89, RL.enc o_1.mine7, l_3.2.2.1.sp, l_3.2.2.1.q⟩, ⟨3, RI.enc o_3.want11, l_24.sp, l_24.q⟩, ⟨3, RI.enc t62, l_23.sp, l_23.q⟩, ⟨68, RW.enc o_1.own5.table, l_3.2.2.2.2.1.sp, l_3.2.2.2.2.1.q⟩, ⟨3, RI.enc o_1.own5.floors, l_3.2.2.2.2.2.1.sp, l_3.2.2.2.2.2.1.q⟩, ⟨51, RS.enc o_1.own5.sills, l_3.2.2.2.2.2.2.1.sp, l_3.2.2.2.2.2.2.1.q⟩, ⟨158, RW.enc o_1.x6.table, l_3.2.2.2.2.2.2.2.1.sp, l_3.2.2.2.2.2.2.2.1.q⟩, ⟨3, RI.enc o_1.x6.floors, l_3.2.2.2.2.2.2.2.2.1.sp, l_3.2.2.2.2.2.2.2.2.1.q⟩, ⟨159, RS.enc o_1.x6.sills, l_3.2.2.2.2.2.2.2.2.2.sp, l_3.2.2.2.2.2.2.2.2.2.q⟩]) ?_ ?_
       ·replace hm := h212
        refine g_seq ?_
        refine g_region ?_
        refine g_val rfl rfl rfl (fun w hh => v_loadAgg (vs := [_, _, _, _, _]) (Try.isAgg59 w) (Try.sizeOf59 w) rfl (hh.cells 3 rfl rfl)) ?_
        refine g_val rfl rfl rfl (fun _ _ => v_move rfl) ?_
        refine g_val rfl rfl rfl (fun _ _ => v_move rfl) ?_
        obtain ⟨t67, h215, hm⟩ := bindO hm
        refine g_callH [] [] rfl rfl rfl rfl rfl rfl rfl (fun a w => Try.call57 a w) (fun w hh => c_laurelref01_Clash o_1.x6 t54 o_1.y8 (qA l_3.2.2.2.2.2.2.2.1.q) l_3.2.2.2.2.2.2.2.1.n l_3.2.2.2.2.2.2.2.1.cap (qA l_3.2.2.2.2.2.2.2.2.1.q) l_3.2.2.2.2.2.2.2.2.1.n l_3.2.2.2.2.2.2.2.2.1.cap (qA l_3.2.2.2.2.2.2.2.2.2.q) l_3.2.2.2.2.2.2.2.2.2.n l_3.2.2.2.2.2.2.2.2.2.cap (qA l_22.q) l_22.n l_22.cap (qA l_3.2.2.2.1.q) l_3.2.2.2.1.n l_3.2.2.2.1.cap w (HV.callee (S0 := []) (vs0 := []) hh (roC (hh.vsepA (S0 := []) (vs0 := []) 8 rfl h19) (roC (hh.vsepA (S0 := []) (vs0 := []) 9 rfl h20) (roC (hh.vsepA (S0 := []) (vs0 := []) 10 rfl h21) (roC (hh.vsepA (S0 := []) (vs0 := []) 1 rfl h206) (roC (hh.vsepA (S0 := []) (vs0 := []) 4 rfl h15) roN)))))) (vlen RW h19 rfl) (AOK.q (vne h19)) (h19).hle (vlen RI h20 rfl) (AOK.q (vne h20)) (h20).hle (vlen RS h21 rfl) (AOK.q (vne h21)) (h21).hle (vlen RI h206 rfl) (AOK.q (vne h206)) (h206).hle (vlen RL h15 rfl) (AOK.q (vne h15)) (h15).hle h215) (fun l_25 h216 => ?_)
        obtain ⟨h217, h218⟩ := h216
        refine g_sel (S' := [_, _, _, _]) (vs' := [_, _, _, _, _, _, _, _, _, _, _, _]) [0, 1, 2, 3] [0, 1, 2, 3, 4, 5, 6, 7, 8, 9, 10, 11] 0 (by decide) (by decide) rfl rfl rfl ?_
        refine g_val rfl rfl rfl (fun _ _ => v_move rfl) ?_
        refine g_val rfl rfl rfl (fun _ _ => v_extract rfl rfl) ?_
        refine g_val rfl rfl rfl (fun _ _ => v_extract rfl rfl) ?_
        refine g_val rfl rfl rfl (fun _ _ => v_assign rfl) ?_
        refine g_val rfl rfl rfl (fun _ _ => v_assign rfl) ?_
        refine g_nil ?_
        refine g_n_then ?_
        refine g_seq ?_
        refine g_region ?_
        refine g_val rfl rfl rfl (fun _ _ => v_move rfl) ?_
        refine g_val rfl rfl rfl (fun _ _ => v_not rfl) ?_
        refine g_nil ?_
        refine g_n_then ?_
        refine g_cond rfl (fun h219 => ?_) (fun h219 => ?_)
        ·replace hm := ifT (h219) hm
         refine g_region ?_
         refine g_val rfl rfl rfl (fun _ _ => v_assign rfl) ?_
         refine g_nil ?_
         obtain rfl := Option.some.inj hm
         exact g_leaf l_25 (h217) ((.cons rfl (.cons rfl (.cons rfl (.cons rfl (.cons rfl (.cons rfl (.cons rfl (.cons rfl (.cons rfl .nil)))))))))) (fun w hh => hh.sel [0, 1, 2, 3] [4, 0, 1, 6, 7, 8, 9, 10, 11] 0 (by decide) (by decide) rfl rfl rfl)
        ·replace hm := ifF ((fun hh => Bool.noConfusion ((h219).symm.trans hh))) hm
         refine g_skip ?_
         obtain rfl := Option.some.inj hm
         exact g_leaf l_25 (h217) ((.cons rfl (.cons rfl (.cons rfl (.cons rfl (.cons rfl (.cons rfl (.cons rfl (.cons rfl (.cons rfl .nil)))))))))) (fun w hh => hh.sel [0, 1, 2, 3] [4, 0, 1, 6, 7, 8, 9, 10, 11] 0 (by decide) (by decide) rfl rfl rfl)
       ·intro l_24 hj
        have h214 := hj
        replace hm := h213
        refine g_n_then ?_
        refine g_seq ?_
        refine g_region ?_
        refine g_val rfl rfl rfl (fun _ _ => v_move rfl) ?_
        refine g_val rfl rfl rfl (fun w _ => v_lenN (vlen RI h211 rfl) (Try.runUnderlying26 w) rfl) ?_
        refine g_val rfl rfl rfl (fun _ _ => v_eql rfl rfl) ?_
        refine g_nil ?_
        refine g_n_then ?_
        refine g_cond rfl (fun h220 => ?_) (fun h220 => ?_)
        ·replace hm := ifT (of_decide_eq_true h220) hm
         refine g_region ?_
         refine g_val rfl rfl rfl (fun _ _ => v_assign rfl) ?_
         refine g_nil ?_
         obtain rfl := Option.some.inj hm
         exact g_leaf l_24 (h214) ((.cons rfl (.cons rfl (.cons rfl (.cons rfl (.cons rfl (.cons rfl (.cons rfl (.cons rfl .nil))))))))) (fun w hh => hh.sel [0, 1, 2, 3] [0, 1, 3, 4, 5, 6, 7, 8] 0 (by decide) (by decide) rfl rfl rfl)
        ·replace hm := ifF (of_decide_eq_false h220) hm
         refine g_draw none (.free 0 (.free 1 (.hoist 2 (.free 3 (.free 4 (.free 5 (.free 6 (.free 7 (.hoist 8 (.free 9 (.one 10 .done))))))))))) (HV _ _ [(b, .cells #[.slice qa0 na0 ca0, .int .i64 s0.wind.lo, .int .i64 s0.wind.hi, .slice qa1 na1 ca1, .slice qa2 na2 ca2] 29 (0, 0)), (l_3.1, .cells #[slv l_3.2.2.2.2.1.q l_3.2.2.2.2.1.n l_3.2.2.2.2.1.cap, .int .i64 o_1.own5.wind.lo, .int .i64 o_1.own5.wind.hi, slv l_3.2.2.2.2.2.1.q l_3.2.2.2.2.2.1.n l_3.2.2.2.2.2.1.cap, slv l_3.2.2.2.2.2.2.1.q l_3.2.2.2.2.2.2.1.n l_3.2.2.2.2.2.2.1.cap] 29 (0, 0)), (l_3.2.1, .cells #[slv l_3.2.2.2.2.2.2.2.1.q l_3.2.2.2.2.2.2.2.1.n l_3.2.2.2.2.2.2.2.1.cap, .int .i64 o_1.x6.wind.lo, .int .i64 o_1.x6.wind.hi, slv l_3.2.2.2.2.2.2.2.2.1.q l_3.2.2.2.2.2.2.2.2.1.n l_3.2.2.2.2.2.2.2.2.1.cap, slv l_3.2.2.2.2.2.2.2.2.2.q l_3.2.2.2.2.2.2.2.2.2.n l_3.2.2.2.2.2.2.2.2.2.cap] 59 (0, 0))] [⟨89, RL.enc o_1.mine7, l_3.2.2.1.sp, l_3.2.2.1.q⟩, ⟨3, RI.enc o_3.want11, l_24.sp, l_24.q⟩, ⟨3, RI.enc t62, l_23.sp, l_23.q⟩, ⟨68, RW.enc o_1.own5.table, l_3.2.2.2.2.1.sp, l_3.2.2.2.2.1.q⟩, ⟨3, RI.enc o_1.own5.floors, l_3.2.2.2.2.2.1.sp, l_3.2.2.2.2.2.1.q⟩, ⟨51, RS.enc o_1.own5.sills, l_3.2.2.2.2.2.2.1.sp, l_3.2.2.2.2.2.2.1.q⟩, ⟨158, RW.enc o_1.x6.table, l_3.2.2.2.2.2.2.2.1.sp, l_3.2.2.2.2.2.2.2.1.q⟩, ⟨3, RI.enc o_1.x6.floors, l_3.2.2.2.2.2.2.2.2.1.sp, l_3.2.2.2.2.2.2.2.2.1.q⟩, ⟨159, RS.enc o_1.x6.sills, l_3.2.2.2.2.2.2.2.2.2.sp, l_3.2.2.2.2.2.2.2.2.2.q⟩] _) rfl (by decide +kernel) (fun w k hh => hh.draw k) (fun w hh => hh.sel [1, 2, 3] [0, 1, 2, 3, 4, 5, 6, 7, 8] 0 (by decide) (by decide) rfl rfl rfl) ?_
         refine p_free rfl rfl rfl rfl (fun _ _ => v_move rfl) ?_
         obtain ⟨t76, h221, hm⟩ := bindO hm
         refine p_free rfl rfl rfl rfl (fun w _ => v_ixA h221 (Try.runUnderlying26 w) (Try.sizeOf3 w) rfl rfl (vlen RI h211 rfl) (vne h211)) ?_
         refine p_hoist rfl rfl rfl rfl (fun w hh => v_ldE RI 0 h221 (Try.isAgg3 w) rfl (hh.vseg 2 rfl h211) rfl (Nat.add_zero _).symm) ?_
         refine p_free rfl rfl rfl rfl (fun _ _ => v_move rfl) ?_
         refine p_free rfl rfl rfl rfl (fun _ _ => v_move rfl) ?_
         refine p_free rfl rfl rfl rfl (fun w _ => v_lenN (vlen RI h211 rfl) (Try.runUnderlying26 w) rfl) ?_
         obtain ⟨t81, h222, hm⟩ := bindO hm
         refine p_free rfl rfl rfl rfl (fun _ _ => v_subc h222 rfl rfl) ?_
         obtain ⟨t82, h223, hm⟩ := bindO hm
         refine p_free rfl rfl rfl rfl (fun w _ => v_ixA h223 (Try.runUnderlying26 w) (Try.sizeOf3 w) rfl rfl (vlen RI h211 rfl) (vne h211)) ?_
         refine p_hoist rfl rfl rfl rfl (fun w hh => v_ldE RI 0 h223 (Try.isAgg3 w) rfl (hh.vseg 2 rfl h211) rfl (Nat.add_zero _).symm) ?_
         refine p_free rfl rfl rfl rfl (fun _ _ => v_build (vs := [(0, _), (1, _)]) (cells := [_, _]) rfl rfl) ?_
         refine p_one rfl ?_
         refine g_stSA (us := #[_, _]) (cs' := [_, _]) (S' := [_, _, _, _]) 0 (fun w => Try.sizeOf25 w) rfl rfl rfl rfl rfl rfl rfl ?_
         refine p_next (fun w hh => hh.sel [1, 2, 3] [0, 1, 2, 3, 4, 5, 6, 7, 8] 0 (by decide) (by decide) rfl rfl rfl) ?_
         refine p_done ?_
         obtain rfl := Option.some.inj hm
         exact g_leaf l_24 (h214) ((.cons rfl (.cons rfl (.cons rfl (.cons rfl (.cons rfl (.cons rfl (.cons rfl (.cons rfl .nil))))))))) (fun w hh => hh.sel [0, 1, 2, 3] [0, 1, 3, 4, 5, 6, 7, 8] 0 (by decide) (by decide) rfl rfl rfl)
      ·replace hm := ifF (of_decide_eq_false h203) hm
       refine g_skip ?_
       obtain rfl := Option.some.inj hm
       exact g_leaf ⟨none, 0, 0, []⟩ (VOK.nil) ((.cons rfl (.cons rfl (.cons rfl (.cons rfl (.cons rfl (.cons rfl (.cons rfl (.cons rfl .nil))))))))) (fun w hh => hh.sel [0, 1, 2, 3] [1, 0, 3, 4, 5, 6, 7, 8] 0 (by decide) (by decide) rfl rfl rfl)
     ·intro l_21 hj
      have h202 := hj
      replace hm := h201
      refine g_n_then ?_
      refine g_seq ?_
      refine g_region ?_
      refine g_val rfl rfl rfl (fun w hh => v_loadAgg (vs := [_, _, _, _, _]) (Try.isAgg29 w) (Try.sizeOf29 w) rfl (hh.cells 2 rfl rfl)) ?_
      refine g_val rfl rfl rfl (fun _ _ => v_move rfl) ?_
      obtain ⟨t88, h224, hm⟩ := bindO hm
      refine g_callH [] [] rfl rfl rfl rfl rfl rfl rfl (fun a w => Try.call23 a w) (fun w hh => cx_Looks o_1.own5 o_1.mine7 l_3.2.2.2.2.1.q l_3.2.2.2.2.1.n l_3.2.2.2.2.1.cap l_3.2.2.2.2.2.1.q l_3.2.2.2.2.2.1.n l_3.2.2.2.2.2.1.cap l_3.2.2.2.2.2.2.1.q l_3.2.2.2.2.2.2.1.n l_3.2.2.2.2.2.2.1.cap l_3.2.2.1.q l_3.2.2.1.n l_3.2.2.1.cap w (HV.callee (S0 := []) (vs0 := []) hh (roC (hh.vsep (S0 := []) (vs0 := []) 2 rfl h16) (roC (hh.vsep (S0 := []) (vs0 := []) 3 rfl h17) (roC (hh.vsep (S0 := []) (vs0 := []) 4 rfl h18) (roC (hh.vsep (S0 := []) (vs0 := []) 0 rfl h14) roN))))) (vlen RW h16 rfl) (vne h16) (h16).hle (vlen RI h17 rfl) (vne h17) (h17).hle (vlen RS h18 rfl) (vne h18) (h18).hle (vlen RL h14 rfl) (vne h14) (h14).hle h224) (fun l_26 h225 => ?_)
      refine g_val rfl rfl rfl (fun _ _ => v_move rfl) ?_
      refine g_val rfl rfl rfl (fun _ _ => v_extract rfl rfl) ?_
      refine g_val rfl rfl rfl (fun _ _ => v_extract rfl rfl) ?_
      refine g_allocV (fun w => Try.zeroValue25 w) rfl (fun b_44 h226 => ?_)
      refine g_stSA (us := #[_, _]) (cs' := [_, _]) (S' := [_, _, _, _, _]) 0 (fun w => Try.sizeOf25 w) rfl rfl rfl rfl rfl rfl rfl ?_
      refine g_val rfl rfl rfl (fun _ _ => v_assign rfl) ?_
      refine g_nil ?_
      refine g_n_then ?_
      refine g_seq ?_
      refine g_region ?_
      refine g_val rfl rfl rfl (fun w hh => v_loadAgg (vs := [_, _, _, _, _]) (Try.isAgg29 w) (Try.sizeOf29 w) rfl (hh.cells 3 rfl rfl)) ?_
      refine g_val rfl rfl rfl (fun _ _ => v_move rfl) ?_
      obtain ⟨t94, h227, hm⟩ := bindO hm
      refine g_callH [] [] rfl rfl rfl rfl rfl rfl rfl (fun a w => Try.call58 a w) (fun w hh => c_tide_Clash_1 o_1.own5 o_1.mine7 l_3.2.2.2.2.1.q l_3.2.2.2.2.1.n l_3.2.2.2.2.1.cap l_3.2.2.2.2.2.1.q l_3.2.2.2.2.2.1.n l_3.2.2.2.2.2.1.cap l_3.2.2.2.2.2.2.1.q l_3.2.2.2.2.2.2.1.n l_3.2.2.2.2.2.2.1.cap l_3.2.2.1.q l_3.2.2.1.n l_3.2.2.1.cap w (HV.callee (S0 := []) (vs0 := []) hh (roC (hh.vsep (S0 := []) (vs0 := []) 2 rfl h16) (roC (hh.vsep (S0 := []) (vs0 := []) 3 rfl h17) (roC (hh.vsep (S0 := []) (vs0 := []) 4 rfl h18) (roC (hh.vsep (S0 := []) (vs0 := []) 0 rfl h14) roN))))) (vlen RW h16 rfl) (vne h16) (h16).hle (vlen RI h17 rfl) (vne h17) (h17).hle (vlen RS h18 rfl) (vne h18) (h18).hle (vlen RL h14 rfl) (vne h14) (h14).hle h227) (fun l_27 h228 => ?_)
      have h229 := h228
      refine g_sel (S' := [_, _, _, _, _]) (vs' := [_, _, _, _, _, _, _, _, _]) [0, 1, 2, 3, 4] [0, 1, 2, 3, 4, 5, 6, 7, 8] 0 (by decide) (by decide) rfl rfl rfl ?_
      refine g_val rfl rfl rfl (fun _ _ => v_move rfl) ?_
      refine g_val rfl rfl rfl (fun _ _ => v_extract rfl rfl) ?_
      refine g_val rfl rfl rfl (fun _ _ => v_extract rfl rfl) ?_
      refine g_val rfl rfl rfl (fun _ _ => v_assign rfl) ?_
      refine g_val rfl rfl rfl (fun _ _ => v_assign rfl) ?_
      refine g_nil ?_
      refine g_n_then ?_
      refine g_seq ?_
      obtain ⟨o_4, h230, h231⟩ := bindO hm
      refine g_cut (ι := Unit) (fun l_28 => True) (fun l_28 => [(4, .bool o_4)]) (fun l_28 => [(b_44, .cells #[.int .i64 t88.1.lo, .int .i64 t88.1.hi] 25 (0, 0)), (b_43, .cells #[.int .i64 o_2.span12_lo, .int .i64 o_2.span12_hi] 25 (0, 0)), (b, .cells #[.slice qa0 na0 ca0, .int .i64 s0.wind.lo, .int .i64 s0.wind.hi, .slice qa1 na1 ca1, .slice qa2 na2 ca2] 29 (0, 0)), (l_3.1, .cells #[slv l_3.2.2.2.2.1.q l_3.2.2.2.2.1.n l_3.2.2.2.2.1.cap, .int .i64 o_1.own5.wind.lo, .int .i64 o_1.own5.wind.hi, slv l_3.2.2.2.2.2.1.q l_3.2.2.2.2.2.1.n l_3.2.2.2.2.2.1.cap, slv l_3.2.2.2.2.2.2.1.q l_3.2.2.2.2.2.2.1.n l_3.2.2.2.2.2.2.1.cap] 29 (0, 0)), (l_3.2.1, .cells #[slv l_3.2.2.2.2.2.2.2.1.q l_3.2.2.2.2.2.2.2.1.n l_3.2.2.2.2.2.2.2.1.cap, .int .i64 o_1.x6.wind.lo, .int .i64 o_1.x6.wind.hi, slv l_3.2.2.2.2.2.2.2.2.1.q l_3.2.2.2.2.2.2.2.2.1.n l_3.2.2.2.2.2.2.2.2.1.cap, slv l_3.2.2.2.2.2.2.2.2.2.q l_3.2.2.2.2.2.2.2.2.2.n l_3.2.2.2.2.2.2.2.2.2.cap] 59 (0, 0))]) (fun l_28 => [⟨68, RW.enc o_1.own5.table, l_3.2.2.2.2.1.sp, l_3.2.2.2.2.1.q⟩, ⟨3, RI.enc o_1.own5.floors, l_3.2.2.2.2.2.1.sp, l_3.2.2.2.2.2.1.q⟩, ⟨51, RS.enc o_1.own5.sills, l_3.2.2.2.2.2.2.1.sp, l_3.2.2.2.2.2.2.1.q⟩, ⟨158, RW.enc o_1.x6.table, l_3.2.2.2.2.2.2.2.1.sp, l_3.2.2.2.2.2.2.2.1.q⟩, ⟨3, RI.enc o_1.x6.floors, l_3.2.2.2.2.2.2.2.2.1.sp, l_3.2.2.2.2.2.2.2.2.1.q⟩, ⟨159, RS.enc o_1.x6.sills, l_3.2.2.2.2.2.2.2.2.2.sp, l_3.2.2.2.2.2.2.2.2.2.q⟩]) ?_ ?_
      ·replace hm := h230
       refine g_region ?_
       refine g_val rfl rfl rfl (fun _ _ => v_move rfl) ?_
       refine g_val rfl rfl rfl (fun _ _ => v_move rfl) ?_
       refine g_val rfl rfl rfl (fun _ _ => v_eql rfl rfl) ?_
       refine g_val rfl rfl rfl (fun _ _ => v_move rfl) ?_
       refine g_case 100 rfl (fun h232 => ?_) (fun h232 => ?_)
       ·replace hm := ifT (of_decide_eq_true h232) hm
        refine v_unguard rfl rfl ?_
        refine g_val rfl rfl rfl (fun _ _ => v_move rfl) ?_
        refine v_unguard rfl rfl ?_
        refine g_val rfl rfl rfl (fun _ _ => v_move rfl) ?_
        refine v_unguard rfl rfl ?_
        refine g_val rfl rfl rfl (fun _ _ => v_eql rfl rfl) ?_
        refine g_val rfl rfl rfl (fun _ _ => v_pickT rfl rfl) ?_
        refine g_val rfl rfl rfl (fun _ _ => v_move rfl) ?_
        refine g_case 105 rfl (fun h233 => ?_) (fun h233 => ?_)
        ·replace hm := ifT (of_decide_eq_true h233) hm
         refine v_unguard rfl rfl ?_
         refine g_val rfl rfl rfl (fun w hh => v_loadAgg (vs := [_, _]) (Try.isAgg25 w) (Try.sizeOf25 w) rfl (hh.cells 0 rfl rfl)) ?_
         refine v_unguard rfl rfl ?_
         refine g_val rfl rfl rfl (fun w hh => v_loadAgg (vs := [_, _]) (Try.isAgg25 w) (Try.sizeOf25 w) rfl (hh.cells 1 rfl rfl)) ?_
         refine v_unguard rfl rfl ?_
         refine g_val rfl rfl rfl (fun w _ => v_eqlAgg (gxeq25 t88.1 (⟨o_2.span12_lo, o_2.span12_hi⟩ : Span) w) gxeqg25 rfl rfl) ?_
         refine g_val rfl rfl rfl (fun _ _ => v_pickT rfl rfl) ?_
         refine g_val rfl rfl rfl (fun _ _ => v_move rfl) ?_
         refine g_case 110 rfl (fun h234 => ?_) (fun h234 => ?_)
         ·replace hm := ifT (of_decide_eq_true h234) hm
          refine v_unguard rfl rfl ?_
          refine g_val rfl rfl rfl (fun _ _ => v_move rfl) ?_
          refine v_unguard rfl rfl ?_
          refine g_val rfl rfl rfl (fun _ _ => v_move rfl) ?_
          refine v_unguard rfl rfl ?_
          obtain ⟨t113, h235, hm⟩ := bindO hm
          refine g_callH [] [] rfl rfl rfl rfl rfl rfl rfl (fun a w => Try.call59 a w) (fun w hh => c_laurelkit_Eq_int t94.r0 o_2.want11 (qA l_27.q) l_27.n l_27.cap (qA l_21.q) l_21.n l_21.cap w (HV.callee (S0 := []) (vs0 := []) hh (roC (hh.vsepA (S0 := []) (vs0 := []) 0 rfl h229) (roC (hh.vsepA (S0 := []) (vs0 := []) 2 rfl h202) roN))) (vlen RI h229 rfl) (AOK.q (vne h229)) (h229).hle (vlen RI h202 rfl) (AOK.q (vne h202)) (h202).hle h235) (fun l_29 h236 => ?_)
          refine g_val rfl rfl rfl (fun _ _ => v_pickT rfl rfl) ?_
          refine g_val rfl rfl rfl (fun _ _ => v_move rfl) ?_
          refine g_case 115 rfl (fun h237 => ?_) (fun h237 => ?_)
          ·replace hm := ifT (h237) hm
           refine v_unguard rfl rfl ?_
           refine g_val rfl rfl rfl (fun w hh => v_loadAgg (vs := [_, _, _, _, _]) (Try.isAgg29 w) (Try.sizeOf29 w) rfl (hh.cells 3 rfl rfl)) ?_
           refine v_unguard rfl rfl ?_
           refine g_val rfl rfl rfl (fun w hh => v_loadAgg (vs := [_, _, _, _, _]) (Try.isAgg29 w) (Try.sizeOf29 w) rfl (hh.cells 2 rfl rfl)) ?_
           refine v_unguard rfl rfl ?_
           obtain ⟨t118, h238, hm⟩ := bindO hm
           refine g_callH [] [] rfl rfl rfl rfl rfl rfl rfl (fun a w => Try.call38 a w) (fun w hh => c_laurellaw01_same o_1.own5 s0 (qA l_3.2.2.2.2.1.q) l_3.2.2.2.2.1.n l_3.2.2.2.2.1.cap (qA l_3.2.2.2.2.2.1.q) l_3.2.2.2.2.2.1.n l_3.2.2.2.2.2.1.cap (qA l_3.2.2.2.2.2.2.1.q) l_3.2.2.2.2.2.2.1.n l_3.2.2.2.2.2.2.1.cap qa0 na0 ca0 qa1 na1 ca1 qa2 na2 ca2 w (HV.callee (S0 := []) (vs0 := []) hh (roC (hh.vsepA (S0 := []) (vs0 := []) 3 rfl h16) (roC (hh.vsepA (S0 := []) (vs0 := []) 4 rfl h17) (roC (hh.vsepA (S0 := []) (vs0 := []) 5 rfl h18) (roC (hh.rsep (S0 := []) (vs0 := []) 0 rfl) (roC (hh.rsep (S0 := []) (vs0 := []) 1 rfl) (roC (hh.rsep (S0 := []) (vs0 := []) 2 rfl) roN))))))) (vlen RW h16 rfl) (AOK.q (vne h16)) (h16).hle (vlen RI h17 rfl) (AOK.q (vne h17)) (h17).hle (vlen RS h18 rfl) (AOK.q (vne h18)) (h18).hle hna0 hqa0 hla0 hna1 hqa1 hla1 hna2 hqa2 hla2 h238) (fun l_30 h239 => ?_)
           refine g_val rfl rfl rfl (fun _ _ => v_pickT rfl rfl) ?_
           refine g_val rfl rfl rfl (fun _ _ => v_move rfl) ?_
           refine g_case 120 rfl (fun h240 => ?_) (fun h240 => ?_)
           ·replace hm := ifT (h240) hm
            refine v_unguard rfl rfl ?_
            refine g_val rfl rfl rfl (fun _ _ => v_move rfl) ?_
            refine v_unguard rfl rfl ?_
            refine g_val rfl rfl rfl (fun _ _ => v_move rfl) ?_
            refine v_unguard rfl rfl ?_
            obtain ⟨t123, h241, hm⟩ := bindO hm
            refine g_callH [] [] rfl rfl rfl rfl rfl rfl rfl (fun a w => Try.call60 a w) (fun w hh => c_laurelkit_Eq_tideLook o_1.mine7 looks1 (qA l_3.2.2.1.q) l_3.2.2.1.n l_3.2.2.1.cap qa3 na3 ca3 w (HV.callee (S0 := []) (vs0 := []) hh (roC (hh.vsepA (S0 := []) (vs0 := []) 1 rfl h14) (roC (hh.rsep (S0 := []) (vs0 := []) 3 rfl) roN))) (vlen RL h14 rfl) (AOK.q (vne h14)) (h14).hle hna3 hqa3 hla3 h241) (fun l_31 h242 => ?_)
            refine g_val rfl rfl rfl (fun _ _ => v_pickT rfl rfl) ?_
            refine g_val rfl rfl rfl (fun _ _ => v_move rfl) ?_
            refine g_case 125 rfl (fun h243 => ?_) (fun h243 => ?_)
            ·replace hm := ifT (h243) hm
             refine v_unguard rfl rfl ?_
             obtain ⟨t126, h244, hm⟩ := bindO hm
             refine g_callH [] [] rfl rfl rfl rfl rfl rfl rfl (fun a w => Try.call30 a w) (fun w hh => cx_awake  w (HV.callee (S0 := []) (vs0 := []) hh roN)  h244) (fun l_32 h245 => ?_)
             refine g_val rfl rfl rfl (fun _ _ => v_pickT rfl rfl) ?_
             refine g_val rfl rfl rfl (fun _ _ => v_assign rfl) ?_
             refine g_nil ?_
             obtain rfl := Option.some.inj hm
             exact g_leaf () (trivial) ((.cons rfl .nil)) (fun w hh => hh.sel [0, 1, 2, 3, 4] [3, 4, 5, 6, 7, 8] 0 (by decide) (by decide) rfl rfl rfl)
            ·replace hm := ifF ((fun hh => Bool.noConfusion ((h243).symm.trans hh))) hm
             refine g_skipG rfl rfl rfl rfl rfl rfl ?_
             refine g_val rfl rfl rfl (fun _ _ => v_pickF rfl rfl) ?_
             refine g_val rfl rfl rfl (fun _ _ => v_assign rfl) ?_
             refine g_nil ?_
             obtain rfl := Option.some.inj hm
             exact g_leaf () (trivial) ((.cons rfl .nil)) (fun w hh => hh.sel [0, 1, 2, 3, 4] [3, 4, 5, 6, 7, 8] 0 (by decide) (by decide) rfl rfl rfl)
           ·replace hm := ifF ((fun hh => Bool.noConfusion ((h240).symm.trans hh))) hm
            refine g_skipG rfl rfl rfl rfl rfl rfl ?_
            refine g_skipG rfl rfl rfl rfl rfl rfl ?_
            refine g_skipG rfl rfl rfl rfl rfl rfl ?_
            refine g_val rfl rfl rfl (fun _ _ => v_pickF rfl rfl) ?_
            refine g_val rfl rfl rfl (fun _ _ => v_move rfl) ?_
            refine g_skipG rfl rfl rfl rfl rfl rfl ?_
            refine g_val rfl rfl rfl (fun _ _ => v_pickF rfl rfl) ?_
            refine g_val rfl rfl rfl (fun _ _ => v_assign rfl) ?_
            refine g_nil ?_
            obtain rfl := Option.some.inj hm
            exact g_leaf () (trivial) ((.cons rfl .nil)) (fun w hh => hh.sel [0, 1, 2, 3, 4] [3, 4, 5, 6, 7, 8] 0 (by decide) (by decide) rfl rfl rfl)
          ·replace hm := ifF ((fun hh => Bool.noConfusion ((h237).symm.trans hh))) hm
           refine g_skipG rfl rfl rfl rfl rfl rfl ?_
           refine g_skipG rfl rfl rfl rfl rfl rfl ?_
           refine g_skipG rfl rfl rfl rfl rfl rfl ?_
           refine g_val rfl rfl rfl (fun _ _ => v_pickF rfl rfl) ?_
           refine g_val rfl rfl rfl (fun _ _ => v_move rfl) ?_
           refine g_skipG rfl rfl rfl rfl rfl rfl ?_
           refine g_skipG rfl rfl rfl rfl rfl rfl ?_
           refine g_skipG rfl rfl rfl rfl rfl rfl ?_
           refine g_val rfl rfl rfl (fun _ _ => v_pickF rfl rfl) ?_
           refine g_val rfl rfl rfl (fun _ _ => v_move rfl) ?_
           refine g_skipG rfl rfl rfl rfl rfl rfl ?_
           refine g_val rfl rfl rfl (fun _ _ => v_pickF rfl rfl) ?_
           refine g_val rfl rfl rfl (fun _ _ => v_assign rfl) ?_
           refine g_nil ?_
           obtain rfl := Option.some.inj hm
           exact g_leaf () (trivial) ((.cons rfl .nil)) (fun w hh => hh.sel [0, 1, 2, 3, 4] [3, 4, 5, 6, 7, 8] 0 (by decide) (by decide) rfl rfl rfl)
         ·replace hm := ifF (of_decide_eq_false h234) hm
          refine g_skipG rfl rfl rfl rfl rfl rfl ?_
          refine g_skipG rfl rfl rfl rfl rfl rfl ?_
          refine g_skipG rfl rfl rfl rfl rfl rfl ?_
          refine g_val rfl rfl rfl (fun _ _ => v_pickF rfl rfl) ?_
          refine g_val rfl rfl rfl (fun _ _ => v_move rfl) ?_
          refine g_skipG rfl rfl rfl rfl rfl rfl ?_
          refine g_skipG rfl rfl rfl rfl rfl rfl ?_
          refine g_skipG rfl rfl rfl rfl rfl rfl ?_
          refine g_val rfl rfl rfl (fun _ _ => v_pickF rfl rfl) ?_
          refine g_val rfl rfl rfl (fun _ _ => v_move rfl) ?_
          refine g_skipG rfl rfl rfl rfl rfl rfl ?_
          refine g_skipG rfl rfl rfl rfl rfl rfl ?_
          refine g_skipG rfl rfl rfl rfl rfl rfl ?_
          refine g_val rfl rfl rfl (fun _ _ => v_pickF rfl rfl) ?_
          refine g_val rfl rfl rfl (fun _ _ => v_move rfl) ?_
          refine g_skipG rfl rfl rfl rfl rfl rfl ?_
          refine g_val rfl rfl rfl (fun _ _ => v_pickF rfl rfl) ?_
          refine g_val rfl rfl rfl (fun _ _ => v_assign rfl) ?_
          refine g_nil ?_
          obtain rfl := Option.some.inj hm
          exact g_leaf () (trivial) ((.cons rfl .nil)) (fun w hh => hh.sel [0, 1, 2, 3, 4] [3, 4, 5, 6, 7, 8] 0 (by decide) (by decide) rfl rfl rfl)
        ·replace hm := ifF (of_decide_eq_false h233) hm
         refine g_skipG rfl rfl rfl rfl rfl rfl ?_
         refine g_skipG rfl rfl rfl rfl rfl rfl ?_
         refine g_skipG rfl rfl rfl rfl rfl rfl ?_
         refine g_val rfl rfl rfl (fun _ _ => v_pickF rfl rfl) ?_
         refine g_val rfl rfl rfl (fun _ _ => v_move rfl) ?_
         refine g_skipG rfl rfl rfl rfl rfl rfl ?_
         refine g_skipG rfl rfl rfl rfl rfl rfl ?_
         refine g_skipG rfl rfl rfl rfl rfl rfl ?_
         refine g_val rfl rfl rfl (fun _ _ => v_pickF rfl rfl) ?_
         refine g_val rfl rfl rfl (fun _ _ => v_move rfl) ?_
         refine g_skipG rfl rfl rfl rfl rfl rfl ?_
         refine g_skipG rfl rfl rfl rfl rfl rfl ?_
         refine g_skipG rfl rfl rfl rfl rfl rfl ?_
         refine g_val rfl rfl rfl (fun _ _ => v_pickF rfl rfl) ?_
         refine g_val rfl rfl rfl (fun _ _ => v_move rfl) ?_
         refine g_skipG rfl rfl rfl rfl rfl rfl ?_
         refine g_skipG rfl rfl rfl rfl rfl rfl ?_
         refine g_skipG rfl rfl rfl rfl rfl rfl ?_
         refine g_val rfl rfl rfl (fun _ _ => v_pickF rfl rfl) ?_
         refine g_val rfl rfl rfl (fun _ _ => v_move rfl) ?_
         refine g_skipG rfl rfl rfl rfl rfl rfl ?_
         refine g_val rfl rfl rfl (fun _ _ => v_pickF rfl rfl) ?_
         refine g_val rfl rfl rfl (fun _ _ => v_assign rfl) ?_
         refine g_nil ?_
         obtain rfl := Option.some.inj hm
         exact g_leaf () (trivial) ((.cons rfl .nil)) (fun w hh => hh.sel [0, 1, 2, 3, 4] [3, 4, 5, 6, 7, 8] 0 (by decide) (by decide) rfl rfl rfl)
       ·replace hm := ifF (of_decide_eq_false h232) hm
        refine g_skipG rfl rfl rfl rfl rfl rfl ?_
        refine g_skipG rfl rfl rfl rfl rfl rfl ?_
        refine g_skipG rfl rfl rfl rfl rfl rfl ?_
        refine g_val rfl rfl rfl (fun _ _ => v_pickF rfl rfl) ?_
        refine g_val rfl rfl rfl (fun _ _ => v_move rfl) ?_
        refine g_skipG rfl rfl rfl rfl rfl rfl ?_
        refine g_skipG rfl rfl rfl rfl rfl rfl ?_
        refine g_skipG rfl rfl rfl rfl rfl rfl ?_
        refine g_val rfl rfl rfl (fun _ _ => v_pickF rfl rfl) ?_
        refine g_val rfl rfl rfl (fun _ _ => v_move rfl) ?_
        refine g_skipG rfl rfl rfl rfl rfl rfl ?_
        refine g_skipG rfl rfl rfl rfl rfl rfl ?_
        refine g_skipG rfl rfl rfl rfl rfl rfl ?_
        refine g_val rfl rfl rfl (fun _ _ => v_pickF rfl rfl) ?_
        refine g_val rfl rfl rfl (fun _ _ => v_move rfl) ?_
        refine g_skipG rfl rfl rfl rfl rfl rfl ?_
        refine g_skipG rfl rfl rfl rfl rfl rfl ?_
        refine g_skipG rfl rfl rfl rfl rfl rfl ?_
        refine g_val rfl rfl rfl (fun _ _ => v_pickF rfl rfl) ?_
        refine g_val rfl rfl rfl (fun _ _ => v_move rfl) ?_
        refine g_skipG rfl rfl rfl rfl rfl rfl ?_
        refine g_skipG rfl rfl rfl rfl rfl rfl ?_
        refine g_skipG rfl rfl rfl rfl rfl rfl ?_
        refine g_val rfl rfl rfl (fun _ _ => v_pickF rfl rfl) ?_
        refine g_val rfl rfl rfl (fun _ _ => v_move rfl) ?_
        refine g_skipG rfl rfl rfl rfl rfl rfl ?_
        refine g_val rfl rfl rfl (fun _ _ => v_pickF rfl rfl) ?_
        refine g_val rfl rfl rfl (fun _ _ => v_assign rfl) ?_
        refine g_nil ?_
        obtain rfl := Option.some.inj hm
        exact g_leaf () (trivial) ((.cons rfl .nil)) (fun w hh => hh.sel [0, 1, 2, 3, 4] [3, 4, 5, 6, 7, 8] 0 (by decide) (by decide) rfl rfl rfl)
      ·intro l_28 hj
       replace hm := h231
       refine g_n_then ?_
       refine g_ret ?_
       obtain rfl := Option.some.inj hm
       refine g_done rfl (fun w hh => (.tmp rfl .nil)) (fun w hh => ⟨(), rfl, trivial, hh.sel [] [] 4 (by decide) (by decide) rfl rfl rfl⟩)
end Go.Proofs.Wk

namespace Go.Proofs.Wk
open Go Go.Gx Go.Pl
set_option linter.unusedVariables false
/-- looks that no truth agrees with -/
def noneT (s : Sands) (k : List Look) : Bool := decide ((leftG s (gatesOf s) k).hi < (leftG s (gatesOf s) k).lo)
theorem none_eq {s : Sands} (hG : Good s) {k : List Look} (hk : ∀ l, l ∈ k → lookOK s l) (hl : k.length ≤ 1000) : m_tide_Clash_1_1 k s = some (noneT s k) := by
  have h : k.all (fun l => dayF s l.min && isPlace s l.place) = true := List.all_eq_true.2 fun l hm => by
    have := hk l hm
    unfold lookOK at this
    rw [this.1, this.2]; rfl
  unfold m_tide_Clash_1_1
  rw [x_left_eq hG h hl, Option.bind_some]
  rfl
theorem none_iff {s : Sands} (hG : Good s) {k : List Look} (hk : ∀ l, l ∈ k → lookOK s l) : noneT s k = true ↔ ∀ w, s.wind.lo ≤ w → w ≤ s.wind.hi → ¬ ∀ l, l ∈ k → agT s w l = true := by
  unfold noneT
  rw [decide_eq_true_iff]
  exact left_empty hG hk
/-- one look that clashes alone is a set that clashes -/
theorem one_clash {s : Sands} (hG : Good s) {k : List Look} (hk : ∀ l, l ∈ k → lookOK s l) (hl : k.length ≤ 6) {i : Nat} (hi : i < k.length) : clashS s k (2 ^ i) ↔ noneT s [k.getD i default] = true := by
  have hm := mem_getD (d := (default : Look)) hi
  rw [clash_iff, none_iff hG (fun l h => by rw [List.mem_singleton.1 h]; exact hk _ hm)]
  constructor
  · intro h w h1 h2 h3
    have h4 := h w h1 h2
    have h5 : setT s k (2 ^ i) w = true := setT_iff.2 fun a ha hb => by
      have := (bit_one i (by omega) a (by omega)).1 hb
      subst this
      exact h3 _ List.mem_cons_self
    rw [h4] at h5
    exact absurd h5 (by decide)
  · intro h w h1 h2
    cases h3 : setT s k (2 ^ i) w with
    | false => rfl
    | true =>
      refine absurd (fun l hl => ?_) (h w h1 h2)
      rw [List.mem_singleton.1 hl]
      exact setT_iff.1 h3 i hi ((bit_one i (by omega) i (by omega)).2 rfl)
theorem two_clash {s : Sands} (hG : Good s) {k : List Look} (hk : ∀ l, l ∈ k → lookOK s l) (hl : k.length ≤ 6) {i j : Nat} (hij : i < j) (hj : j < k.length) : clashS s k (2 ^ i + 2 ^ j) ↔ noneT s [k.getD i default, k.getD j default] = true := by
  have hi : i < k.length := by omega
  have hmi := mem_getD (d := (default : Look)) hi
  have hmj := mem_getD (d := (default : Look)) hj
  have hb := bit_two i (by omega) j (by omega) hij
  have hmem : ∀ l, l ∈ [k.getD i default, k.getD j default] → l = k.getD i default ∨ l = k.getD j default := fun l h => by
    rcases List.mem_cons.1 h with h | h
    · exact .inl h
    · exact .inr (List.mem_singleton.1 h)
  rw [clash_iff, none_iff hG (fun l h => (hmem l h).elim (fun e => e ▸ hk _ hmi) (fun e => e ▸ hk _ hmj))]
  constructor
  · intro h w h1 h2 h3
    have h4 := h w h1 h2
    have h5 : setT s k (2 ^ i + 2 ^ j) w = true := setT_iff.2 fun a ha hbit => by
      rcases (hb a (by omega)).1 hbit with e | e
      · subst e; exact h3 _ List.mem_cons_self
      · subst e; exact h3 _ (List.mem_cons_of_mem _ List.mem_cons_self)
    rw [h4] at h5
    exact absurd h5 (by decide)
  · intro h w h1 h2
    cases h3 : setT s k (2 ^ i + 2 ^ j) w with
    | false => rfl
    | true =>
      refine absurd (fun l hl => ?_) (h w h1 h2)
      rcases hmem l hl with e | e
      · rw [e]; exact setT_iff.1 h3 i hi ((hb i (by omega)).2 (.inl rfl))
      · rw [e]; exact setT_iff.1 h3 j hj ((hb j (by omega)).2 (.inr rfl))
end Go.Proofs.Wk

namespace Go.Proofs.Wk
open Go Go.Gx Go.Pl
set_option linter.unusedVariables false
/-- where the ends of what looks leave come from -/
theorem fold_ends {s : Sands} {g : List Int} : ∀ (k : List Look) (o : Span),
    ((k.foldl (leftStep s g) o).lo = o.lo ∨ ∃ x, x ∈ k ∧ x.wet = true ∧ (k.foldl (leftStep s g) o).lo = mostG s g x + 1) ∧
    ((k.foldl (leftStep s g) o).hi = o.hi ∨ ∃ x, x ∈ k ∧ x.wet = false ∧ (k.foldl (leftStep s g) o).hi = mostG s g x)
  | [], o => ⟨.inl rfl, .inl rfl⟩
  | x :: k, o => by
    obtain ⟨h1, h2⟩ := fold_ends (s := s) (g := g) k (leftStep s g o x)
    rw [List.foldl_cons]
    cases hw : x.wet with
    | true =>
      have e : leftStep s g o x = ⟨max o.lo (mostG s g x + 1), o.hi⟩ := by unfold leftStep; rw [if_pos hw]
      rw [e] at h1 h2 ⊢
      refine ⟨?_, ?_⟩
      · rcases h1 with h1 | ⟨y, hy, h3, h4⟩
        · simp only at h1
          by_cases hc : o.lo ≤ mostG s g x + 1
          · exact .inr ⟨x, List.mem_cons_self, hw, by omega⟩
          · exact .inl (by omega)
        · exact .inr ⟨y, List.mem_cons_of_mem _ hy, h3, h4⟩
      · rcases h2 with h2 | ⟨y, hy, h3, h4⟩
        · exact .inl h2
        · exact .inr ⟨y, List.mem_cons_of_mem _ hy, h3, h4⟩
    | false =>
      have e : leftStep s g o x = ⟨o.lo, min o.hi (mostG s g x)⟩ := by unfold leftStep; rw [if_neg (by rw [hw]; decide)]
      rw [e] at h1 h2 ⊢
      refine ⟨?_, ?_⟩
      · rcases h1 with h1 | ⟨y, hy, h3, h4⟩
        · exact .inl h1
        · exact .inr ⟨y, List.mem_cons_of_mem _ hy, h3, h4⟩
      · rcases h2 with h2 | ⟨y, hy, h3, h4⟩
        · simp only at h2
          by_cases hc : mostG s g x ≤ o.hi
          · exact .inr ⟨x, List.mem_cons_self, hw, by omega⟩
          · exact .inl (by omega)
        · exact .inr ⟨y, List.mem_cons_of_mem _ hy, h3, h4⟩
theorem none_one {s : Sands} {x : Look} : noneT s [x] = decide ((leftStep s (gatesOf s) s.wind x).hi < (leftStep s (gatesOf s) s.wind x).lo) := rfl
theorem none_two {s : Sands} {x y : Look} : noneT s [x, y] = decide ((leftStep s (gatesOf s) (leftStep s (gatesOf s) s.wind x) y).hi < (leftStep s (gatesOf s) (leftStep s (gatesOf s) s.wind x) y).lo) := rfl
/-- intervals of a line -/
theorem helly {s : Sands} (hG : Good s) {k : List Look} (h1 : ∀ x, x ∈ k → noneT s [x] = false) (h2 : ∀ x y, x ∈ k → y ∈ k → noneT s [x, y] = false) : noneT s k = false := by
  have hwi := hG.wind
  obtain ⟨ha, hb⟩ := fold_ends (s := s) (g := gatesOf s) k s.wind
  have e : leftG s (gatesOf s) k = k.foldl (leftStep s (gatesOf s)) s.wind := rfl
  rw [← e] at ha hb
  unfold noneT
  rw [decide_eq_false_iff_not]
  rcases ha with ha | ⟨x, hx, hxw, ha⟩ <;> rcases hb with hb | ⟨y, hy, hyw, hb⟩
  · omega
  · have := h1 y hy
    rw [none_one, decide_eq_false_iff_not] at this
    unfold leftStep at this
    rw [if_neg (by rw [hyw]; decide)] at this
    simp only at this
    omega
  · have := h1 x hx
    rw [none_one, decide_eq_false_iff_not] at this
    unfold leftStep at this
    rw [if_pos hxw] at this
    simp only at this
    omega
  · have := h2 x y hx hy
    rw [none_two, decide_eq_false_iff_not] at this
    unfold leftStep at this
    rw [if_pos hxw, if_neg (by rw [hyw]; decide)] at this
    simp only at this
    omega
end Go.Proofs.Wk

namespace Go.Proofs.Wk
open Go Go.Gx Go.Pl
set_option linter.unusedVariables false
/-- singles first -/
theorem clash_L0 {s : Sands} (hG : Good s) {k : List Look} (hk : ∀ l, l ∈ k → lookOK s l) (hl : k.length ≤ 1000) :
    iterM FU (m_tide_Clash_1_L0 k s) 0 = some (match (List.range k.length).find? (fun i => noneT s [k.getD i default]) with | some i => .inr ⟨0, [(i : Int)]⟩ | none => .inl ()) := by
  have key := iterM_any (f := m_tide_Clash_1_L0 k s) 0 k.length (fun i => noneT s [k.getD i default]) (fun i => (⟨0, [(i : Int)]⟩ : m_tide_Clash_1_R)) (fun i hi => by
    have hm := mem_getD (d := (default : Look)) hi
    unfold m_tide_Clash_1_L0
    rw [Int.zero_add, if_pos (by omega), ix_nat default hi, Option.bind_some, none_eq hG (fun l h => by rw [List.mem_singleton.1 h]; exact hk _ hm) (by simp), Option.bind_some]
    cases noneT s [k.getD i default] with
    | true => rw [if_pos rfl]; rfl
    | false => rw [if_neg (by decide), addc_eq (by omega), Option.bind_some]; rfl) (by
    unfold m_tide_Clash_1_L0
    rw [Int.zero_add, if_neg (by omega)]) (N := FU) (FU_lt (by omega))
  rw [key]
  cases (List.range k.length).find? (fun i => noneT s [k.getD i default]) <;> rfl
/-- pairs with a given first -/
def pairT (s : Sands) (k : List Look) (i j : Nat) : Bool := !decide (k.getD i default = k.getD (i + 1 + j) default) && noneT s [k.getD i default, k.getD (i + 1 + j) default]
theorem clash_L2 {s : Sands} (hG : Good s) {k : List Look} (hk : ∀ l, l ∈ k → lookOK s l) (hl : k.length ≤ 1000) {i : Nat} (hi : i < k.length) :
    iterM FU (m_tide_Clash_1_L2 k ((i : Int) + 1) (k.getD i default) s (i : Int)) 0 = some (match (List.range (k.length - (i + 1))).find? (pairT s k i) with | some j => .inr ⟨0, [(i : Int), ((i + 1 + j : Nat) : Int)]⟩ | none => .inl ()) := by
  have hlen : (k.drop (((i : Int) + 1).toNat)).length = k.length - (i + 1) := by rw [List.length_drop]; omega
  have key := iterM_any (f := m_tide_Clash_1_L2 k ((i : Int) + 1) (k.getD i default) s (i : Int)) 0 (k.length - (i + 1)) (pairT s k i) (fun j => (⟨0, [(i : Int), ((i + 1 + j : Nat) : Int)]⟩ : m_tide_Clash_1_R)) (fun j hj => by
    have hmi := mem_getD (d := (default : Look)) hi
    have hmj := mem_getD (d := (default : Look)) (show i + 1 + j < k.length by omega)
    have hg : (k.drop (((i : Int) + 1).toNat)).getD j default = k.getD (i + 1 + j) default := by
      rw [List.getD_eq_getElem?_getD, List.getElem?_drop, List.getD_eq_getElem?_getD, show ((i : Int) + 1).toNat = i + 1 by omega]
    unfold m_tide_Clash_1_L2
    rw [Int.zero_add, if_pos (by rw [hlen]; omega), ix_nat default (by rw [hlen]; exact hj), Option.bind_some, hg]
    unfold pairT
    by_cases he : k.getD i default = k.getD (i + 1 + j) default
    · rw [if_pos he, Option.bind_some, if_neg (by decide), addc_eq (by omega), Option.bind_some, decide_eq_true he]
      rfl
    · rw [if_neg he, none_eq hG (fun l h => by
        rcases List.mem_cons.1 h with h | h
        · rw [h]; exact hk _ hmi
        · rw [List.mem_singleton.1 h]; exact hk _ hmj) (by simp), Option.bind_some, Option.bind_some, decide_eq_false he, Bool.not_false, Bool.true_and]
      cases noneT s [k.getD i default, k.getD (i + 1 + j) default] with
      | true =>
        rw [if_pos rfl, addc_eq (by omega), Option.bind_some, addc_eq (by omega), Option.bind_some, if_pos rfl]
        exact congrArg (fun z => some (Sum.inr (Sum.inr (⟨0, [(i : Int), z]⟩ : m_tide_Clash_1_R)))) (by omega)
      | false => rw [if_neg (by decide), addc_eq (by omega), Option.bind_some, if_neg (by decide)]) (by
    unfold m_tide_Clash_1_L2
    rw [Int.zero_add, if_neg (by rw [hlen]; omega)]) (N := FU) (FU_lt (by omega))
  rw [key]
  cases (List.range (k.length - (i + 1))).find? (pairT s k i) <;> rfl
end Go.Proofs.Wk

namespace Go.Proofs.Wk
open Go Go.Gx Go.Pl
set_option linter.unusedVariables false
def mateF (s : Sands) (k : List Look) (i : Nat) : Option Nat := (List.range (k.length - (i + 1))).find? (pairT s k i)
/-- pairs behind singles -/
theorem clash_L1 {s : Sands} (hG : Good s) {k : List Look} (hk : ∀ l, l ∈ k → lookOK s l) (hl : k.length ≤ 1000) :
    iterM FU (m_tide_Clash_1_L1 k s) 0 = some (match (List.range k.length).find? (fun i => (mateF s k i).isSome) with | some i => .inr ⟨0, [(i : Int), ((i + 1 + (mateF s k i).getD 0 : Nat) : Int)]⟩ | none => .inl ()) := by
  have key := iterM_any (f := m_tide_Clash_1_L1 k s) 0 k.length (fun i => (mateF s k i).isSome) (fun i => (⟨0, [(i : Int), ((i + 1 + (mateF s k i).getD 0 : Nat) : Int)]⟩ : m_tide_Clash_1_R)) (fun i hi => by
    unfold m_tide_Clash_1_L1
    rw [Int.zero_add, if_pos (by omega), ix_nat default hi, Option.bind_some, addc_eq (by omega), Option.bind_some, if_pos ⟨by omega, by omega⟩, clash_L2 hG hk hl hi, Option.bind_some]
    have e : (List.range (k.length - (i + 1))).find? (pairT s k i) = mateF s k i := rfl
    rw [e]
    cases mateF s k i with
    | none => 
      unfold oc
      simp only
      rfl
    | some j => rfl) (by
    unfold m_tide_Clash_1_L1
    rw [Int.zero_add, if_neg (by omega)]) (N := FU) (FU_lt (by omega))
  rw [key]
  cases (List.range k.length).find? (fun i => (mateF s k i).isSome) <;> rfl
/-- what Clash comes to -/
def ClashR (s : Sands) (k : List Look) : m_tide_Clash_1_R :=
  if lookedE s k ≠ 0 then ⟨lookedE s k, []⟩ else
  match (List.range k.length).find? (fun i => noneT s [k.getD i default]) with
  | some i => ⟨0, [(i : Int)]⟩
  | none => match (List.range k.length).find? (fun i => (mateF s k i).isSome) with
    | some i => ⟨0, [(i : Int), ((i + 1 + (mateF s k i).getD 0 : Nat) : Int)]⟩
    | none => ⟨6, []⟩
theorem clash_eq {s : Sands} (hS : Short s) {k : List Look} (hl : k.length ≤ 1000) (hG : lookedE s k = 0 → Good s ∧ ∀ l, l ∈ k → lookOK s l) : m_tide_Clash_1 s k = some (ClashR s k) := by
  have h1 := hS.t
  have h2 := hS.f
  have h3 := hS.s
  unfold m_tide_Clash_1 ClashR
  rw [if_pos ⟨⟨by omega, by omega, by omega⟩, by omega⟩]
  by_cases hc : lookedE s k = 0
  · obtain ⟨hG, hk⟩ := hG hc
    rw [if_pos hc, if_neg (show ¬ (lookedE s k ≠ 0) by rw [hc]; simp), clash_L0 hG hk hl, Option.bind_some]
    cases (List.range k.length).find? (fun i => noneT s [k.getD i default]) with
    | some i => rfl
    | none =>
      unfold oc
      simp only
      rw [clash_L1 hG hk hl, Option.bind_some]
      cases (List.range k.length).find? (fun i => (mateF s k i).isSome) <;> rfl
  · rw [if_neg hc, if_pos hc]
end Go.Proofs.Wk

namespace Go.Proofs.Wk
open Go Go.Gx Go.Pl
set_option linter.unusedVariables false
set_option maxRecDepth 100000 in
theorem mem_inj : ∀ n : Nat, n < 64 → ∀ k : Nat, k < 64 → memL n = memL k → n = k := by decide +kernel
set_option maxRecDepth 100000 in
theorem rank_inj : ∀ n : Nat, n < 64 → ∀ k : Nat, k < 64 → rankL (memL n) = rankL (memL k) → n = k := by decide +kernel
theorem find_first {n : Nat} {p : Nat → Bool} {i : Nat} (h : (List.range n).find? p = some i) : i < n ∧ p i = true ∧ ∀ j, j < i → p j = false := by
  rw [List.find?_range_eq_some] at h
  exact ⟨by simpa using h.2.1, h.1, fun j hj => by simpa using h.2.2 j hj⟩
end Go.Proofs.Wk

namespace Go.Proofs.Wk
open Go Go.Gx Go.Pl
set_option linter.unusedVariables false
/-- a single that clashes: it is the best set -/
theorem best_one {s : Sands} (hG : Good s) {k : List Look} (hk : ∀ l, l ∈ k → lookOK s l) (hl : k.length ≤ 6) {best : List Int} (hB : BestOf s k (2 ^ k.length) best) {i : Nat}
    (hf : (List.range k.length).find? (fun i => noneT s [k.getD i default]) = some i) : best = [(i : Int)] := by
  obtain ⟨hi, hc, hmin⟩ := find_first hf
  have hp := pow_bd hl
  have hpi := pow_bd (j := i) (by omega)
  have hlt : 2 ^ i < 2 ^ k.length := Nat.pow_lt_pow_right (by omega) hi
  have hci := (one_clash hG hk hl hi).2 hc
  rcases hB with ⟨_, hno⟩ | ⟨b, hb0, hbm, rfl, hbc, hbmin⟩
  · exact absurd hci (hno _ (by omega) hlt)
  · have hr := hbmin _ (by omega) hlt hci
    by_cases he : rankL (memL b) = rankL (memL (2 ^ i))
    · have := rank_inj b (by omega) (2 ^ i) (by omega) he
      rw [this, mem_one i (by omega)]
    · have ha : aheadB (memL b) (memL (2 ^ i)) = true := by
        rw [ahead_rank b (by omega) _ (by omega)]
        exact decide_eq_true (by omega)
      rw [mem_one i (by omega)] at ha
      have h1 := ahead_one b (by omega) hb0 i (by omega) ha
      rw [List.any_eq_true] at h1
      obtain ⟨j, hj, hm⟩ := h1
      have hji : j < i := by simpa using hj
      have hbj : b = 2 ^ j := mem_inj b (by omega) (2 ^ j) (by have := Nat.pow_lt_pow_right (a := 2) (by omega) hji; omega) (by rw [mem_one j (by omega)]; exact of_decide_eq_true hm)
      subst hbj
      have h2 := (one_clash hG hk hl (show j < k.length by omega)).1 hbc
      have h3 := hmin j hji
      rw [h2] at h3
      exact absurd h3 (by decide)
end Go.Proofs.Wk

namespace Go.Proofs.Wk
open Go Go.Gx Go.Pl
set_option linter.unusedVariables false
theorem none_twice {s : Sands} (hG : Good s) {x : Look} (hx : lookOK s x) : noneT s [x, x] = noneT s [x] := by
  rw [Bool.eq_iff_iff, none_iff hG (fun l h => by simp at h; subst h; exact hx), none_iff hG (fun l h => by simp at h; subst h; exact hx)]
  simp
theorem pair_none {s : Sands} (hG : Good s) {k : List Look} (hk : ∀ l, l ∈ k → lookOK s l) (h1 : ∀ i, i < k.length → noneT s [k.getD i default] = false) {i j : Nat} (hij : i < j) (hj : j < k.length) : pairT s k i (j - (i + 1)) = noneT s [k.getD i default, k.getD j default] := by
  have e : i + 1 + (j - (i + 1)) = j := by omega
  unfold pairT
  rw [e]
  by_cases h : k.getD i default = k.getD j default
  · rw [← h, none_twice hG (hk _ (mem_getD (show i < k.length by omega))), h1 i (by omega)]
    simp
  · rw [decide_eq_false h]; simp
end Go.Proofs.Wk

