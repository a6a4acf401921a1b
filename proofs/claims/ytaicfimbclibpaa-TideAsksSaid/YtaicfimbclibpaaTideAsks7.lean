/- What the functions that the law TideAsks reaches come to, and why it holds: part 7. -/
import Derived.Deep.Slices
import Derived.ChangeArms
import Derived.Below
import Derived.KernelRfl
import Derived.Test.YtaicfimbclibpaaTideAsks6
namespace Go.Proofs.Wk
open Go Go.Gx Go.Pl
set_option linter.unusedVariables false
/-! ### the reference's gates -/
theorem has_eq {l : List Int} {n : Int} (hl : l.length ≤ 1000000) : m_laurelref01_has l n = some (hasI l n) := by
  unfold m_laurelref01_has
  have key := iterM_any0 (f := m_laurelref01_has_L0 l n) l.length (fun k => decide (l.getD k 0 = n)) true (fun k hk => by
    unfold m_laurelref01_has_L0
    rw [if_pos (by omega), ix_nat 0 hk, Option.bind_some]
    by_cases h : l.getD k 0 = n
    · rw [if_pos h]; simpa using h
    · rw [if_neg h, addc_eq (by omega), Option.bind_some]; simpa using h) (by
    unfold m_laurelref01_has_L0
    rw [if_neg (by omega)]) (N := FU) (FU_lt (by omega))
  rw [key, Option.bind_some]
  have e : (List.range l.length).any (fun k => decide (l.getD k 0 = n)) = hasI l n := by
    rw [any_range (l := l) (d := 0) (p := fun x => decide (x = n))]
    unfold hasI
    congr 1
    funext x
    rw [Bool.eq_iff_iff]; simp [eq_comm]
  rw [e]
  cases hasI l n <;> rfl
/-- one step of the water -/
structure Stp (s : Sands) (sl pl : List Int) (h a q : Int) (k : Nat) : Prop where
  kl : k < s.sills.length
  jn : joins (s.sills.getD k default) a q
  qn : 0 ≤ q
  sn : hasI sl (k : Int) = false
  pn : hasI pl q = false
  hh : (s.sills.getD k default).h ≤ h
  ff : s.floors.getD q.toNat 0 ≤ h
/-- a way on, that meets no place twice -/
inductive Path (s : Sands) (sl pl : List Int) (h to : Int) : List Int → Int → Prop
  | done {met : List Int} : Path s sl pl h to met to
  | step {met : List Int} {a q : Int} {k : Nat} : Stp s sl pl h a q k → q ∉ met → Path s sl pl h to (met ++ [q]) q → Path s sl pl h to met a
/-- what water reaches, some sills and places left out -/
inductive Rch (s : Sands) (sl pl : List Int) (h : Int) : Int → Prop
  | sea : Rch s sl pl h (-1)
  | step {a q : Int} {k : Nat} : Rch s sl pl h a → Stp s sl pl h a q k → Rch s sl pl h q
theorem Path.rch {s : Sands} {sl pl : List Int} {h to : Int} {met : List Int} {a : Int} (p : Path s sl pl h to met a) (ha : Rch s sl pl h a) : Rch s sl pl h to := by
  induction p with
  | done => exact ha
  | step hs _ _ ih => exact ih (.step ha hs)
/-- steps one behind the other -/
def Chn (s : Sands) (sl pl : List Int) (h : Int) : Int → List Int → Prop
  | _, [] => True
  | a, q :: l => (∃ k, Stp s sl pl h a q k) ∧ Chn s sl pl h q l
def endOf : Int → List Int → Int
  | a, [] => a
  | _, q :: l => endOf q l
theorem Chn.snoc {s : Sands} {sl pl : List Int} {h q : Int} {k : Nat} : ∀ {l : List Int} {a : Int}, Chn s sl pl h a l → Stp s sl pl h (endOf a l) q k → Chn s sl pl h a (l ++ [q]) ∧ endOf a (l ++ [q]) = q
  | [], a, _, hs => ⟨⟨⟨k, hs⟩, trivial⟩, rfl⟩
  | x :: l, a, hc, hs => by
    obtain ⟨h1, h2⟩ := Chn.snoc (l := l) (a := x) hc.2 hs
    exact ⟨⟨hc.1, h1⟩, h2⟩
theorem Chn.drop {s : Sands} {sl pl : List Int} {h q : Int} : ∀ {l b : List Int} {a : Int}, Chn s sl pl h a (l ++ q :: b) → Chn s sl pl h q b ∧ endOf a (l ++ q :: b) = endOf q b
  | [], b, a, hc => ⟨hc.2, rfl⟩
  | x :: l, b, a, hc => Chn.drop (l := l) hc.2
theorem Chn.once {s : Sands} {sl pl : List Int} {h : Int} : ∀ (l : List Int) (a : Int), Chn s sl pl h a l → ∃ l', Chn s sl pl h a l' ∧ endOf a l' = endOf a l ∧ l'.Nodup
  | [], a, _ => ⟨[], trivial, rfl, List.nodup_nil⟩
  | q :: l, a, hc => by
    obtain ⟨l', h1, h2, h3⟩ := Chn.once l q hc.2
    by_cases hq : q ∈ l'
    · obtain ⟨x, y, rfl⟩ := List.append_of_mem hq
      obtain ⟨h4, h5⟩ := Chn.drop h1
      have h6 : (q :: y).Nodup := (List.nodup_append.1 h3).2.1
      exact ⟨q :: y, ⟨hc.1, h4⟩, by show endOf q y = endOf q l; rw [← h5, h2], h6⟩
    · exact ⟨q :: l', ⟨hc.1, h1⟩, h2, List.nodup_cons.2 ⟨hq, h3⟩⟩
theorem Chn.path {s : Sands} {sl pl : List Int} {h : Int} : ∀ (l : List Int) (a : Int) (met : List Int), Chn s sl pl h a l → l.Nodup → (∀ x ∈ l, x ∉ met) → Path s sl pl h (endOf a l) met a
  | [], a, met, _, _, _ => .done
  | q :: l, a, met, hc, hn, hm => by
    obtain ⟨k, hk⟩ := hc.1
    have h1 := List.nodup_cons.1 hn
    refine .step hk (hm q List.mem_cons_self) (Chn.path l q (met ++ [q]) hc.2 h1.2 (fun x hx hxm => ?_))
    rcases List.mem_append.1 hxm with h2 | h2
    · exact hm x (List.mem_cons_of_mem _ hx) h2
    · simp at h2; subst h2; exact h1.1 hx
theorem Rch.path {s : Sands} {sl pl : List Int} {h q : Int} (r : Rch s sl pl h q) : Path s sl pl h q [] (-1) := by
  have : ∃ l, Chn s sl pl h (-1) l ∧ endOf (-1) l = q := by
    induction r with
    | sea => exact ⟨[], trivial, rfl⟩
    | step _ hs ih =>
      obtain ⟨l, h1, h2⟩ := ih
      subst h2
      exact ⟨_, Chn.snoc h1 hs⟩
  obtain ⟨l, h1, h2⟩ := this
  obtain ⟨l', h3, h4, h5⟩ := Chn.once l _ h1
  have := Chn.path l' (-1) [] h3 h5 (fun x _ hx => by simp at hx)
  rw [h4, h2] at this
  exact this
/-- what is met: places, each once -/
structure Met (s : Sands) (met : List Int) : Prop where
  nd : met.Nodup
  rg : ∀ x ∈ met, 0 ≤ x ∧ x < s.floors.length
theorem Met.len {s : Sands} {met : List Int} (h : Met s met) : met.length ≤ s.floors.length := by
  have h1 := nodup_map (f := fun k : Int => k.toNat) h.nd (fun x hx y hy he => by
    have a := h.rg x hx
    have b := h.rg y hy
    have hc : x.toNat = y.toNat := he
    omega)
  have h2 := nodup_lt s.floors.length _ h1 (fun x hx => by
    obtain ⟨k, hk, rfl⟩ := List.mem_map.1 hx
    have a := h.rg k hk
    have : (fun k : Int => k.toNat) k = k.toNat := rfl
    omega)
  simpa using h2
theorem Met.snoc {s : Sands} {met : List Int} (h : Met s met) {q : Int} (hq : 0 ≤ q ∧ q < s.floors.length) (hn : q ∉ met) : Met s (met ++ [q]) := by
  refine ⟨List.nodup_append.2 ⟨h.nd, by simp, fun a ha b hb hab => ?_⟩, fun x hx => ?_⟩
  · simp at hb; subst hb; subst hab; exact hn ha
  · rcases List.mem_append.1 hx with hx | hx
    · exact h.rg x hx
    · simp at hx; subst hx; exact hq
theorem hasI_iff {l : List Int} {n : Int} : hasI l n = true ↔ n ∈ l := by
  unfold hasI
  rw [List.any_eq_true]
  constructor
  · rintro ⟨x, hx, h⟩; have := of_decide_eq_true h; subst this; exact hx
  · intro h; exact ⟨n, h, by simp⟩
/-- what 'least' says -/
structure LOK (s : Sands) (sl pl : List Int) (to : Int) (met : List Int) (a crest v : Int) : Prop where
  snd : v = 5000 ∨ ((crest ≤ v ∧ v ≤ 999) ∧ Path s sl pl v to met a)
  cmp : ∀ h, crest ≤ h → Path s sl pl h to met a → v ≤ h
theorem joins_one {x : Sill} {a p q : Int} (hne : x.a ≠ x.b) (h1 : joins x a p) (h2 : joins x a q) : p = q := by
  rcases h1 with ⟨h3, h4⟩ | ⟨h3, h4⟩ <;> rcases h2 with ⟨h5, h6⟩ | ⟨h5, h6⟩ <;> omega
/-- the loop's state -/
structure LIn (s : Sands) (sl pl : List Int) (to : Int) (met : List Int) (a crest out : Int) (i : Nat) : Prop where
  snd : out = 5000 ∨ ((crest ≤ out ∧ out ≤ 999) ∧ Path s sl pl out to met a)
  cmp : ∀ h (k : Nat) q, crest ≤ h → k < i → Stp s sl pl h a q k → q ∉ met → Path s sl pl h to (met ++ [q]) q → out ≤ h
theorem LIn.skip {s : Sands} {sl pl : List Int} {to : Int} {met : List Int} {a crest out : Int} {i : Nat} (h : LIn s sl pl to met a crest out i) (hs : ∀ h q, Stp s sl pl h a q i → q ∉ met → False) : LIn s sl pl to met a crest out (i + 1) := by
  refine ⟨h.snd, fun hh k q hc hk hst hq hp => ?_⟩
  by_cases he : k = i
  · subst he; exact (hs hh q hst hq).elim
  · exact h.cmp hh k q hc (by omega) hst hq hp
theorem least_tail {s : Sands} (hG : Good s) {sl pl : List Int} (hsl : sl.length ≤ 1000) (hpl : pl.length ≤ 1000) {to : Int} {met : List Int} (hm : Met s met) {a crest out : Int} (hcr : 0 ≤ crest ∧ crest ≤ 999) {i : Nat} (hi : i < s.sills.length) (hL : LIn s sl pl to met a crest out i)
    {rec_ : Sands → Int → List Int → Int → Int → List Int → List Int → Option Int}
    (hrec : ∀ q c : Int, 0 ≤ q ∧ q < s.floors.length → q ∉ met → 0 ≤ c ∧ c ≤ 999 → ∃ v, rec_ s q (met ++ [q]) c to sl pl = some v ∧ LOK s sl pl to (met ++ [q]) q c v)
    {nx : Int} (hj : joins (s.sills.getD i default) a nx) :
    ∃ out', ((if nx < 0 then some true else
      (m_laurelref01_has met nx).bind fun t53 => if t53 = true then some true else
        (m_laurelref01_has sl (i : Int)).bind fun t58 => if t58 = true then some true else
          (m_laurelref01_has pl nx).bind fun t63 => some t63).bind fun o_4 =>
      if o_4 = true then some out else
        (appc 8 [] met).bind fun t67 => (appc 8 t67 [nx]).bind fun t70 => (ix s.floors nx).bind fun t81 =>
          (rec_ s nx t70 (max (max crest (s.sills.getD i default).h) t81) to sl pl).bind fun t87 => some (min out t87)) = some out' ∧ LIn s sl pl to met a crest out' (i + 1) := by
  have hne := hG.ne i hi
  have ha := hG.sa i hi
  have hb := hG.sb i hi
  have hsh := hG.sh i hi
  have hml := hm.len
  have hfl := hG.fl
  have hnx : -1 ≤ nx ∧ nx < s.floors.length := by rcases hj with ⟨h1, h2⟩ | ⟨h1, h2⟩ <;> omega
  by_cases h0 : nx < 0
  · rw [if_pos h0, Option.bind_some, if_pos rfl]
    exact ⟨_, rfl, hL.skip fun h q hst _ => by
      have := joins_one hne hj hst.jn
      have := hst.qn
      omega⟩
  rw [if_neg h0, has_eq (by omega), Option.bind_some]
  by_cases h1 : hasI met nx = true
  · rw [if_pos h1, Option.bind_some, if_pos rfl]
    exact ⟨_, rfl, hL.skip fun h q hst hq => by
      have := joins_one hne hj hst.jn
      subst this
      exact hq (hasI_iff.1 h1)⟩
  rw [if_neg h1, has_eq (by omega), Option.bind_some]
  by_cases h2 : hasI sl (i : Int) = true
  · rw [if_pos h2, Option.bind_some, if_pos rfl]
    exact ⟨_, rfl, hL.skip fun h q hst hq => by
      have := hst.sn
      rw [h2] at this
      exact absurd this (by decide)⟩
  rw [if_neg h2, has_eq (by omega), Option.bind_some, Option.bind_some]
  by_cases h3 : hasI pl nx = true
  · rw [if_pos h3]
    exact ⟨_, rfl, hL.skip fun h q hst hq => by
      have := joins_one hne hj hst.jn
      subst this
      have := hst.pn
      rw [h3] at this
      exact absurd this (by decide)⟩
  have hflo := hG.flo nx.toNat (by omega)
  have hnm : nx ∉ met := fun h => h1 (hasI_iff.2 h)
  rw [if_neg h3, appc_eq (by simp only [List.length_nil]; omega), Option.bind_some, List.nil_append, appc_eq (by simp only [List.length_singleton]; omega), Option.bind_some, ix_eq 0 (by omega) hnx.2, Option.bind_some]
  obtain ⟨v, hv, hok⟩ := hrec nx (max (max crest (s.sills.getD i default).h) (s.floors.getD nx.toNat 0)) ⟨by omega, hnx.2⟩ hnm (by omega)
  rw [hv, Option.bind_some]
  refine ⟨_, rfl, ?_, fun h k q hc hk hst hq hp => ?_⟩
  · rcases hok.snd with rfl | ⟨hvb, hvp⟩
    · rcases hL.snd with rfl | h4
      · left; omega
      · right
        rw [show min out 5000 = out by omega]
        exact h4
    · have hstep : Path s sl pl v to met a := by
        refine .step (k := i) (q := nx) ⟨hi, hj, by omega, ?_, ?_, by omega, by omega⟩ hnm hvp
        · cases h5 : hasI sl (i : Int) with
          | false => rfl
          | true => exact absurd h5 h2
        · cases h5 : hasI pl nx with
          | false => rfl
          | true => exact absurd h5 h3
      right
      rcases hL.snd with rfl | ⟨h4, h5⟩
      · rw [show min 5000 v = v by omega]
        exact ⟨⟨by omega, hvb.2⟩, hstep⟩
      · by_cases h6 : out ≤ v
        · rw [show min out v = out by omega]
          exact ⟨h4, h5⟩
        · rw [show min out v = v by omega]
          exact ⟨⟨by omega, hvb.2⟩, hstep⟩
  · by_cases he : k = i
    · subst he
      have := joins_one hne hj hst.jn
      subst this
      have h4 := hst.hh
      have h5 := hst.ff
      have := hok.cmp h (by omega) hp
      omega
    · have := hL.cmp h k q hc (by omega) hst hq hp
      omega
theorem least_step {s : Sands} (hG : Good s) {sl pl : List Int} (hsl : sl.length ≤ 1000) (hpl : pl.length ≤ 1000) {to : Int} {met : List Int} (hm : Met s met) {a crest out : Int} (hcr : 0 ≤ crest ∧ crest ≤ 999) {i : Nat} (hi : i < s.sills.length) (hL : LIn s sl pl to met a crest out i)
    {rec_ : Sands → Int → List Int → Int → Int → List Int → List Int → Option Int}
    (hrec : ∀ q c : Int, 0 ≤ q ∧ q < s.floors.length → q ∉ met → 0 ≤ c ∧ c ≤ 999 → ∃ v, rec_ s q (met ++ [q]) c to sl pl = some v ∧ LOK s sl pl to (met ++ [q]) q c v) :
    ∃ out', m_laurelref01_least_L0 s a met sl pl rec_ crest to ⟨out, (i : Int)⟩ = some (.inl ⟨out', ((i + 1 : Nat) : Int)⟩) ∧ LIn s sl pl to met a crest out' (i + 1) := by
  have hne := hG.ne i hi
  have hsll := hG.sl
  have hadd : addc (i : Int) 1 = some ((i + 1 : Nat) : Int) := by rw [addc_eq (by omega)]; exact congrArg some (by omega)
  unfold m_laurelref01_least_L0
  dsimp only
  rw [if_pos (by omega), ix_nat default hi, Option.bind_some]
  by_cases ha : (s.sills.getD i default).a = a
  · have hb : (s.sills.getD i default).b ≠ a := by omega
    obtain ⟨o, ho, hL'⟩ := least_tail hG hsl hpl hm hcr hi hL hrec (nx := (s.sills.getD i default).b) (.inl ⟨ha, rfl⟩)
    rw [if_pos ha, Option.bind_some, if_neg hb, Option.bind_some, ho, Option.bind_some, hadd, Option.bind_some]
    exact ⟨o, rfl, hL'⟩
  · rw [if_neg ha, Option.bind_some]
    by_cases hb : (s.sills.getD i default).b = a
    · obtain ⟨o, ho, hL'⟩ := least_tail hG hsl hpl hm hcr hi hL hrec (nx := (s.sills.getD i default).a) (.inr ⟨hb, rfl⟩)
      rw [if_pos hb, Option.bind_some, ho, Option.bind_some, hadd, Option.bind_some]
      exact ⟨o, rfl, hL'⟩
    · rw [if_neg hb, Option.bind_some, if_pos (by decide), Option.bind_some, if_pos rfl, Option.bind_some, hadd, Option.bind_some]
      exact ⟨_, rfl, hL.skip fun h q hst _ => hst.jn.elim (fun h1 => ha h1.1) (fun h1 => hb h1.1)⟩
theorem least_ok {s : Sands} (hG : Good s) {sl pl : List Int} (hsl : sl.length ≤ 1000) (hpl : pl.length ≤ 1000) {to : Int} : ∀ (d n : Nat), d < n → ∀ (a : Int) (met : List Int) (crest : Int), Met s met → s.floors.length - met.length ≤ d → 0 ≤ crest ∧ crest ≤ 999 →
    ∃ v, m_laurelref01_least n s a met crest to sl pl = some v ∧ LOK s sl pl to met a crest v
  | d, 0, h, _, _, _, _, _, _ => by omega
  | d, n + 1, hdn, a, met, crest, hm, hd, hcr => by
    have hrec : ∀ q c : Int, 0 ≤ q ∧ q < s.floors.length → q ∉ met → 0 ≤ c ∧ c ≤ 999 → ∃ v, m_laurelref01_least n s q (met ++ [q]) c to sl pl = some v ∧ LOK s sl pl to (met ++ [q]) q c v := fun q c hq hqm hc => by
      have h1 := hm.snoc hq hqm
      have h2 := h1.len
      simp only [List.length_append, List.length_singleton] at h2
      exact least_ok hG hsl hpl (d - 1) n (by omega) q (met ++ [q]) c h1 (by simp only [List.length_append, List.length_singleton]; omega) hc
    show ∃ v, m_laurelref01_least_B (m_laurelref01_least n) s a met crest to sl pl = some v ∧ _
    unfold m_laurelref01_least_B
    by_cases hat : a = to
    · rw [if_pos hat]
      subst hat
      exact ⟨_, rfl, .inr ⟨⟨Int.le_refl _, hcr.2⟩, .done⟩, fun h hc _ => hc⟩
    · rw [if_neg hat]
      obtain ⟨v, hv, hL⟩ := iterM_inv (f := m_laurelref01_least_L0 s a met sl pl (m_laurelref01_least n) crest to) (fun x => ∃ i : Nat, x.i16 = (i : Int) ∧ i ≤ s.sills.length ∧ LIn s sl pl to met a crest x.out15 i) (fun x => s.sills.length - x.i16.toNat) (fun v => LIn s sl pl to met a crest v s.sills.length)
        (fun x ⟨i, hi, hil, hL⟩ => by
          obtain ⟨out, i'⟩ := x
          simp only at hi hL
          subst hi
          by_cases hlt : i < s.sills.length
          · left
            obtain ⟨o, ho, hL'⟩ := least_step hG hsl hpl hm hcr hlt hL hrec
            exact ⟨_, ho, ⟨i + 1, rfl, by omega, hL'⟩, by simp only; omega⟩
          · right
            unfold m_laurelref01_least_L0
            dsimp only
            rw [if_neg (by omega)]
            have : i = s.sills.length := by omega
            subst this
            exact ⟨_, rfl, hL⟩) FU ⟨5000, 0⟩ (FU_lt (by have := hG.sl; simp only; omega)) ⟨0, rfl, by omega, .inl rfl, fun h k q _ hk => by omega⟩
      rw [hv, Option.bind_some]
      refine ⟨v, rfl, hL.snd, fun h hc hp => ?_⟩
      cases hp with
      | done => exact absurd rfl hat
      | step hst hq hp => exact hL.cmp h _ _ hc hst.kl hst hq hp
/-- the reference's least crest of all ways to a place -/
theorem least_spec {s : Sands} (hG : Good s) {sl pl : List Int} (hsl : sl.length ≤ 1000) (hpl : pl.length ≤ 1000) {p : Int} : ∃ v, m_laurelref01_least FU s (-1) [] 0 p sl pl = some v ∧ (v = 5000 ∨ ((0 ≤ v ∧ v ≤ 999) ∧ Rch s sl pl v p)) ∧ ∀ h, 0 ≤ h → Rch s sl pl h p → v ≤ h := by
  have hfl := hG.fl
  obtain ⟨v, hv, hok⟩ := least_ok hG hsl hpl (to := p) 8 FU (FU_lt (by omega)) (-1) [] 0 ⟨List.nodup_nil, fun x hx => by simp at hx⟩ (by simp; omega) (by omega)
  refine ⟨v, hv, ?_, fun h h0 hr => hok.cmp h h0 hr.path⟩
  rcases hok.snd with h | ⟨h1, h2⟩
  · exact .inl h
  · exact .inr ⟨h1, h2.rch .sea⟩
theorem rch_reach {s : Sands} {h p : Int} (r : Rch s [] [] h p) : Go.Pl.Reach s h p := by
  induction r with
  | sea => exact .sea
  | step _ hs ih => exact .step ih (mem_getD (d := (default : Sill)) hs.kl) hs.jn (by have := hs.qn; omega) hs.hh hs.ff
theorem reach_rch {s : Sands} (hG : Good s) {h p : Int} (r : Go.Pl.Reach s h p) : Rch s [] [] h p := by
  induction r with
  | sea => exact .sea
  | @step p q x hp hx hj hq h1 h2 ih =>
    obtain ⟨k, hk, rfl⟩ := List.mem_iff_getElem.1 hx
    have e : s.sills.getD k default = s.sills[k] := by simp [List.getD_eq_getElem?_getD, hk]
    have ha := hG.sa k hk
    have hb := hG.sb k hk
    rw [e] at ha hb
    exact .step ih (k := k) ⟨hk, by rw [e]; exact hj, by rcases hj with ⟨h3, h4⟩ | ⟨h3, h4⟩ <;> omega, rfl, rfl, by rw [e]; exact h1, h2⟩
/-- the reference's gate, by ours -/
def refGate (g : Int) : Int := if g = 1000 then 5000 else g
theorem refgate_eq {s : Sands} (hG : Good s) {p : Int} (hp : isPlace s p = true) : m_laurelref01_Gate s p = some (refGate ((gatesOf s).getD p.toNat 0)) := by
  have hpl := isPlace_iff.1 hp
  have hfl := hG.fl
  obtain ⟨v, hv, h1, h2⟩ := least_spec hG (sl := []) (pl := []) (by simp) (by simp) (p := p)
  unfold m_laurelref01_Gate
  rw [hv, Option.bind_some]
  congr 1
  have hgo := gates_ok (s := s)
  have k0 := hgo.lo p.toNat
  have k1 := hgo.hi p.toNat
  have e : ((p.toNat : Nat) : Int) = p := by omega
  unfold refGate
  by_cases hg : (gatesOf s).getD p.toNat 0 = 1000
  · rw [if_pos hg]
    rcases h1 with h1 | ⟨h1, h3⟩
    · exact h1
    · rcases gates_le hG h1.1 (rch_reach h3) with h4 | h4 <;> omega
  · rw [if_neg hg]
    have h5 := gates_snd hG p.toNat (by omega) (by omega)
    rw [e] at h5
    have h6 := h2 _ k0 (reach_rch hG h5)
    rcases h1 with h1 | ⟨h1, h3⟩
    · omega
    · rcases gates_le hG h1.1 (rch_reach h3) with h4 | h4
      · omega
      · have := h4.2; omega
end Go.Proofs.Wk

namespace Go.Proofs.Wk
open Go Go.Gx Go.Pl
set_option linter.unusedVariables false
theorem theirs_eq {s : Sands} (h : Short s) : m_laurellaw01_theirs s = some s := by
  have h1 := h.t
  have h2 := h.f
  have h3 := h.s
  unfold m_laurellaw01_theirs
  rw [dup_int (by omega)]
  simp only [Option.bind_some]
  have e1 : iterM FU (m_laurellaw01_theirs_L0 s) ⟨0, []⟩ = some s.table := by
    refine iterM_run (fun k => (⟨(k : Int), s.table.take k⟩ : m_laurellaw01_theirs_S0)) s.table.length (fun k hk => ?_) ?_ FU (FU_lt (by omega))
    · unfold m_laurellaw01_theirs_L0
      simp only
      rw [if_pos (by omega), ix_nat default hk, Option.bind_some, appc_eq (by simp; omega), Option.bind_some, addc_eq (by omega), Option.bind_some, take_snoc default hk]
      simp
    · unfold m_laurellaw01_theirs_L0
      simp
  have e2 : iterM FU (m_laurellaw01_theirs_L1 s) ⟨0, []⟩ = some s.sills := by
    refine iterM_run (fun k => (⟨(k : Int), s.sills.take k⟩ : m_laurellaw01_theirs_S1)) s.sills.length (fun k hk => ?_) ?_ FU (FU_lt (by omega))
    · unfold m_laurellaw01_theirs_L1
      simp only
      rw [if_pos (by omega), ix_nat default hk, Option.bind_some, appc_eq (by simp; omega), Option.bind_some, addc_eq (by omega), Option.bind_some, take_snoc default hk]
      simp
    · unfold m_laurellaw01_theirs_L1
      simp
  rw [e1, e2]
  rfl
/-! ### comparisons -/
theorem equal_water (a : List Water) (ha : a.length ≤ 1000) : m_slices_Equal_tideWatertideWater a a = some true := by
  unfold m_slices_Equal_tideWatertideWater
  rw [if_pos rfl, iterM_any0 a.length (fun _ => false) false (fun k hk => ?_) (by unfold m_slices_Equal_tideWatertideWater_L0; simp) (FU_lt (by omega))]
  · simp
  · unfold m_slices_Equal_tideWatertideWater_L0
    rw [if_pos (by omega), ix_nat default hk, Option.bind_some, Option.bind_some, if_pos rfl, addc_eq (by omega)]
    simp
theorem equal_int (a : List Int) (ha : a.length ≤ 1000) : m_slices_Equal_intint a a = some true := by
  unfold m_slices_Equal_intint
  rw [if_pos rfl, iterM_any0 a.length (fun _ => false) false (fun k hk => ?_) (by unfold m_slices_Equal_intint_L0; simp) (FU_lt (by omega))]
  · simp
  · unfold m_slices_Equal_intint_L0
    rw [if_pos (by omega), ix_nat default hk, Option.bind_some, Option.bind_some, if_pos rfl, addc_eq (by omega)]
    simp
theorem equal_sill (a : List Sill) (ha : a.length ≤ 1000) : m_slices_Equal_tideSilltideSill a a = some true := by
  unfold m_slices_Equal_tideSilltideSill
  rw [if_pos rfl, iterM_any0 a.length (fun _ => false) false (fun k hk => ?_) (by unfold m_slices_Equal_tideSilltideSill_L0; simp) (FU_lt (by omega))]
  · simp
  · unfold m_slices_Equal_tideSilltideSill_L0
    rw [if_pos (by omega), ix_nat default hk, Option.bind_some, Option.bind_some, if_pos rfl, addc_eq (by omega)]
    simp
theorem same_eq {s : Sands} (h : Short s) : m_laurellaw01_same s s = some true := by
  have h1 := h.t
  have h2 := h.f
  have h3 := h.s
  unfold m_laurellaw01_same m_laurelkit_Eq_tideWater m_laurelkit_Eq_int m_laurelkit_Eq_tideSill
  rw [equal_water _ (by omega), equal_int _ (by omega), equal_sill _ (by omega)]
  simp
/-! ### the reference's errors -/
theorem off_eq {n lo hi : Int} : m_laurelref01_off n lo hi = some (!inr n lo hi) := by
  unfold m_laurelref01_off inr
  by_cases h : n < lo
  · have h2 : decide (lo ≤ n) = false := decide_eq_false (by omega)
    simp [h, h2]
  · have h2 : decide (lo ≤ n) = true := decide_eq_true (by omega)
    have h3 : (!decide (n ≤ hi)) = decide (hi < n) := by
      by_cases h4 : n ≤ hi
      · simp [h4]
      · have h5 : hi < n := by omega
        simp [h4, h5]
    simp [h, h2, h3]
theorem or_some {a b : Bool} : ((if a = true then some true else some b) : Option Bool) = some (a || b) := by cases a <;> rfl
theorem ite_bool {α : Type} {b : Bool} {x y : α} : (if b = true then some x else some y) = some (if b = true then x else y) := by cases b <;> rfl
theorem ite_dec {α : Type} {p : Prop} [Decidable p] {x y : α} : (if p then some x else some y) = some (if decide p = true then x else y) := by by_cases h : p <;> simp [h]
theorem check_L0 {s : Sands} (h : Short s) : iterM FU (m_laurelref01_Check_L0 s) 0 = some (if s.table.all bigW then .inl () else .inr 3) := by
  have h1 := h.t
  rw [iterM_any0 s.table.length (fun k => !bigW (s.table.getD k default)) 3 (fun k hk => ?_) (by unfold m_laurelref01_Check_L0; simp) (FU_lt (by omega))]
  · rw [any_range (p := fun x => !bigW x) (d := default)]
    have := all_not_any (p := fun x => bigW x) (l := s.table)
    cases h2 : s.table.any (fun x => !bigW x) <;> simp_all
  · unfold m_laurelref01_Check_L0
    rw [if_pos (by omega), ix_nat default hk]
    simp only [Option.bind_some, off_eq, or_some]
    rw [addc_eq (by omega)]
    simp only [Option.bind_some, bigW, Bool.not_and, ite_bool]
theorem check_L1 {s : Sands} (h : Short s) : iterM FU (m_laurelref01_Check_L1 s) 0 = some (if s.floors.all hgt then .inl () else .inr 3) := by
  have h1 := h.f
  rw [iterM_any0 s.floors.length (fun k => !hgt (s.floors.getD k default)) 3 (fun k hk => ?_) (by unfold m_laurelref01_Check_L1; simp) (FU_lt (by omega))]
  · rw [any_range (p := fun x => !hgt x) (d := default)]
    have := all_not_any (p := fun x => hgt x) (l := s.floors)
    cases h2 : s.floors.any (fun x => !hgt x) <;> simp_all
  · unfold m_laurelref01_Check_L1
    rw [if_pos (by omega), ix_nat default hk]
    simp only [Option.bind_some, off_eq]
    rw [addc_eq (by omega)]
    simp only [Option.bind_some, hgt, ite_bool]
    rfl
theorem check_L2 {s : Sands} (h : Short s) : iterM FU (m_laurelref01_Check_L2 s) 0 = some (if s.sills.all (fun x => hgt x.h) then .inl () else .inr 3) := by
  have h1 := h.s
  rw [iterM_any0 s.sills.length (fun k => !hgt (s.sills.getD k default).h) 3 (fun k hk => ?_) (by unfold m_laurelref01_Check_L2; simp) (FU_lt (by omega))]
  · rw [any_range (p := fun x : Sill => !hgt x.h) (d := default)]
    have := all_not_any (p := fun x : Sill => hgt x.h) (l := s.sills)
    cases h2 : s.sills.any (fun x => !hgt x.h) <;> simp_all
  · unfold m_laurelref01_Check_L2
    rw [if_pos (by omega), ix_nat default hk]
    simp only [Option.bind_some, off_eq]
    rw [addc_eq (by omega)]
    simp only [Option.bind_some, hgt, ite_bool]
    rfl
theorem check_L3 {s : Sands} (h : Short s) : iterM FU (m_laurelref01_Check_L3 s) 1 = some (if (List.range (s.table.length - 1)).all (fun i => decide ((s.table.getD i default).min < (s.table.getD (i + 1) default).min)) then .inl () else .inr 4) ∨ s.table.length = 0 := by
  have h1 := h.t
  by_cases h0 : s.table.length = 0
  · exact .inr h0
  left
  have := iterM_any (f := m_laurelref01_Check_L3 s) 1 (s.table.length - 1) (fun k => decide ((s.table.getD (k + 1) default).min ≤ (s.table.getD k default).min)) (fun _ => 4) (fun k hk => ?_) (by unfold m_laurelref01_Check_L3; rw [if_neg (by omega)]) (N := FU) (FU_lt (by omega))
  · rw [this]
    cases hf : (List.range (s.table.length - 1)).find? (fun k => decide ((s.table.getD (k + 1) default).min ≤ (s.table.getD k default).min)) with
    | none =>
      have h2 : (List.range (s.table.length - 1)).all (fun i => decide ((s.table.getD i default).min < (s.table.getD (i + 1) default).min)) = true := by
        rw [List.all_eq_true]
        intro x hx
        have := List.find?_eq_none.1 hf x hx
        simp only [decide_eq_true_eq] at this ⊢
        omega
      rw [h2]; rfl
    | some k =>
      have h3 := List.find?_some hf
      have h4 := List.mem_of_find?_eq_some hf
      have h2 : (List.range (s.table.length - 1)).all (fun i => decide ((s.table.getD i default).min < (s.table.getD (i + 1) default).min)) = false := by
        rw [List.all_eq_false]
        refine ⟨k, h4, ?_⟩
        simp only [decide_eq_true_eq] at h3 ⊢
        omega
      rw [h2]; rfl
  · unfold m_laurelref01_Check_L3
    rw [if_pos (by omega), show (1 : Int) + (k : Int) = ((k + 1 : Nat) : Int) by omega, ix_nat default (by omega), subc_eq (by omega)]
    simp only [Option.bind_some]
    rw [show ((k + 1 : Nat) : Int) - 1 = (k : Int) by omega, ix_nat default (by omega), addc_eq (by omega)]
    simp only [Option.bind_some]
    rw [ite_dec, show ((k + 1 : Nat) : Int) + 1 = (1 : Int) + (k : Int) + 1 by omega]
theorem check_L4 {s : Sands} (h : Short s) : iterM FU (m_laurelref01_Check_L4 s) 0 = some (if s.sills.all (fun x => inr x.a (-1) ((s.floors.length : Int) - 1) && inr x.b (-1) ((s.floors.length : Int) - 1)) then .inl () else .inr 1) := by
  have h1 := h.s
  have h2 := h.f
  rw [iterM_any0 s.sills.length (fun k => !((fun x : Sill => inr x.a (-1) ((s.floors.length : Int) - 1) && inr x.b (-1) ((s.floors.length : Int) - 1)) (s.sills.getD k default))) 1 (fun k hk => ?_) (by unfold m_laurelref01_Check_L4; simp) (FU_lt (by omega))]
  · rw [any_range (p := fun x : Sill => !((fun x : Sill => inr x.a (-1) ((s.floors.length : Int) - 1) && inr x.b (-1) ((s.floors.length : Int) - 1)) x)) (d := default)]
    have := all_not_any (p := fun x : Sill => inr x.a (-1) ((s.floors.length : Int) - 1) && inr x.b (-1) ((s.floors.length : Int) - 1)) (l := s.sills)
    rw [← this]
    generalize s.sills.any _ = b
    cases b <;> rfl
  · unfold m_laurelref01_Check_L4
    rw [if_pos (by omega), ix_nat default hk, subc_eq (by omega)]
    simp only [Option.bind_some, off_eq, or_some]
    rw [addc_eq (by omega)]
    simp only [Option.bind_some, Bool.not_and, ite_bool]
theorem check_L5 {s : Sands} (h : Short s) : iterM FU (m_laurelref01_Check_L5 s) 0 = some (if s.sills.all (fun x => !decide (x.a = x.b)) then .inl () else .inr 8) := by
  have h1 := h.s
  rw [iterM_any0 s.sills.length (fun k => !((fun x : Sill => !decide (x.a = x.b)) (s.sills.getD k default))) 8 (fun k hk => ?_) (by unfold m_laurelref01_Check_L5; simp) (FU_lt (by omega))]
  · rw [any_range (p := fun x : Sill => !((fun x : Sill => !decide (x.a = x.b)) x)) (d := default)]
    have := all_not_any (p := fun x : Sill => !decide (x.a = x.b)) (l := s.sills)
    rw [← this]
    generalize s.sills.any _ = b
    cases b <;> rfl
  · unfold m_laurelref01_Check_L5
    rw [if_pos (by omega), ix_nat default hk, addc_eq (by omega)]
    simp only [Option.bind_some]
    rw [ite_dec, Bool.not_not]
theorem isEnd_inr {s : Sands} {p : Int} : isEnd s p = inr p (-1) ((s.floors.length : Int) - 1) ∨ s.floors.length = 0 := by
  by_cases h0 : s.floors.length = 0
  · exact .inr h0
  left
  rw [Bool.eq_iff_iff, isEnd_iff, inr_iff]
  omega
theorem refcheck_eq {s : Sands} (h : Short s) : m_laurelref01_Check s = some (check s) := by
  unfold m_laurelref01_Check check
  simp only [off_eq, Option.bind_some, or_some]
  cases h1 : (!inr (s.table.length : Int) 2 12 || (!inr (s.floors.length : Int) 1 8 || decide (16 < (s.sills.length : Int)))) with
  | true => simp only [Bool.or_assoc, h1, if_true]
  | false =>
    simp only [Bool.or_assoc, h1, Bool.false_eq_true, if_false]
    simp only [Bool.or_eq_false_iff, Bool.not_eq_false', inr_iff] at h1
    rw [check_L0 h]
    cases h2 : s.table.all bigW with
    | false => simp
    | true =>
      simp only [if_true, Option.bind_some, oc_inl, Bool.not_true, Bool.false_eq_true, if_false]
      rw [check_L1 h, check_L2 h]
      cases h3 : (!inr s.wind.lo (-50) 50 || !inr s.wind.hi (-50) 50) with
      | true => simp [← Bool.or_assoc, h3]
      | false =>
        simp only [Bool.false_eq_true, if_false, ← Bool.or_assoc, h3, Bool.false_or]
        cases h4 : s.floors.all hgt with
        | false => simp
        | true =>
          simp only [if_true, Option.bind_some, oc_inl, Bool.not_true, Bool.false_eq_true, if_false]
          cases h5 : s.sills.all (fun x => hgt x.h) with
          | false => simp
          | true =>
            simp only [if_true, Option.bind_some, oc_inl, Bool.not_true, Bool.false_eq_true, if_false]
            rcases check_L3 h with h6 | h6
            · rw [h6]
              unfold ordered
              cases h7 : (List.range (s.table.length - 1)).all (fun i => decide ((s.table.getD i default).min < (s.table.getD (i + 1) default).min)) with
              | false => simp
              | true =>
                simp only [if_true, Option.bind_some, oc_inl, Bool.true_and]
                by_cases h8 : s.wind.hi < s.wind.lo
                · have h9 : decide (s.wind.lo ≤ s.wind.hi) = false := decide_eq_false (by omega)
                  rw [if_pos h8]; simp [h9]
                · have h9 : decide (s.wind.lo ≤ s.wind.hi) = true := decide_eq_true (by omega)
                  rw [if_neg h8, h9]
                  simp only [Bool.not_true, Bool.false_eq_true, if_false]
                  rw [check_L4 h, check_L5 h]
                  have hend : (fun x : Sill => isEnd s x.a && isEnd s x.b) = (fun x : Sill => inr x.a (-1) ((s.floors.length : Int) - 1) && inr x.b (-1) ((s.floors.length : Int) - 1)) := by
                    funext x
                    rcases isEnd_inr (s := s) (p := x.a) with e1 | e1
                    · rcases isEnd_inr (s := s) (p := x.b) with e2 | e2
                      · rw [e1, e2]
                      · omega
                    · omega
                  rw [hend]
                  cases s.sills.all (fun x : Sill => inr x.a (-1) ((s.floors.length : Int) - 1) && inr x.b (-1) ((s.floors.length : Int) - 1)) with
                  | false => simp
                  | true =>
                    cases s.sills.all (fun x => !decide (x.a = x.b)) <;> simp
            · omega
end Go.Proofs.Wk

namespace Go.Proofs.Wk
open Go Go.Gx Go.Pl
set_option linter.unusedVariables false
theorem reffirst_eq {s : Sands} (h : 0 < s.table.length) : m_laurelref01_First s = some (firstM s) := by
  unfold m_laurelref01_First
  rw [show (0 : Int) = ((0 : Nat) : Int) from rfl, ix_nat default h]
  rfl
theorem reflast_eq {s : Sands} (hs : Short s) (h : 0 < s.table.length) : m_laurelref01_Last s = some (lastM s) := by
  have h1 := hs.t
  unfold m_laurelref01_Last
  rw [subc_eq (by omega), Option.bind_some, show (s.table.length : Int) - 1 = ((s.table.length - 1 : Nat) : Int) by omega, ix_nat default (by omega)]
  rfl
theorem minute_eq {s : Sands} (hs : Short s) (h : 0 < s.table.length) {m : Int} : m_laurelref01_Minute s m = some (if dayF s m = true then 0 else 3) := by
  unfold m_laurelref01_Minute
  rw [reffirst_eq h, reflast_eq hs h]
  simp only [Option.bind_some, off_eq]
  have : dayF s m = inr m (firstM s) (lastM s) := rfl
  rw [this]
  cases inr m (firstM s) (lastM s) <;> rfl
/-- the line, rounded down -/
theorem line_floor {a b : Water} {m : Int} (hab : a.min < m ∧ m < b.min) (ha : 0 ≤ a.h ∧ a.h ≤ 999) (hb : 0 ≤ b.h ∧ b.h ≤ 999) : lineAt a b m = a.h + (b.h - a.h) * (m - a.min) / (b.min - a.min) := by
  unfold lineAt
  have hn : 0 < b.min - a.min := by omega
  have h1 : (-999) * (m - a.min) ≤ (b.h - a.h) * (m - a.min) := Int.mul_le_mul_of_nonneg_right (by omega) (by omega)
  have h2 : 0 ≤ a.h * (b.min - a.min) := Int.mul_nonneg ha.1 (by omega)
  rw [Int.tdiv_eq_ediv_of_nonneg (by omega)]
  have h3 : a.h * (b.min - a.min) + (b.h - a.h) * (m - a.min) + 1000 * (b.min - a.min) = (b.h - a.h) * (m - a.min) + (a.h + 1000) * (b.min - a.min) := by
    rw [Int.add_mul]; omega
  rw [h3, Int.add_mul_ediv_right _ _ (by omega)]
  omega
theorem refheight_L2 {a b : Water} {m : Int} (hab : a.min < m ∧ m < b.min) (hm : 0 ≤ a.min ∧ b.min ≤ 1440) (ha : 0 ≤ a.h ∧ a.h ≤ 999) (hb : 0 ≤ b.h ∧ b.h ≤ 999) : iterM FU (m_laurelref01_Height_L2 ⟨a, b⟩ m) (min a.h b.h) = some (lineAt a b m) := by
  have hl := line_tight hab ha hb
  have hf := line_floor hab ha hb
  generalize hN : b.min - a.min = N at *
  generalize hT : m - a.min = t at *
  have ht : 0 < t ∧ t < N := by omega
  have hNN : N ≤ 1440 := by omega
  have hr1 : (b.h - a.h) * t ≤ 999 * 1440 := Int.le_trans (Int.mul_le_mul_of_nonneg_right (show b.h - a.h ≤ 999 by omega) (by omega)) (Int.mul_le_mul_of_nonneg_left (by omega) (by omega))
  have hr2 : -(999 * 1440) ≤ (b.h - a.h) * t := by
    have h1 : (-999) * t ≤ (b.h - a.h) * t := Int.mul_le_mul_of_nonneg_right (by omega) (by omega)
    omega
  generalize hr : (b.h - a.h) * t = r at *
  have hd := Int.mul_ediv_add_emod r N
  have hd1 := Int.emod_nonneg r (show N ≠ 0 by omega)
  have hd2 := Int.emod_lt_of_pos r (show 0 < N by omega)
  obtain ⟨o, h1, h2⟩ := iterM_inv (f := m_laurelref01_Height_L2 ⟨a, b⟩ m) (fun n => 0 ≤ n ∧ n ≤ 999 ∧ (n - a.h) * N ≤ r) (fun n => (1000 - n).toNat) (fun o => o = lineAt a b m) (fun n hn => by
    obtain ⟨hn0, hn1, hn2⟩ := hn
    have hb1 : (n + 1 - a.h) * N ≤ 1000 * 1440 := Int.le_trans (Int.mul_le_mul_of_nonneg_right (show n + 1 - a.h ≤ 1000 by omega) (by omega)) (Int.mul_le_mul_of_nonneg_left (by omega) (by omega))
    have hb2 : (-1000) * 1440 ≤ (n + 1 - a.h) * N := by
      have h1 : (-1000) * N ≤ (n + 1 - a.h) * N := Int.mul_le_mul_of_nonneg_right (by omega) (by omega)
      omega
    have e1 : addc n 1 = some (n + 1) := addc_eq (by omega)
    have e2 : subc (n + 1) a.h = some (n + 1 - a.h) := subc_eq (by omega)
    have e3 : subc b.min a.min = some N := by rw [subc_eq (by omega), hN]
    have e4 : mulc (n + 1 - a.h) N = some ((n + 1 - a.h) * N) := mulc_eq (by omega)
    have e5 : subc b.h a.h = some (b.h - a.h) := subc_eq (by omega)
    have e6 : subc m a.min = some t := by rw [subc_eq (by omega), hT]
    have e7 : mulc (b.h - a.h) t = some r := by rw [mulc_eq (by rw [hr]; omega), hr]
    unfold m_laurelref01_Height_L2
    simp only [e1, e2, e3, e4, e5, e6, e7, Option.bind_some]
    by_cases hc : (n + 1 - a.h) * N ≤ r
    · left
      rw [if_pos hc]
      refine ⟨n + 1, rfl, ⟨by omega, ?_, hc⟩, by omega⟩
      -- n + 1 is not above the line
      have h3 : n + 1 - a.h ≤ r / N := (Int.le_ediv_iff_mul_le (by omega)).2 hc
      omega
    · right
      rw [if_neg hc]
      refine ⟨n, rfl, ?_⟩
      have h3 : n - a.h ≤ r / N := (Int.le_ediv_iff_mul_le (by omega)).2 hn2
      have h4 : r / N < n + 1 - a.h := (Int.ediv_lt_iff_lt_mul (by omega)).2 (by omega)
      omega) FU (min a.h b.h) (FU_lt (by omega)) ⟨by omega, by omega, by
        by_cases hab2 : a.h ≤ b.h
        · rw [Int.min_eq_left hab2]
          have : 0 ≤ (b.h - a.h) * t := Int.mul_nonneg (by omega) (by omega)
          rw [show a.h - a.h = 0 by omega, Int.zero_mul]
          omega
        · rw [Int.min_eq_right (by omega)]
          have h5 : (a.h - b.h) * t ≤ (a.h - b.h) * N := Int.mul_le_mul_of_nonneg_left (by omega) (by omega)
          have h6 : (b.h - a.h) * t = -((a.h - b.h) * t) := by rw [← Int.neg_mul]; congr 1; omega
          have h7 : (b.h - a.h) * N = -((a.h - b.h) * N) := by rw [← Int.neg_mul]; congr 1; omega
          omega⟩
  rw [h1, h2]
theorem refheight_eq {s : Sands} (hG : Good s) {m : Int} (hd : dayF s m = true) : m_laurelref01_Height s m = some (heightF s m) := by
  have hs := Good.short hG
  have h1 := hs.t
  have htl := hG.tl
  obtain ⟨j, ej, hj, hm, hl, hj0⟩ := day_idx hG hd
  have mono := fun {i k : Nat} (hik : i < k) (hk : k < s.table.length) => min_mono hG hik hk
  unfold m_laurelref01_Height
  have hL0 := iterM_any (f := m_laurelref01_Height_L0 s m) 0 s.table.length (fun k => decide ((s.table.getD k default).min = m)) (fun k => (s.table.getD k default).h) (fun k hk => by
    unfold m_laurelref01_Height_L0
    rw [Int.zero_add, if_pos (by omega), ix_nat default hk]
    simp only [Option.bind_some]
    rw [addc_eq (by omega)]
    simp only [Option.bind_some]
    rw [ite_dec]) (by unfold m_laurelref01_Height_L0; rw [if_neg (by omega)]) (N := FU) (FU_lt (by omega))
  rw [hL0]
  by_cases he : (s.table.getD j default).min = m
  · -- a minute of the table
    have hf : (List.range s.table.length).find? (fun k => decide ((s.table.getD k default).min = m)) = some j := by
      rw [List.find?_range_eq_some]
      refine ⟨by simpa using he, by simpa using hj, fun i hi => ?_⟩
      have := hl i hi
      simp only [Bool.not_eq_true', decide_eq_false_iff_not]
      omega
    rw [hf]
    simp only [Option.bind_some, oc_inr]
    rw [height_eq hj hl he]
  · have hj1 : j ≠ 0 := fun h => he (hj0 h)
    have hf : (List.range s.table.length).find? (fun k => decide ((s.table.getD k default).min = m)) = none := by
      rw [List.find?_eq_none]
      intro k hk
      have hk' : k < s.table.length := by simpa using hk
      simp only [decide_eq_true_eq]
      by_cases hkj : k < j
      · have := hl k hkj; omega
      · by_cases hkj2 : k = j
        · subst hkj2; exact he
        · have := mono (show j < k by omega) hk'; omega
    rw [hf]
    simp only [Option.bind_some, oc_inl]
    have h2 := hl (j - 1) (by omega)
    have ha := hG.tab (j - 1) (by omega)
    have hb := hG.tab j hj
    have hL1 : iterM FU (m_laurelref01_Height_L1 s m) 0 = some ((j - 1 : Nat) : Int) := by
      refine iterM_run (fun k => (k : Int)) (j - 1) (fun k hk => ?_) ?_ FU (FU_lt (by omega))
      · unfold m_laurelref01_Height_L1
        rw [addc_eq (by omega), Option.bind_some, show (k : Int) + 1 = ((k + 1 : Nat) : Int) by omega, ix_nat default (by omega), Option.bind_some, if_pos (hl (k + 1) (by omega)), Option.bind_some]
      · unfold m_laurelref01_Height_L1
        rw [addc_eq (by omega), Option.bind_some, show ((j - 1 : Nat) : Int) + 1 = ((j : Nat) : Int) by omega, ix_nat default hj, Option.bind_some, if_neg (by omega)]
    rw [hL1]
    simp only [Option.bind_some]
    rw [ix_nat default (by omega), addc_eq (by omega)]
    simp only [Option.bind_some]
    rw [show ((j - 1 : Nat) : Int) + 1 = ((j : Nat) : Int) by omega, ix_nat default hj]
    simp only [Option.bind_some]
    rw [refheight_L2 ⟨h2, by omega⟩ ⟨by omega, by omega⟩ ha.2 hb.2, height_line hG hj hl (by omega) hj1]
    rfl
end Go.Proofs.Wk

namespace Go.Proofs.Wk
open Go Go.Gx Go.Pl
set_option linter.unusedVariables false
/-! ### the reference's states and spans -/
theorem refstate_eq {s : Sands} (hw : -50 ≤ s.wind.lo ∧ s.wind.lo ≤ s.wind.hi ∧ s.wind.hi ≤ 50) {h g : Int} (hh : 0 ≤ h ∧ h ≤ 999) (hg : 0 ≤ g ∧ g ≤ 5000) :
    m_laurelref01_State s h g = some (if h + s.wind.hi ≤ g then 0 else if g < h + s.wind.lo then 2 else 1) := by
  unfold m_laurelref01_State
  obtain ⟨b, hb, hQ⟩ := iterM_inv (f := m_laurelref01_State_L0 s h g) (fun x => (s.wind.lo ≤ x.w9 ∧ x.w9 ≤ s.wind.hi + 1) ∧ x.dry7 = max 0 (min (x.w9 - 1) (g - h) - s.wind.lo + 1) ∧ x.wet8 = x.w9 - s.wind.lo - x.dry7) (fun x => (s.wind.hi + 1 - x.w9).toNat) (fun b => b.dry7 = max 0 (min s.wind.hi (g - h) - s.wind.lo + 1) ∧ b.wet8 = s.wind.hi + 1 - s.wind.lo - b.dry7)
    (fun x hx => by
      obtain ⟨d, t, w⟩ := x
      simp only at hx
      obtain ⟨hw9, hd, ht⟩ := hx
      unfold m_laurelref01_State_L0
      dsimp only
      by_cases hlt : w ≤ s.wind.hi
      · left
        rw [if_pos hlt, addc_eq (by omega), Option.bind_some]
        by_cases hgt : g < h + w
        · rw [if_pos hgt, addc_eq (by omega), Option.bind_some, Option.bind_some, addc_eq (by omega), Option.bind_some]
          exact ⟨_, rfl, ⟨by simp only; omega, by simp only; omega, by simp only; omega⟩, by simp only; omega⟩
        · rw [if_neg hgt, addc_eq (by omega), Option.bind_some, Option.bind_some, addc_eq (by omega), Option.bind_some]
          exact ⟨_, rfl, ⟨by simp only; omega, by simp only; omega, by simp only; omega⟩, by simp only; omega⟩
      · right
        rw [if_neg hlt]
        refine ⟨_, rfl, ?_, ?_⟩
        · simp only; rw [hd]; congr 1; omega
        · simp only; omega) FU ⟨0, 0, s.wind.lo⟩ (FU_lt (by simp only; omega)) ⟨by simp only; omega, by simp only; omega, by simp only; omega⟩
  rw [hb, Option.bind_some]
  obtain ⟨h1, h2⟩ := hQ
  by_cases hdry : h + s.wind.hi ≤ g
  · rw [if_pos (by omega), if_pos hdry]
  · rw [if_neg (by omega), if_neg hdry]
    by_cases hwet : g < h + s.wind.lo
    · rw [if_pos (by omega), if_pos hwet]
    · rw [if_neg (by omega), if_neg hwet]
theorem refstate_gate {s : Sands} (hG : Good s) {m g : Int} (hd : dayF s m = true) (hg : 0 ≤ g ∧ g ≤ 1000) : m_laurelref01_State s (heightF s m) (refGate g) = some (stateG s g m) := by
  have hlo := hG.lo
  have hhi := hG.hi
  have hw := hG.wind
  have hh := height_tight hG hd
  have hr : 0 ≤ refGate g ∧ refGate g ≤ 5000 := by unfold refGate; split <;> omega
  rw [refstate_eq ⟨hlo.1, hw, hhi.2⟩ hh hr]
  congr 1
  unfold refGate stateG levelF
  simp only
  by_cases h : g = 1000
  · rw [if_pos h, if_pos (by omega), if_pos (.inl h)]
  · rw [if_neg h]
    by_cases h2 : heightF s m + s.wind.hi ≤ g
    · rw [if_pos h2, if_pos (.inr h2)]
    · rw [if_neg h2, if_neg (show ¬ (g = 1000 ∨ heightF s m + s.wind.hi ≤ g) by omega)]
/-- a list over the day's minutes -/
def dayL {α : Type} (s : Sands) (f : Int → α) (k : Nat) : List α := (List.range k).map (fun i : Nat => f (firstM s + (i : Int)))
theorem dayL_len {α : Type} {s : Sands} {f : Int → α} {k : Nat} : (dayL s f k).length = k := by simp [dayL]
theorem dayL_succ {α : Type} {s : Sands} {f : Int → α} {k : Nat} : dayL s f (k + 1) = dayL s f k ++ [f (firstM s + (k : Int))] := by simp [dayL, List.range_succ]
theorem dayL_ix {α : Type} {s : Sands} {f : Int → α} {k : Nat} {i : Int} (h0 : 0 ≤ i) (h1 : i < k) : ix (dayL s f k) i = some (f (firstM s + i)) := by
  rw [ix_eq (f (firstM s)) h0 (by rw [dayL_len]; exact h1)]
  congr 1
  have hlt : i.toNat < k := by omega
  simp [dayL, List.getD_eq_getElem?_getD, hlt]
  congr 1
  omega
theorem dayN_eq {s : Sands} (hG : Good s) : ((dayN s : Nat) : Int) = lastM s - firstM s + 1 := by
  have := day_span hG
  unfold dayN; omega
theorem refheights_eq {s : Sands} (hG : Good s) : m_laurelref01_Heights s = some (dayL s (heightF s) (dayN s)) := by
  have htl := hG.tl
  have hds := day_span hG
  have hn := dayN_eq hG
  unfold m_laurelref01_Heights
  rw [reffirst_eq (by omega), Option.bind_some]
  have key : iterM FU (m_laurelref01_Heights_L0 s) ⟨firstM s, []⟩ = some (dayL s (heightF s) (dayN s)) := by
    have hz : (⟨firstM s, []⟩ : m_laurelref01_Heights_S0) = (fun k : Nat => (⟨firstM s + (k : Int), dayL s (heightF s) k⟩ : m_laurelref01_Heights_S0)) 0 := by simp [dayL]
    rw [hz]
    refine iterM_run (fun k : Nat => (⟨firstM s + (k : Int), dayL s (heightF s) k⟩ : m_laurelref01_Heights_S0)) (dayN s) (fun k hk => ?_) ?_ FU (FU_lt (by omega))
    · unfold m_laurelref01_Heights_L0
      dsimp only
      rw [reflast_eq (Good.short hG) (by omega), Option.bind_some, if_pos (by omega), refheight_eq hG (by simp only [dayF, inr_iff]; omega), Option.bind_some, appc_eq (by rw [dayL_len, List.length_singleton]; omega), Option.bind_some, addc_eq (by omega), Option.bind_some, dayL_succ]
      exact congrArg (fun z => some (Sum.inl (⟨z, _⟩ : m_laurelref01_Heights_S0))) (by omega)
    · unfold m_laurelref01_Heights_L0
      dsimp only
      rw [reflast_eq (Good.short hG) (by omega), Option.bind_some, if_neg (by omega)]
  rw [key, Option.bind_some]
theorem refsays_eq {s : Sands} (hG : Good s) {p st : Int} (hp : isPlace s p = true) : m_laurelref01_Says s (refGate ((gatesOf s).getD p.toNat 0)) st = some (dayL s (isState s p st) (dayN s)) := by
  have htl := hG.tl
  have hds := day_span hG
  have hn := dayN_eq hG
  have hgo := gates_ok (s := s)
  unfold m_laurelref01_Says
  rw [refheights_eq hG, Option.bind_some]
  have key : iterM FU (m_laurelref01_Says_L0 (dayL s (heightF s) (dayN s)) s (refGate ((gatesOf s).getD p.toNat 0)) st) ⟨0, []⟩ = some (dayL s (isState s p st) (dayN s)) := by
    have hz : (⟨0, []⟩ : m_laurelref01_Says_S0) = (fun k : Nat => (⟨(k : Int), dayL s (isState s p st) k⟩ : m_laurelref01_Says_S0)) 0 := by simp [dayL]
    rw [hz]
    refine iterM_run (fun k : Nat => (⟨(k : Int), dayL s (isState s p st) k⟩ : m_laurelref01_Says_S0)) (dayN s) (fun k hk => ?_) ?_ FU (FU_lt (by omega))
    · unfold m_laurelref01_Says_L0
      dsimp only
      rw [dayL_len, if_pos (by omega), dayL_ix (by omega) (by omega), Option.bind_some, refstate_gate hG (by simp only [dayF, inr_iff]; omega) ⟨hgo.lo _, hgo.hi _⟩, Option.bind_some, appc_eq (by rw [dayL_len, List.length_singleton]; omega), Option.bind_some, addc_eq (by omega), Option.bind_some, dayL_succ]
      rfl
    · unfold m_laurelref01_Says_L0
      dsimp only
      rw [dayL_len, if_neg (by omega)]
  rw [key, Option.bind_some]
/-- the longest run around a minute -/
structure RunOf (s : Sands) (p : Int → Bool) (m : Int) (y : Span) : Prop where
  lo : firstM s ≤ y.lo ∧ y.lo ≤ m
  hi : m ≤ y.hi ∧ y.hi ≤ lastM s
  al : ∀ i, y.lo ≤ i → i ≤ y.hi → p i = true
  lm : y.lo = firstM s ∨ p (y.lo - 1) = false
  hm : y.hi = lastM s ∨ p (y.hi + 1) = false
theorem run_ok {s : Sands} (hG : Good s) {p : Int → Bool} {m : Int} (hd : dayF s m = true) :
    (p m = false → m_laurelref01_Run s (dayL s p (dayN s)) m = some ⟨⟨0, 0⟩, false⟩) ∧ (p m = true → ∃ y, m_laurelref01_Run s (dayL s p (dayN s)) m = some ⟨y, true⟩ ∧ RunOf s p m y) := by
  have htl := hG.tl
  have hds := day_span hG
  have hn := dayN_eq hG
  have hd' := hd
  simp only [dayF, inr_iff] at hd'
  have hix : ix (dayL s p (dayN s)) (m - firstM s) = some (p m) := by
    rw [dayL_ix (by omega) (by omega)]
    congr 2
    omega
  unfold m_laurelref01_Run
  rw [reffirst_eq (by omega), Option.bind_some, subc_eq (by omega), Option.bind_some, hix, Option.bind_some]
  refine ⟨fun hp => by rw [hp, if_pos (by decide)], fun hp => ?_⟩
  rw [hp, if_neg (by decide)]
  obtain ⟨a, ha, hQa⟩ := iterM_inv (f := m_laurelref01_Run_L0 (dayL s p (dayN s))) (fun j => (0 ≤ j ∧ j ≤ m - firstM s) ∧ ∀ i, firstM s + j ≤ i → i ≤ m → p i = true) (fun j => j.toNat) (fun b => ((0 ≤ b ∧ b ≤ m - firstM s) ∧ ∀ i, firstM s + b ≤ i → i ≤ m → p i = true) ∧ (b = 0 ∨ p (firstM s + b - 1) = false))
    (fun j ⟨hj, hall⟩ => by
      unfold m_laurelref01_Run_L0
      by_cases h0 : 0 < j
      · rw [if_pos h0, subc_eq (by omega), Option.bind_some, dayL_ix (by omega) (by omega), Option.bind_some, Option.bind_some]
        cases hpj : p (firstM s + (j - 1)) with
        | true =>
          left
          rw [if_pos rfl, Option.bind_some]
          refine ⟨_, rfl, ⟨by omega, fun i h1 h2 => ?_⟩, by omega⟩
          by_cases hi : i = firstM s + (j - 1)
          · rw [hi, hpj]
          · exact hall i (by omega) h2
        | false =>
          right
          rw [if_neg (by decide)]
          exact ⟨_, rfl, ⟨hj, hall⟩, .inr (by rw [← hpj]; congr 1; omega)⟩
      · right
        rw [if_neg h0, Option.bind_some, if_neg (by decide)]
        exact ⟨_, rfl, ⟨hj, hall⟩, .inl (by omega)⟩) FU (m - firstM s) (FU_lt (by omega)) ⟨by omega, fun i h1 h2 => by rw [show i = m by omega]; exact hp⟩
  obtain ⟨b, hb, hQb⟩ := iterM_inv (f := m_laurelref01_Run_L1 (dayL s p (dayN s))) (fun j => (m - firstM s ≤ j ∧ j ≤ lastM s - firstM s) ∧ ∀ i, m ≤ i → i ≤ firstM s + j → p i = true) (fun j => (lastM s - firstM s - j).toNat) (fun b => ((m - firstM s ≤ b ∧ b ≤ lastM s - firstM s) ∧ ∀ i, m ≤ i → i ≤ firstM s + b → p i = true) ∧ (b = lastM s - firstM s ∨ p (firstM s + b + 1) = false))
    (fun j ⟨hj, hall⟩ => by
      unfold m_laurelref01_Run_L1
      rw [dayL_len, subc_eq (by omega), Option.bind_some]
      by_cases h0 : j < ((dayN s : Nat) : Int) - 1
      · rw [if_pos h0, addc_eq (by omega), Option.bind_some, dayL_ix (by omega) (by omega), Option.bind_some, Option.bind_some]
        cases hpj : p (firstM s + (j + 1)) with
        | true =>
          left
          rw [if_pos rfl, Option.bind_some]
          refine ⟨_, rfl, ⟨by omega, fun i h1 h2 => ?_⟩, by omega⟩
          by_cases hi : i = firstM s + (j + 1)
          · rw [hi, hpj]
          · exact hall i h1 (by omega)
        | false =>
          right
          rw [if_neg (by decide)]
          exact ⟨_, rfl, ⟨hj, hall⟩, .inr (by rw [← hpj]; congr 1; omega)⟩
      · right
        rw [if_neg h0, Option.bind_some, if_neg (by decide)]
        exact ⟨_, rfl, ⟨hj, hall⟩, .inl (by omega)⟩) FU (m - firstM s) (FU_lt (by omega)) ⟨by omega, fun i h1 h2 => by rw [show i = m by omega]; exact hp⟩
  rw [ha, Option.bind_some, hb, Option.bind_some, Option.bind_some, addc_eq (by omega), Option.bind_some, Option.bind_some, addc_eq (by omega), Option.bind_some]
  obtain ⟨⟨a1, a2⟩, a3⟩ := hQa
  obtain ⟨⟨b1, b2⟩, b3⟩ := hQb
  refine ⟨_, rfl, by simp only; omega, by simp only; omega, fun i h1 h2 => ?_, ?_, ?_⟩
  · simp only at h1 h2
    by_cases hi : i ≤ m
    · exact a2 i h1 hi
    · exact b2 i (by omega) h2
  · rcases a3 with h | h
    · left; simp only; omega
    · right; simp only; exact h
  · rcases b3 with h | h
    · left; simp only; omega
    · right; simp only; exact h
/-- all runs, as the reference lists them -/
theorem refspans_eq {s : Sands} (hG : Good s) {p : Int → Bool} : m_laurelref01_Spans s (dayL s p (dayN s)) = some (spansF s p) := by
  have htl := hG.tl
  have hds := day_span hG
  have hn := dayN_eq hG
  unfold m_laurelref01_Spans
  rw [reffirst_eq (by omega), Option.bind_some]
  obtain ⟨b, hb, hQ⟩ := iterM_inv (f := m_laurelref01_Spans_L0 s (dayL s p (dayN s)))
    (fun x => ∃ k : Nat, x.minute6 = firstM s + (k : Int) ∧ k ≤ dayN s ∧ ((spansN p (firstM s) k).op = false → x.out5 = (spansN p (firstM s) k).acc) ∧ ((spansN p (firstM s) k).op = true → ∃ E, x.out5 = (spansN p (firstM s) k).acc ++ [⟨(spansN p (firstM s) k).fr, E⟩] ∧ (firstM s + (k : Int) - 1 ≤ E ∧ E ≤ lastM s) ∧ (∀ i, firstM s + (k : Int) - 1 ≤ i → i ≤ E → p i = true) ∧ (E = lastM s ∨ p (E + 1) = false)))
    (fun x => (lastM s + 1 - x.minute6).toNat) (fun b => b = spansF s p)
    (fun x ⟨k, hm, hk, h0, h1⟩ => by
      obtain ⟨m, out⟩ := x
      simp only at hm h0 h1
      have hsi := si_n (p := p) (a := firstM s) k
      have hsl := spansN_len (p := p) (a := firstM s) (k := k)
      have hlen : out.length ≤ 2000 := by
        cases ho : (spansN p (firstM s) k).op with
        | false => rw [h0 ho]; omega
        | true =>
          obtain ⟨E, h2, _⟩ := h1 ho
          rw [h2]
          simp only [List.length_append, List.length_singleton]
          omega
      unfold m_laurelref01_Spans_L0
      dsimp only
      rw [reflast_eq (Good.short hG) (by omega), Option.bind_some]
      by_cases hlt : m ≤ lastM s
      · left
        have hd : dayF s m = true := by simp only [dayF, inr_iff]; omega
        obtain ⟨r0, r1⟩ := run_ok hG (p := p) hd
        have hsucc := spansN_succ (p := p) (a := firstM s) (k := k)
        rw [if_pos hlt]
        cases hp : p m with
        | false =>
          rw [r0 hp, Option.bind_some, if_neg (fun h => absurd (show false = true from h) (by decide)), Option.bind_some, if_neg (by decide), Option.bind_some, addc_eq (by omega), Option.bind_some]
          refine ⟨_, rfl, ⟨k + 1, by simp only; omega, by omega, ?_⟩, by simp only; omega⟩
          simp only
          rw [hsucc, ← hm]
          generalize spansN p (firstM s) k = X at h0 h1 hsi
          have e : spanStep p X m = shutF X m := stepF hp
          rw [e]
          unfold shutF
          cases ho : X.op with
          | false => exact ⟨fun _ => h0 ho, fun h => by simp at h⟩
          | true =>
            refine ⟨fun _ => ?_, fun h => by simp at h⟩
            obtain ⟨E, h2, h3, h4, h5⟩ := h1 ho
            have hE : E = m - 1 := by
              refine Classical.byContradiction fun hc => ?_
              have := h4 m (by omega) (by omega)
              rw [hp] at this
              exact absurd this (by decide)
            subst hE
            exact h2
        | true =>
          obtain ⟨y, hy, hr⟩ := r1 hp
          rw [hy, Option.bind_some, if_pos (show (⟨y, true⟩ : m_laurelref01_Run_R).r1 = true from rfl), Option.bind_some]
          generalize hX : spansN p (firstM s) k = X at h0 h1 hsi hsucc
          have e : spanStep p X m = match X.op with | false => ⟨X.acc, m, true⟩ | true => X := by unfold spanStep; rw [hp]; rfl
          cases ho : X.op with
          | false =>
            have hlo : y.lo = m := by
              refine Classical.byContradiction fun hc => ?_
              have h6 := hr.lo
              rcases hsi.shut ho with h7 | h7
              · omega
              · have := hr.al (m - 1) (by omega) (by have := hr.hi; omega)
                rw [← hm] at h7
                rw [h7] at this
                exact absurd this (by decide)
            rw [decide_eq_true (show (⟨y, true⟩ : m_laurelref01_Run_R).r0.lo = m from hlo), if_pos rfl, appc_eq (by simp only [List.length_singleton]; omega), Option.bind_some, Option.bind_some, addc_eq (by omega), Option.bind_some]
            refine ⟨_, rfl, ⟨k + 1, by simp only; omega, by omega, ?_⟩, by simp only; omega⟩
            simp only
            rw [hsucc, ← hm, e, ho]
            refine ⟨fun h => by simp at h, fun _ => ⟨y.hi, ?_, ?_, ?_, hr.hm⟩⟩
            · simp only
              rw [h0 ho, ← hlo]
            · have := hr.hi; omega
            · intro i h6 h7
              exact hr.al i (by omega) h7
          | true =>
            have hop := hsi.op ho
            have hlo : y.lo ≠ m := by
              intro hc
              have h6 := hop.2.2.1 (m - 1) (by omega) (by omega)
              rcases hr.lm with h7 | h7
              · omega
              · rw [hc, h6] at h7
                exact absurd h7 (by decide)
            rw [decide_eq_false (show ¬ ((⟨y, true⟩ : m_laurelref01_Run_R).r0.lo = m) from hlo), if_neg (by decide), Option.bind_some, addc_eq (by omega), Option.bind_some]
            refine ⟨_, rfl, ⟨k + 1, by simp only; omega, by omega, ?_⟩, by simp only; omega⟩
            simp only
            rw [hsucc, ← hm, e, ho]
            refine ⟨fun h => by rw [ho] at h; simp at h, fun _ => ?_⟩
            obtain ⟨E, h2, h3, h4, h5⟩ := h1 ho
            have hE : m ≤ E := by
              refine Classical.byContradiction fun hc => ?_
              have hE' : E + 1 = m := by omega
              rcases h5 with h5 | h5
              · omega
              · rw [hE', hp] at h5
                exact absurd h5 (by decide)
            exact ⟨E, h2, ⟨by omega, h3.2⟩, fun i h6 h7 => h4 i (by omega) h7, h5⟩
      · right
        rw [if_neg hlt]
        refine ⟨_, rfl, ?_⟩
        have hkn : k = dayN s := by omega
        subst hkn
        unfold spansF
        generalize spansN p (firstM s) (dayN s) = X at h0 h1 hsi
        unfold shutF
        cases ho : X.op with
        | false => exact h0 ho
        | true =>
          obtain ⟨E, h2, h3, h4, h5⟩ := h1 ho
          rw [h2]
          have : E = lastM s + 1 - 1 := by omega
          rw [this]) FU ⟨firstM s, []⟩ (FU_lt (by simp only; omega)) ⟨0, by simp, by omega, fun _ => rfl, fun h => by simp [spansN] at h⟩
  rw [hb, Option.bind_some, hQ]
end Go.Proofs.Wk

namespace Go.Proofs.Wk
open Go Go.Gx Go.Pl
set_option linter.unusedVariables false
theorem equal_span (a : List Span) (ha : a.length ≤ 1000000) : m_laurelkit_Eq_apiSpan a a = some true := by
  unfold m_laurelkit_Eq_apiSpan m_slices_Equal_apiSpanapiSpan
  have key := iterM_any0 (f := m_slices_Equal_apiSpanapiSpan_L0 a a) a.length (fun _ => false) false (fun k hk => by
    unfold m_slices_Equal_apiSpanapiSpan_L0
    rw [if_pos (by omega), ix_nat default hk, Option.bind_some, Option.bind_some, if_pos rfl, addc_eq (by omega), Option.bind_some]
    rfl) (by
    unfold m_slices_Equal_apiSpanapiSpan_L0
    rw [if_neg (by omega)]) (N := FU) (FU_lt (by omega))
  have : (List.range a.length).any (fun _ => false) = false := by simp
  rw [if_pos rfl, key, this, if_neg (by decide), Option.bind_some]
  unfold oc
  simp only
  rw [Option.bind_some]
theorem place_eq {s : Sands} (hs : Short s) {p : Int} : m_laurelref01_Place s p = some (if isPlace s p = true then 0 else 1) := by
  have h2 := hs.f
  unfold m_laurelref01_Place
  rw [subc_eq (by omega), Option.bind_some, off_eq, Option.bind_some]
  unfold isPlace
  cases inr p 0 ((s.floors.length : Int) - 1) <;> rfl
theorem wide_ok {s : Sands} : ∃ b, m_laurellaw01_wide s = some b ∧ (b = false → s.table.length ≤ 20 ∧ s.floors.length ≤ 20 ∧ s.sills.length ≤ 30) := by
  unfold m_laurellaw01_wide
  by_cases h1 : 20 < (s.table.length : Int)
  · rw [if_pos h1, Option.bind_some]; exact ⟨_, rfl, by simp⟩
  rw [if_neg h1]
  by_cases h2 : 20 < (s.floors.length : Int)
  · rw [if_pos h2, Option.bind_some]; exact ⟨_, rfl, by simp⟩
  rw [if_neg h2]
  by_cases h3 : 30 < (s.sills.length : Int)
  · rw [if_pos h3, Option.bind_some]; exact ⟨_, rfl, by simp⟩
  rw [if_neg h3]
  by_cases h4 : 8 < (s.sills.length : Int)
  · rw [if_pos h4, Option.bind_some]; exact ⟨_, rfl, fun _ => by omega⟩
  · rw [if_neg h4, Option.bind_some]; exact ⟨_, rfl, fun _ => by omega⟩
theorem large_ok {s : Sands} : ∃ b, m_laurellaw01_large s = some b ∧ (b = false → Short s) := by
  obtain ⟨b, hb, hw⟩ := wide_ok (s := s)
  unfold m_laurellaw01_large
  rw [hb, Option.bind_some, Option.bind_some]
  cases b with
  | true =>
    rw [if_pos rfl, Option.bind_some, if_pos rfl]
    exact ⟨_, rfl, by simp⟩
  | false =>
    obtain ⟨h1, h2, h3⟩ := hw rfl
    have hS : Short s := ⟨by omega, by omega, by omega⟩
    rw [if_neg (by decide), Option.bind_some]
    by_cases h : (s.table.length : Int) = 0
    · rw [decide_eq_true h, if_pos rfl]
      exact ⟨_, rfl, fun _ => hS⟩
    · rw [decide_eq_false h, if_neg (by decide), ix_eq default (by omega) (by omega), Option.bind_some, Go.Fw.wrap_i64 (by omega), ix_eq default (by omega) (by omega), Option.bind_some]
      by_cases h4 : 0 ≤ (s.table.getD (0 : Int).toNat default).min
      · rw [if_pos h4]
        by_cases h5 : (s.table.getD ((s.table.length : Int) - 1).toNat default).min ≤ 1440
        · rw [if_pos h5, Option.bind_some]
          exact ⟨_, rfl, fun _ => hS⟩
        · rw [if_neg h5, Option.bind_some]
          exact ⟨_, rfl, fun _ => hS⟩
      · rw [if_neg h4, Option.bind_some]
        exact ⟨_, rfl, fun _ => hS⟩
theorem refgates_eq {s : Sands} (hG : Good s) : m_laurelref01_Gates s = some ((List.range s.floors.length).map (fun p : Nat => refGate ((gatesOf s).getD p 0))) := by
  have hfl := hG.fl
  unfold m_laurelref01_Gates
  have key : iterM FU (m_laurelref01_Gates_L0 s) ⟨0, []⟩ = some ((List.range s.floors.length).map (fun p : Nat => refGate ((gatesOf s).getD p 0))) := by
    have hz : (⟨0, []⟩ : m_laurelref01_Gates_S0) = (fun k : Nat => (⟨(k : Int), (List.range k).map (fun p : Nat => refGate ((gatesOf s).getD p 0))⟩ : m_laurelref01_Gates_S0)) 0 := by simp
    rw [hz]
    refine iterM_run (fun k : Nat => (⟨(k : Int), (List.range k).map (fun p : Nat => refGate ((gatesOf s).getD p 0))⟩ : m_laurelref01_Gates_S0)) s.floors.length (fun k hk => ?_) ?_ FU (FU_lt (by omega))
    · unfold m_laurelref01_Gates_L0
      dsimp only
      rw [if_pos (by omega), refgate_eq hG (isPlace_iff.2 ⟨by omega, by omega⟩), Option.bind_some, appc_eq (by simp only [List.length_map, List.length_range, List.length_singleton]; omega), Option.bind_some, addc_eq (by omega), Option.bind_some, List.range_succ, List.map_append]
      rfl
    · unfold m_laurelref01_Gates_L0
      dsimp only
      rw [if_neg (by omega)]
  rw [key, Option.bind_some]
theorem gates_ix {s : Sands} {p : Int} (hp : isPlace s p = true) : ix ((List.range s.floors.length).map (fun p : Nat => refGate ((gatesOf s).getD p 0))) p = some (refGate ((gatesOf s).getD p.toNat 0)) := by
  have h := isPlace_iff.1 hp
  rw [ix_eq 0 h.1 (by simp; omega)]
  congr 1
  have hlt : p.toNat < s.floors.length := by omega
  simp [List.getD_eq_getElem?_getD, hlt]
theorem x_Spans_eq {s : Sands} {p k : Int} (hs : Short s) : x_Spans s p k = some (SpansR s p k) := by
  have h1 := hs.t
  have h2 := hs.f
  have h3 := hs.s
  unfold x_Spans
  rw [if_pos ⟨by omega, by omega, by omega⟩]
end Go.Proofs.Wk

namespace Go.Proofs.Wk
open Go Go.Gx Go.Pl
set_option linter.unusedVariables false
/-! ### the reference's -/
theorem refyes_eq {s : Sands} (hG : Good s) {m : Int} (hd : dayF s m = true) {p : Nat} (hp : p < s.floors.length) {t27 gates : List Int} {S : m_laurelref01_Ask_S0} {S1 : m_laurelref01_Ask_S1} (h1 : ix t27 S.i10 = some (heightF s m)) (h2 : ix gates S1.p11 = some (refGate ((gatesOf s).getD p 0))) :
    iterM FU (m_laurelref01_Ask_L2 s t27 S gates S1) ⟨0, s.wind.lo⟩ = some (yesF s m p) := by
  have hlo := hG.lo
  have hhi := hG.hi
  have hwi := hG.wind
  have hh := height_tight hG hd
  have hgo := gates_ok (s := s)
  have hg0 := hgo.lo p
  have hg1 := hgo.hi p
  have hr : 0 ≤ refGate ((gatesOf s).getD p 0) ∧ refGate ((gatesOf s).getD p 0) ≤ 5000 := by unfold refGate; split <;> omega
  obtain ⟨b, hb, hQ⟩ := iterM_inv (f := m_laurelref01_Ask_L2 s t27 S gates S1) (fun x => (s.wind.lo ≤ x.w13 ∧ x.w13 ≤ s.wind.hi + 1) ∧ x.yes12 = max 0 (x.w13 - max s.wind.lo (refGate ((gatesOf s).getD p 0) - heightF s m + 1))) (fun x => (s.wind.hi + 1 - x.w13).toNat) (fun b => b = max 0 (s.wind.hi + 1 - max s.wind.lo (refGate ((gatesOf s).getD p 0) - heightF s m + 1)))
    (fun x hx => by
      obtain ⟨y, w⟩ := x
      simp only at hx
      obtain ⟨hw, hy⟩ := hx
      unfold m_laurelref01_Ask_L2
      dsimp only
      by_cases hlt : w ≤ s.wind.hi
      · left
        rw [if_pos hlt, h1, Option.bind_some, addc_eq (by omega), Option.bind_some, h2, Option.bind_some]
        by_cases hgt : refGate ((gatesOf s).getD p 0) < heightF s m + w
        · rw [if_pos hgt, addc_eq (by omega), Option.bind_some, Option.bind_some, addc_eq (by omega), Option.bind_some]
          exact ⟨_, rfl, ⟨by simp only; omega, by simp only; omega⟩, by simp only; omega⟩
        · rw [if_neg hgt, Option.bind_some, addc_eq (by omega), Option.bind_some]
          exact ⟨_, rfl, ⟨by simp only; omega, by simp only; omega⟩, by simp only; omega⟩
      · right
        rw [if_neg hlt]
        refine ⟨_, rfl, ?_⟩
        rw [hy]
        have : w = s.wind.hi + 1 := by omega
        rw [this]) FU ⟨0, s.wind.lo⟩ (FU_lt (by simp only; omega)) ⟨by simp only; omega, by simp only; omega⟩
  rw [hb, hQ]
  congr 1
  unfold yesF mostF refGate
  by_cases h : (gatesOf s).getD p 0 = 1000
  · rw [if_pos h, if_pos h]; omega
  · rw [if_neg h, if_neg h]; omega
theorem refgates_ixn {s : Sands} {p : Nat} (hp : p < s.floors.length) : ix ((List.range s.floors.length).map (fun p : Nat => refGate ((gatesOf s).getD p 0))) (p : Int) = some (refGate ((gatesOf s).getD p 0)) := by
  have := gates_ix (s := s) (p := (p : Int)) (isPlace_iff.2 ⟨by omega, by omega⟩)
  simpa using this
theorem refask_pl {s : Sands} (hG : Good s) {S : m_laurelref01_Ask_S0} {k0 : Nat} (hk0 : k0 < dayN s) (hS : S.i10 = (k0 : Int)) (st : Int × Look) :
    iterM FU (m_laurelref01_Ask_L1 ((List.range s.floors.length).map (fun p : Nat => refGate ((gatesOf s).getD p 0))) s (dayL s (heightF s) (dayN s)) S (allW s)) ⟨st.1, 0, st.2.min, st.2.place, st.2.wet⟩ = some ⟨(askPl s (firstM s + (k0 : Int)) st s.floors.length).1, (askPl s (firstM s + (k0 : Int)) st s.floors.length).2.min, (askPl s (firstM s + (k0 : Int)) st s.floors.length).2.place, (askPl s (firstM s + (k0 : Int)) st s.floors.length).2.wet⟩ := by
  have hfl := hG.fl
  have htl := hG.tl
  have hds := day_span hG
  have hn := dayN_eq hG
  have hd : dayF s (firstM s + (k0 : Int)) = true := by simp only [dayF, inr_iff]; omega
  have hix : ix (dayL s (heightF s) (dayN s)) S.i10 = some (heightF s (firstM s + (k0 : Int))) := by rw [hS]; exact dayL_ix (by omega) (by omega)
  generalize hm : firstM s + (k0 : Int) = m at hd hix
  have hz : (⟨st.1, 0, st.2.min, st.2.place, st.2.wet⟩ : m_laurelref01_Ask_S1) = (fun k : Nat => (⟨(askPl s m st k).1, (k : Int), (askPl s m st k).2.min, (askPl s m st k).2.place, (askPl s m st k).2.wet⟩ : m_laurelref01_Ask_S1)) 0 := rfl
  rw [hz]
  refine iterM_run (fun k : Nat => (⟨(askPl s m st k).1, (k : Int), (askPl s m st k).2.min, (askPl s m st k).2.place, (askPl s m st k).2.wet⟩ : m_laurelref01_Ask_S1)) s.floors.length (fun k hk => ?_) ?_ FU (FU_lt (by omega))
  · have hy := yes_bd hG (m := m) (p := k)
    have ha : allW s = s.wind.hi - s.wind.lo + 1 := rfl
    have hlo := hG.lo
    have hhi := hG.hi
    have hwi := hG.wind
    have hlen : ((List.range s.floors.length).map (fun p : Nat => refGate ((gatesOf s).getD p 0))).length = s.floors.length := by simp
    rw [askPl_succ]
    generalize askPl s m st k = x
    unfold m_laurelref01_Ask_L1
    dsimp only
    rw [hlen, if_pos (by omega), refyes_eq hG hd hk (S1 := ⟨x.1, (k : Int), x.2.min, x.2.place, x.2.wet⟩) hix (refgates_ixn hk), Option.bind_some, subc_eq (by omega), Option.bind_some]
    have e2 : max (yesF s m k) (allW s - yesF s m k) = nF s m k := rfl
    rw [e2]
    unfold askStep
    by_cases h : nF s m k < x.1
    · rw [if_pos h, if_pos h, reffirst_eq (by omega), Option.bind_some, hS, addc_eq (by omega), Option.bind_some, Option.bind_some, addc_eq (by omega), Option.bind_some, hm]
      rfl
    · rw [if_neg h, if_neg h, Option.bind_some, addc_eq (by omega), Option.bind_some]
      rfl
  · unfold m_laurelref01_Ask_L1
    dsimp only
    rw [if_neg (by simp)]
theorem refask_eq {s : Sands} (hG : Good s) : m_laurelref01_Ask s ((List.range s.floors.length).map (fun p : Nat => refGate ((gatesOf s).getD p 0))) = some ⟨(askDay s (dayN s)).2, (askDay s (dayN s)).1⟩ := by
  have hds := day_span hG
  have hn := dayN_eq hG
  have hlo := hG.lo
  have hhi := hG.hi
  have hwi := hG.wind
  unfold m_laurelref01_Ask
  rw [subc_eq (by omega), Option.bind_some, addc_eq (by omega), Option.bind_some, addc_eq (by omega), Option.bind_some, refheights_eq hG, Option.bind_some]
  have e2 : s.wind.hi - s.wind.lo + 1 = allW s := rfl
  rw [e2]
  have key : iterM FU (m_laurelref01_Ask_L0 (dayL s (heightF s) (dayN s)) ((List.range s.floors.length).map (fun p : Nat => refGate ((gatesOf s).getD p 0))) s (allW s)) ⟨allW s + 1, 0, 0, 0, false⟩ = some ⟨(askDay s (dayN s)).1, (askDay s (dayN s)).2.min, (askDay s (dayN s)).2.place, (askDay s (dayN s)).2.wet⟩ := by
    have hz : (⟨allW s + 1, 0, 0, 0, false⟩ : m_laurelref01_Ask_S0) = (fun k : Nat => (⟨(askDay s k).1, (k : Int), (askDay s k).2.min, (askDay s k).2.place, (askDay s k).2.wet⟩ : m_laurelref01_Ask_S0)) 0 := rfl
    rw [hz]
    refine iterM_run (fun k : Nat => (⟨(askDay s k).1, (k : Int), (askDay s k).2.min, (askDay s k).2.place, (askDay s k).2.wet⟩ : m_laurelref01_Ask_S0)) (dayN s) (fun k hk => ?_) ?_ FU (FU_lt (by omega))
    · have hp := refask_pl hG (S := ⟨(askDay s k).1, (k : Int), (askDay s k).2.min, (askDay s k).2.place, (askDay s k).2.wet⟩) hk rfl (askDay s k)
      unfold m_laurelref01_Ask_L0
      dsimp only at hp ⊢
      rw [dayL_len, if_pos (by omega), hp, Option.bind_some, addc_eq (by omega), Option.bind_some, askDay_succ]
      rfl
    · unfold m_laurelref01_Ask_L0
      dsimp only
      rw [dayL_len, if_neg (by omega)]
  rw [key, Option.bind_some]
end Go.Proofs.Wk

namespace Go.Proofs.Wk
open Go Go.Gx Go.Pl
set_option linter.unusedVariables false
/-- TideAsks is true of all sands -/
theorem asks_true (s : Sands) : m_laurellaw01_TideAsks s = some true := by
  unfold m_laurellaw01_TideAsks
  obtain ⟨b, hb, hS'⟩ := large_ok (s := s)
  rw [hb, Option.bind_some]
  cases b with
  | true => rw [if_pos rfl, x_awake_eq, Option.bind_some]
  | false =>
    have hS := hS' rfl
    rw [if_neg (by decide), own_eq hS, Option.bind_some, theirs_eq hS, Option.bind_some, Option.bind_some]
    dsimp only
    rw [refcheck_eq hS, Option.bind_some, ask_eq hS]
    unfold AskR
    by_cases hc : check s = 0
    · have hG := good_of_check hc
      rw [if_pos hc, if_neg (show ¬ (check s ≠ 0) by rw [hc]; simp)]
      by_cases he : s.wind.lo = s.wind.hi
      · rw [if_pos he, if_pos he, Option.bind_some, Option.bind_some]
        dsimp only
        rw [if_pos rfl, if_pos rfl, if_pos rfl, same_eq hS, Option.bind_some, if_pos rfl, x_awake_eq, Option.bind_some, Option.bind_some]
      · rw [if_neg he, if_neg he, refgates_eq hG, Option.bind_some, refask_eq hG, Option.bind_some, Option.bind_some, Option.bind_some]
        dsimp only
        rw [if_pos hc.symm, if_pos rfl, if_pos rfl, same_eq hS, Option.bind_some, if_pos rfl, x_awake_eq, Option.bind_some, Option.bind_some]
    · rw [if_neg hc, if_pos (show check s ≠ 0 from hc), Option.bind_some, Option.bind_some]
      dsimp only
      rw [if_pos rfl, if_pos rfl, if_pos rfl, same_eq hS, Option.bind_some, if_pos rfl, x_awake_eq, Option.bind_some, Option.bind_some]
end Go.Proofs.Wk

namespace Go.Gx
open Go Go.Fw Go.RowKit
/-! ### arguments, as they come in -/
section
variable {H : Type} {enc : TypeId × Value → H} {P : Program} {w : World} {base : Nat} {sp : Nat → Bool} {held : Bool}
/-- what of this type comes in is, cell by cell, a value of this row -/
def Opens (enc : TypeId × Value → H) (P : Program) (w : World) (base : Nat) (sp : Nat → Bool) (held : Bool) {α : Type} (R : Row α) (wf : α → Prop) (t : TypeId) : Prop :=
  ∀ fuel cs x, DataW.trod enc P w base sp held fuel t cs = some x → ∃ a, cs = R.cells a ∧ wf a
def i64P (n : Int) : Prop := -9223372036854775808 ≤ n ∧ n ≤ 9223372036854775807
theorem wf_i64P {n : Int} (h : (Lit.int .i64 n).wf = true) : i64P n := by
  simp [Lit.wf, IntKind.min, IntKind.max, IntKind.signed, IntKind.bits] at h
  unfold i64P; omega
def u8P (n : Int) : Prop := 0 ≤ n ∧ n ≤ 255
theorem wf_u8P {n : Int} (h : (Lit.int .u8 n).wf = true) : u8P n := by
  simp [Lit.wf, IntKind.min, IntKind.max, IntKind.signed, IntKind.bits] at h
  unfold u8P; omega
theorem opens_i64 {t : TypeId} (ht : P.underlying t = some (.int .i64)) : Opens enc P w base sp held RI i64P t := fun fuel cs x h => by
  obtain ⟨n, rfl, _, hw⟩ := DataW.trod_int ht h
  exact ⟨n, rfl, wf_i64P hw⟩
theorem opens_u8 {t : TypeId} (ht : P.underlying t = some (.int .u8)) : Opens enc P w base sp held RU8 u8P t := fun fuel cs x h => by
  obtain ⟨n, rfl, _, hw⟩ := DataW.trod_int ht h
  exact ⟨n, rfl, wf_u8P hw⟩
theorem opens_bool {t : TypeId} (ht : P.underlying t = some .bool) : Opens enc P w base sp held RB (fun _ => True) t := fun fuel cs x h => by
  obtain ⟨b, rfl, _⟩ := DataW.trod_bool ht h
  exact ⟨b, rfl, trivial⟩
/-- a field of a struct, by its cells -/
theorem fieldAt {fs : Array Field} {t : TypeId} {fuel : Nat} {cs : List Value} {x : DataW H × List MemPlace} (ht : P.underlying t = some (.struct fs)) (h : DataW.trod enc P w base sp held fuel t cs = some x) {α : Type} {R : Row α} {wf : α → Prop} (i : Nat) {T o k : Nat}
    (hf : (fs[i]?).map (fun fd => (fd.type, fd.offset)) = some (T, o)) (hk : P.cellsOf T = k) (hR : Opens enc P w base sp held R wf T) : ∃ a, (cs.drop o).take k = R.cells a ∧ wf a := by
  obtain ⟨xs, n, rfl, _, hlen, hxl, hx⟩ := DataW.trod_struct ht h
  obtain ⟨fd, hfd, he⟩ : ∃ fd, fs[i]? = some fd ∧ (fd.type, fd.offset) = (T, o) := by
    cases hh : fs[i]? with
    | none => simp [hh] at hf
    | some fd => exact ⟨fd, rfl, by simpa [hh] using hf⟩
  simp only [Prod.mk.injEq] at he
  obtain ⟨rfl, rfl⟩ := he
  have h1 := hx i fd hfd
  rw [hk] at h1
  have hi : i < xs.length := by rw [hxl]; exact (Array.getElem?_eq_some_iff.1 hfd).1
  rw [List.getElem?_eq_getElem hi] at h1
  exact hR _ _ _ h1
theorem structLen {fs : Array Field} {t : TypeId} {fuel : Nat} {cs : List Value} {x : DataW H × List MemPlace} (ht : P.underlying t = some (.struct fs)) (h : DataW.trod enc P w base sp held fuel t cs = some x) : cs.length = P.cellsOf t := by
  obtain ⟨xs, n, _, _, hlen, _⟩ := DataW.trod_struct ht h
  exact hlen
/-- a slice that came in -/
structure SlIn {α : Type} (R : Row α) (wf : α → Prop) (w : World) (v : Value) (A : Option Addr) (n c : Nat) (l : List α) : Prop where
  val : v = .slice A n c
  len : l.length = n
  ok : AOK n A
  le : n ≤ c
  max : c ≤ maxLen
  seg : segOK w (aB A, aO A, R.enc l)
  wf : ∀ x, x ∈ l → wf x
theorem choose_list {α : Type} {p : Nat → α → Prop} : ∀ (n : Nat), (∀ i, i < n → ∃ a, p i a) → ∃ l : List α, l.length = n ∧ ∀ i (h : i < l.length), p i l[i]
  | 0, _ => ⟨[], rfl, fun i h => by simp at h⟩
  | n + 1, h => by
    obtain ⟨l, hl, hp⟩ := choose_list n (fun i hi => h i (by omega))
    obtain ⟨a, ha⟩ := h n (by omega)
    refine ⟨l ++ [a], by simp [hl], fun i hi => ?_⟩
    by_cases hil : i < l.length
    · rw [List.getElem_append_left hil]; exact hp i hil
    · have : i = l.length := by simp at hi; omega
      subst this
      rw [List.getElem_append_right (by omega)]
      simp only [Nat.sub_self, List.getElem_cons_zero]
      rw [hl]; exact ha
theorem openSl {α : Type} {R : Row α} {wf : α → Prop} {t e : TypeId} (ht : P.underlying t = some (.slice e)) (hc : P.cellsOf e = R.sz) (hR : Opens enc P w base sp held R wf e) (h0 : Nat.blt 0 R.sz = true)
    {fuel : Nat} {cs : List Value} {x : DataW H × List MemPlace} (h : DataW.trod enc P w base sp held fuel t cs = some x) : ∃ (v : Value) (A : Option Addr) (n c : Nat) (l : List α), cs = [v] ∧ SlIn R wf w v A n c l := by
  have hsz : 0 < R.sz := by simpa using h0
  rcases Go.Deep.open_slice ht h with ⟨rfl, _⟩ | ⟨a, len, cap, m, n, D, Pl, rfl, hb, hl, hm, hmm, _, hi⟩
  · exact ⟨_, none, 0, 0, [], rfl, rfl, rfl, AOK.nil, Nat.le_refl _, Nat.zero_le _, segOK.nil, by simp⟩
  · have hlm : len ≤ m := by rw [hmm]; split <;> omega
    have hcell : ∀ i, i < len → ∃ x : α, (∀ f (hf : f < (R.cells x).length), w.cell? (a.add (i * R.sz + f)) = some (R.cells x)[f]) ∧ wf x := fun i hil => by
      obtain ⟨cs', h1, h2⟩ := hi i (by omega)
      obtain ⟨x, rfl, hw⟩ := hR _ _ _ h2
      obtain ⟨_, _, hat⟩ := World.cells?_some h1
      refine ⟨x, fun f hf => ?_, hw⟩
      have := hat f (by rw [hc, ← R.len x]; exact hf)
      rw [hc] at this
      rw [List.getElem?_eq_getElem hf] at this
      have e : (a.add (i * R.sz)).add f = a.add (i * R.sz + f) := by
        unfold Addr.add
        by_cases h1 : i * R.sz = 0
        · simp [h1]
        · by_cases h2 : f = 0
          · simp [h2]
          · simp [h1, h2, Nat.add_assoc]
      rw [e] at this
      exact this
    obtain ⟨l, hll, hlp⟩ := choose_list len hcell
    have hspot : 0 < len → a.spot = none := fun h0 => by
      obtain ⟨x, hx, _⟩ := hcell 0 h0
      have := World.cell?_spot (hx 0 (by rw [R.len]; exact hsz))
      simpa [Addr.add] using this
    refine ⟨_, some a, len, cap, l, rfl, rfl, hll, fun h0 => ?_, hl, hm, fun j hj => ?_, fun x hx => ?_⟩
    · obtain ⟨b, o, s⟩ := a
      have := hspot h0
      simp only at this
      subst this
      exact ⟨b, o, rfl⟩
    · have hj' : j < l.length * R.sz := by rw [← R.enc_len]; exact hj
      have hpos : 0 < len := by
        rcases Nat.eq_zero_or_pos len with h | h
        · rw [hll, h, Nat.zero_mul] at hj'; omega
        · exact h
      obtain ⟨b, o, s⟩ := a
      have hs := hspot hpos
      simp only at hs
      subst hs
      have hq : j / R.sz < l.length := Nat.div_lt_of_lt_mul (by rw [Nat.mul_comm]; exact hj')
      have hr : j % R.sz < R.sz := Nat.mod_lt _ hsz
      have hd : j / R.sz * R.sz + j % R.sz = j := by rw [Nat.mul_comm]; exact Nat.div_add_mod j R.sz
      have h1 := (hlp (j / R.sz) hq).1 (j % R.sz) (by rw [R.len]; exact hr)
      rw [hd] at h1
      have h2 := R.enc_get l (j / R.sz) (j % R.sz) l[j / R.sz] (List.getElem?_eq_getElem hq) hr
      rw [hd] at h2
      have h3 : (⟨b, o, none⟩ : Addr).add j = ⟨b, o + j, none⟩ := addr_add b o j
      rw [h3] at h1
      simp only [aB, aO, Option.map_some, Option.getD_some]
      rw [h1, ← List.getElem?_eq_getElem, ← h2, List.getElem?_eq_getElem hj]
    · obtain ⟨i, hi', rfl⟩ := List.getElem_of_mem hx
      exact (hlp i hi').2
theorem fieldSl {fs : Array Field} {t : TypeId} {fuel : Nat} {cs : List Value} {x : DataW H × List MemPlace} (ht : P.underlying t = some (.struct fs)) (h : DataW.trod enc P w base sp held fuel t cs = some x) {α : Type} {R : Row α} {wf : α → Prop} (i : Nat) {T o e : Nat}
    (hf : (fs[i]?).map (fun fd => (fd.type, fd.offset)) = some (T, o)) (hk : P.cellsOf T = 1) (hT : P.underlying T = some (.slice e)) (hc : P.cellsOf e = R.sz) (hR : Opens enc P w base sp held R wf e) (h0 : Nat.blt 0 R.sz = true) :
    ∃ (v : Value) (A : Option Addr) (n c : Nat) (l : List α), (cs.drop o).take 1 = [v] ∧ SlIn R wf w v A n c l := by
  obtain ⟨xs, m, rfl, _, hlen, hxl, hx⟩ := DataW.trod_struct ht h
  obtain ⟨fd, hfd, he⟩ : ∃ fd, fs[i]? = some fd ∧ (fd.type, fd.offset) = (T, o) := by
    cases hh : fs[i]? with
    | none => simp [hh] at hf
    | some fd => exact ⟨fd, rfl, by simpa [hh] using hf⟩
  simp only [Prod.mk.injEq] at he
  obtain ⟨rfl, rfl⟩ := he
  have h1 := hx i fd hfd
  rw [hk] at h1
  have hi : i < xs.length := by rw [hxl]; exact (Array.getElem?_eq_some_iff.1 hfd).1
  rw [List.getElem?_eq_getElem hi] at h1
  exact openSl hT hc hR h0 h1
theorem HV.begin {ro : List Sg} (h : ∀ s, s ∈ ro → segOK w s) : HV w (keys [] []) [] [] ro w :=
  ⟨rfl, rfl, rfl, Nat.le_refl _, fun _ _ _ => rfl, by simp [vbl], by simp [vbl], by simp [vbl], h, by simp [vbl]⟩
theorem segCons {s : Sg} {ro : List Sg} (h : segOK w s) (hr : ∀ t, t ∈ ro → segOK w t) : ∀ t, t ∈ s :: ro → segOK w t := fun t ht => by
  rcases List.mem_cons.1 ht with rfl | ht
  · exact h
  · exact hr t ht
theorem segNil : ∀ t, t ∈ ([] : List Sg) → segOK w t := fun t ht => by cases ht
theorem HV.below {w' : World} (h : HV w (keys [] []) [] [] [] w') : Below w.heap.size w w' := by
  have : Ext [] w w' := HS.toExt h
  exact this.below
end
end Go.Gx

namespace Go.Proofs.Wk
open Go Go.Fw Go.Gx Go.Pl Go.RowKit
section
variable {H : Type} {enc : TypeId × Value → H} {w : World} {base : Nat} {sp : Nat → Bool} {held : Bool}
theorem list2 {α : Type} {cs : List α} {a b : α} (hl : cs.length = 2) (h0 : (cs.drop 0).take 1 = [a]) (h1 : (cs.drop 1).take 1 = [b]) : cs = [a, b] := by
  match cs, hl with
  | [x, y], _ => simp at h0 h1; simp [h0, h1]
theorem list3 {α : Type} {cs : List α} {a b c : α} (hl : cs.length = 3) (h0 : (cs.drop 0).take 1 = [a]) (h1 : (cs.drop 1).take 1 = [b]) (h2 : (cs.drop 2).take 1 = [c]) : cs = [a, b, c] := by
  match cs, hl with
  | [x, y, z], _ => simp at h0 h1 h2; simp [h0, h1, h2]
theorem list5 {α : Type} {cs : List α} {a b c d e : α} (hl : cs.length = 5) (h0 : (cs.drop 0).take 1 = [a]) (h1 : (cs.drop 1).take 2 = [b, c]) (h2 : (cs.drop 3).take 1 = [d]) (h3 : (cs.drop 4).take 1 = [e]) : cs = [a, b, c, d, e] := by
  match cs, hl with
  | [x, y, z, u, v], _ => simp at h0 h1 h2 h3; simp [h0, h1, h2, h3]
theorem opI : Opens enc Try.prog w base sp held RI i64P 3 := opens_i64 Try.underlying3
theorem opB : Opens enc Try.prog w base sp held RB (fun _ => True) 4 := opens_bool Try.underlying4
set_option maxRecDepth 100000 in
theorem opWater : Opens enc Try.prog w base sp held RW (fun x => i64P x.min ∧ i64P x.h) 68 := fun fuel cs x h => by
  obtain ⟨a, ha, wa⟩ := fieldAt Try.underlying68 h 0 (T := 3) (o := 0) (k := 1) rfl (by kernel_rfl) opI
  obtain ⟨b, hb, wb⟩ := fieldAt Try.underlying68 h 1 (T := 3) (o := 1) (k := 1) rfl (by kernel_rfl) opI
  have hl := structLen Try.underlying68 h
  rw [show Try.prog.cellsOf 68 = 2 by kernel_rfl] at hl
  exact ⟨⟨a, b⟩, list2 hl ha hb, wa, wb⟩
set_option maxRecDepth 100000 in
theorem opSill : Opens enc Try.prog w base sp held RS (fun x => i64P x.a ∧ i64P x.b ∧ i64P x.h) 51 := fun fuel cs x h => by
  obtain ⟨a, ha, wa⟩ := fieldAt Try.underlying51 h 0 (T := 3) (o := 0) (k := 1) rfl (by kernel_rfl) opI
  obtain ⟨b, hb, wb⟩ := fieldAt Try.underlying51 h 1 (T := 3) (o := 1) (k := 1) rfl (by kernel_rfl) opI
  obtain ⟨c, hc, wc⟩ := fieldAt Try.underlying51 h 2 (T := 3) (o := 2) (k := 1) rfl (by kernel_rfl) opI
  have hl := structLen Try.underlying51 h
  rw [show Try.prog.cellsOf 51 = 3 by kernel_rfl] at hl
  exact ⟨⟨a, b, c⟩, list3 hl ha hb hc, wa, wb, wc⟩
set_option maxRecDepth 100000 in
theorem opSpan : Opens enc Try.prog w base sp held RP (fun x => i64P x.lo ∧ i64P x.hi) 25 := fun fuel cs x h => by
  obtain ⟨a, ha, wa⟩ := fieldAt Try.underlying25 h 0 (T := 3) (o := 0) (k := 1) rfl (by kernel_rfl) opI
  obtain ⟨b, hb, wb⟩ := fieldAt Try.underlying25 h 1 (T := 3) (o := 1) (k := 1) rfl (by kernel_rfl) opI
  have hl := structLen Try.underlying25 h
  rw [show Try.prog.cellsOf 25 = 2 by kernel_rfl] at hl
  exact ⟨⟨a, b⟩, list2 hl ha hb, wa, wb⟩
set_option maxRecDepth 100000 in
theorem opLook : Opens enc Try.prog w base sp held RL (fun x => i64P x.min ∧ i64P x.place) 89 := fun fuel cs x h => by
  obtain ⟨a, ha, wa⟩ := fieldAt Try.underlying89 h 0 (T := 3) (o := 0) (k := 1) rfl (by kernel_rfl) opI
  obtain ⟨b, hb, wb⟩ := fieldAt Try.underlying89 h 1 (T := 3) (o := 1) (k := 1) rfl (by kernel_rfl) opI
  obtain ⟨c, hc, _⟩ := fieldAt Try.underlying89 h 2 (T := 4) (o := 2) (k := 1) rfl (by kernel_rfl) opB
  have hl := structLen Try.underlying89 h
  rw [show Try.prog.cellsOf 89 = 3 by kernel_rfl] at hl
  exact ⟨⟨a, b, c⟩, list3 hl ha hb hc, wa, wb⟩
/-- numbers that are numbers of the machine -/
structure WfS (s : Sands) : Prop where
  t : ∀ x, x ∈ s.table → i64P x.min ∧ i64P x.h
  lo : i64P s.wind.lo
  hi : i64P s.wind.hi
  f : ∀ x, x ∈ s.floors → i64P x
  s : ∀ x, x ∈ s.sills → i64P x.a ∧ i64P x.b ∧ i64P x.h
set_option maxRecDepth 100000 in
theorem opSands {fuel : Nat} {cs : List Value} {x : DataW H × List MemPlace} (h : DataW.trod enc Try.prog w base sp held fuel 29 cs = some x) :
    ∃ (s : Sands) (A1 A2 A3 : Option Addr) (n1 c1 n2 c2 n3 c3 : Nat) (v1 v2 v3 : Value), cs = [.slice A1 n1 c1, .int .i64 s.wind.lo, .int .i64 s.wind.hi, .slice A2 n2 c2, .slice A3 n3 c3] ∧
      SlIn RW (fun x => i64P x.min ∧ i64P x.h) w v1 A1 n1 c1 s.table ∧ SlIn RI i64P w v2 A2 n2 c2 s.floors ∧ SlIn RS (fun x => i64P x.a ∧ i64P x.b ∧ i64P x.h) w v3 A3 n3 c3 s.sills ∧ WfS s := by
  obtain ⟨v1, A1, n1, c1, l1, e1, h1⟩ := fieldSl Try.underlying29 h 0 (T := 23) (o := 0) (e := 68) rfl (by kernel_rfl) Try.underlying23 (by kernel_rfl) opWater rfl
  obtain ⟨p, ep, wp⟩ := fieldAt Try.underlying29 h 1 (T := 25) (o := 1) (k := 2) rfl (by kernel_rfl) opSpan
  obtain ⟨v2, A2, n2, c2, l2, e2, h2⟩ := fieldSl Try.underlying29 h 2 (T := 26) (o := 3) (e := 3) rfl (by kernel_rfl) Try.underlying26 (by kernel_rfl) opI rfl
  obtain ⟨v3, A3, n3, c3, l3, e3, h3⟩ := fieldSl Try.underlying29 h 3 (T := 27) (o := 4) (e := 51) rfl (by kernel_rfl) Try.underlying27 (by kernel_rfl) opSill rfl
  have hl := structLen Try.underlying29 h
  rw [show Try.prog.cellsOf 29 = 5 by kernel_rfl] at hl
  have hv1 := h1.val
  have hv2 := h2.val
  have hv3 := h3.val
  subst hv1 hv2 hv3
  exact ⟨⟨l1, p, l2, l3⟩, A1, A2, A3, n1, c1, n2, c2, n3, c3, _, _, _, list5 hl e1 ep e2 e3, h1, h2, h3, h1.wf, wp.1, wp.2, h2.wf, h3.wf⟩
end
end Go.Proofs.Wk
namespace Go.Proofs.Wk
open Go Go.Gx
theorem opU8 {H : Type} {enc : TypeId × Value → H} {w : World} {base : Nat} {sp : Nat → Bool} {held : Bool} : Opens enc Try.prog w base sp held RU8 u8P 5 := opens_u8 Try.underlying5
end Go.Proofs.Wk

