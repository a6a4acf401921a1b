/- What the functions that the law StripMirrored reaches come to, and why it holds: part 7. -/
import Derived.Test.YtnkphlgohnlooaaStripMirrored6
import Derived.Deep.Slices
import Derived.ChangeArms
namespace Go.Proofs.Ws
open Go Go.Fw Go.Gx Go.Sp
def GapW (S : Int → Bool) (w : Wy) : Int := if S w.fr = false ∧ S w.dst = true then w.lo else if S w.fr = true ∧ S w.dst = false then - w.hi else 0
theorem gap_laid {S T : Nat} {g h : Nat → Span} {R : Nat → Nat → Bool} {c : Nat → Nat → Int} (M : Int → Bool) :
    gap M (laidTo S g h R c T) = sumTo (fun k => GapW M (stripW g k)) S + sumTo (fun t => sumTo (fun k => if R t k = true then GapW M (innerW c t k) else 0) S + GapW M (tenW h t)) T := by
  unfold gap laidTo
  rw [sumI_append, sumI_map, sumI_flat]
  congr 1
  · exact sumI_range' _ S
  · refine sumTo_congr fun t _ => ?_
    unfold tenL
    rw [sumI_append, sumI_map, sumI_filter]
    congr 1
    simp [sumI, GapW]
theorem sumTo_neg_le {f : Nat → Int} {n j : Nat} (h : ∀ i, i < n → f i ≤ 0) (hj : j < n) : sumTo f n ≤ f j := by
  have := sumTo_mem_le (f := fun i => -1 * f i) (n := n) (j := j) (fun i hi => by have := h i hi; omega) hj
  rw [sumTo_mul] at this
  omega
theorem asc_filtL {p : Nat → Bool} : ∀ n, (∀ j, j + 1 < (filtL p n).length → gtI (filtL p n) j < gtI (filtL p n) (j + 1)) ∧ ∀ x, x ∈ filtL p n → 0 ≤ x ∧ x < (n : Int)
  | 0 => ⟨fun j hj => by simp [filtL] at hj, fun x hx => by simp [filtL] at hx⟩
  | n + 1 => by
    obtain ⟨h1, h2⟩ := asc_filtL (p := p) n
    rw [filtL_succ]
    split
    · refine ⟨fun j hj => ?_, fun x hx => ?_⟩
      · rw [List.length_append] at hj
        simp only [List.length_cons, List.length_nil] at hj
        unfold gtI
        have hjl : j < (filtL p n).length := by omega
        rw [List.getD_eq_getElem?_getD, List.getD_eq_getElem?_getD, List.getElem?_append_left hjl]
        by_cases h3 : j + 1 < (filtL p n).length
        · rw [List.getElem?_append_left h3]
          have := h1 j h3
          unfold gtI at this
          rw [List.getD_eq_getElem?_getD, List.getD_eq_getElem?_getD] at this
          exact this
        · rw [List.getElem?_append_right (by omega), show j + 1 - (filtL p n).length = 0 by omega]
          have hm := (h2 _ (List.getElem_mem hjl)).2
          rw [List.getElem?_eq_getElem hjl]
          simpa using hm
      · rcases List.mem_append.1 hx with hx | hx
        · have := h2 x hx; omega
        · rw [List.mem_singleton] at hx; omega
    · exact ⟨h1, fun x hx => by have := h2 x hx; omega⟩
theorem ascB_filtL {p : Nat → Bool} {n : Nat} : ascB (filtL p n) = true := by
  unfold ascB
  rw [List.all_eq_true]
  intro j hj
  have := List.mem_range.1 hj
  exact decide_eq_true ((asc_filtL n).1 j (by omega))
theorem filtL_mem {p : Nat → Bool} {n k : Nat} : (k : Int) ∈ filtL p n ↔ k < n ∧ p k = true := by
  unfold filtL
  rw [List.mem_map]
  constructor
  · rintro ⟨a, h1, h2⟩
    have : a = k := by omega
    subst this
    obtain ⟨h3, h4⟩ := List.mem_filter.1 h1
    exact ⟨by simpa using h3, h4⟩
  · rintro ⟨h1, h2⟩
    exact ⟨k, List.mem_filter.2 ⟨by simpa using h1, h2⟩, rfl⟩
theorem hasZ_iff {l : List Int} {v : Nat} : hasZ l v = true ↔ (v : Int) ∈ l := by
  unfold hasZ
  rw [List.any_eq_true]
  constructor
  · rintro ⟨x, h1, h2⟩
    rw [of_decide_eq_true h2]; exact h1
  · intro h; exact ⟨_, h, decide_eq_true rfl⟩
theorem filtL_nat {p : Nat → Bool} {n : Nat} {x : Int} (h : x ∈ filtL p n) : ∃ k : Nat, x = (k : Int) ∧ k < n ∧ p k = true := by
  unfold filtL at h
  obtain ⟨k, h1, rfl⟩ := List.mem_map.1 h
  obtain ⟨h3, h4⟩ := List.mem_filter.1 h1
  exact ⟨k, rfl, by simpa using h3, h4⟩
theorem lack_is {s : Scalps} (h : Right s) {mp : List (Pair × Bool)} {cf : Pair → Option Int} {w : Wy} {met : List Bool} (hlk : Lk (laidS s.strips s.carried mp cf) w met) : 1 ≤ lackV s mp (lackP s.strips s.carried w met) := by
  have hg := lk_cut hlk
  unfold laidS at hg
  rw [gap_laid, sumTo_add] at hg
  have hS := h.net
  have h6 := hS.s6; have h5 := hS.c5
  obtain ⟨l, hgood, hwl, hlow, hd, hf, _⟩ := hlk.ex
  unfold lackV lackP
  generalize gI false met = M at *
  have hin : ∀ t k, t < s.carried.length → k < s.strips.length → (if rOf mp t k = true then GapW M (innerW (cOf cf) t k) else 0) ≤ 0 := fun t k _ _ => by
    split
    · unfold GapW innerW
      simp only
      split
      · exact Int.le_refl _
      · split <;> omega
    · exact Int.le_refl _
  have hsum1 : sumTo (fun k => GapW M (stripW (gOf s.strips) k)) s.strips.length ≤ 60 * (s.strips.length : Int) := by
    have := sumTo_le (f := fun k => GapW M (stripW (gOf s.strips) k)) (g := fun _ => 60) (k := s.strips.length) (fun k hk => by
      have := gOf_ok hS hk
      unfold GapW stripW
      simp only
      split
      · omega
      · split <;> omega)
    have h2 := sumTo_bound (f := fun _ => 60) (b := 60) (n := s.strips.length) (fun _ _ => by omega)
    omega
  have hsum2 : sumTo (fun t => GapW M (tenW (hOf s.carried) t)) s.carried.length ≤ 30 * (s.carried.length : Int) := by
    have := sumTo_le (f := fun t => GapW M (tenW (hOf s.carried) t)) (g := fun _ => 30) (k := s.carried.length) (fun t ht => by
      have := hOf_ok hS ht
      unfold GapW tenW
      simp only
      split
      · omega
      · split <;> omega)
    have h2 := sumTo_bound (f := fun _ => 30) (b := 30) (n := s.carried.length) (fun _ _ => by omega)
    omega
  have hrow : ∀ t, t < s.carried.length → sumTo (fun k => if rOf mp t k = true then GapW M (innerW (cOf cf) t k) else 0) s.strips.length ≤ 0 := fun t ht => by
    have := sumTo_le (f := fun k => if rOf mp t k = true then GapW M (innerW (cOf cf) t k) else 0) (g := fun _ => 0) (k := s.strips.length) (fun k hk => hin t k ht hk)
    rwa [sumTo_zero] at this
  have htot : sumTo (fun t => sumTo (fun k => if rOf mp t k = true then GapW M (innerW (cOf cf) t k) else 0) s.strips.length) s.carried.length ≤ 0 := by
    have := sumTo_le (f := fun t => sumTo (fun k => if rOf mp t k = true then GapW M (innerW (cOf cf) t k) else 0) s.strips.length) (g := fun _ => 0) (k := s.carried.length) hrow
    rwa [sumTo_zero] at this
  have hno : ∀ t k : Nat, t < s.carried.length → k < s.strips.length → rOf mp t k = true → M (1 + (k : Int)) = true → M (7 + (t : Int)) = true := fun t k ht hk hr hM => by
    cases hM2 : M (7 + (t : Int)) with
    | true => rfl
    | false =>
      exfalso
      have e : (if rOf mp t k = true then GapW M (innerW (cOf cf) t k) else 0) = -1000000 := by
        rw [if_pos hr]
        unfold GapW innerW
        simp only
        rw [if_neg (by simp [hM]), if_pos ⟨hM, hM2⟩]
      have a := sumTo_neg_le (f := fun k => if rOf mp t k = true then GapW M (innerW (cOf cf) t k) else 0) (fun i hi => hin t i ht hi) hk
      have b := sumTo_neg_le (f := fun t => sumTo (fun k => if rOf mp t k = true then GapW M (innerW (cOf cf) t k) else 0) s.strips.length) hrow ht
      simp only [e] at a
      have c : sumTo (fun k => if rOf mp t k = true then GapW M (innerW (cOf cf) t k) else 0) s.strips.length ≤ -1000000 := a
      have d : sumTo (fun t => sumTo (fun k => if rOf mp t k = true then GapW M (innerW (cOf cf) t k) else 0) s.strips.length) s.carried.length ≤ -1000000 := Int.le_trans b c
      omega
  by_cases hw0 : w.dst = 0
  · rw [hw0] at hd
    simp only [hw0, if_true]
    have e1 : sumTo (fun t => GapW M (tenW (hOf s.carried) t)) s.carried.length = sumTo (needT s (filtL (fun t => !M (7 + (t : Int))) s.carried.length)) s.carried.length := sumTo_congr fun t ht => by
      unfold GapW tenW needT
      simp only
      cases hM : M (7 + (t : Int)) with
      | false => rw [if_pos ⟨rfl, hd⟩, if_pos (hasZ_iff.2 (filtL_mem.2 ⟨ht, by rw [hM]; rfl⟩))]
      | true =>
        rw [if_neg (by simp), if_neg (by simp [hd]), if_neg]
        intro hh
        have := (filtL_mem.1 (hasZ_iff.1 hh)).2
        rw [hM] at this; cases this
    have e2 : sumTo (canT s mp (filtL (fun t => !M (7 + (t : Int))) s.carried.length)) s.strips.length ≤ sumTo (fun k => -1 * GapW M (stripW (gOf s.strips) k)) s.strips.length := sumTo_le fun k hk => by
      have hgk := gOf_ok hS hk
      cases hM : M (1 + (k : Int)) with
      | false =>
        have eg : GapW M (stripW (gOf s.strips) k) = - (gOf s.strips k).hi := by
          unfold GapW stripW
          simp only
          rw [if_neg (by simp [hM]), if_pos ⟨hd, hM⟩]
        rw [eg]
        unfold canT
        split <;> omega
      | true =>
        have eg : GapW M (stripW (gOf s.strips) k) = 0 := by
          unfold GapW stripW
          simp only
          rw [if_neg (by simp [hd]), if_neg (by simp [hM])]
        rw [eg]
        unfold canT
        rw [if_neg]
        · omega
        · intro hh
          rw [List.any_eq_true] at hh
          obtain ⟨x, hx, hxr⟩ := hh
          obtain ⟨t, rfl, ht, hMt⟩ := filtL_nat hx
          have := hno t k ht hk hxr hM
          rw [this] at hMt; cases hMt
    rw [sumTo_mul] at e2
    omega
  · have hf0 : M 0 = false := by
      have hm : base w ∈ (laidS s.strips s.carried mp cf).map base := by
        rw [show (laidS s.strips s.carried mp cf).map base = l.map base from hgood.same]
        exact List.mem_map.2 ⟨w, hwl, rfl⟩
      obtain ⟨w', hw', he⟩ := List.mem_map.1 hm
      obtain ⟨e1, e2, e3, e4, e5⟩ := base_eq he
      rcases laid_mem hw' with ⟨k, hk, rfl⟩ | ⟨t, k, ht, hk, _, rfl⟩ | ⟨t, ht, rfl⟩
      · have : w.fr = 0 := e1.symm
        rw [this] at hf; exact hf
      · exfalso
        have : w.lo = 0 := e3.symm
        have := (hgood.ok.2 w hwl).goes
        omega
      · exfalso
        exact hw0 e2.symm
    simp only [hw0, if_false, Bool.false_eq_true]
    have e1 : sumTo (fun k => GapW M (stripW (gOf s.strips) k)) s.strips.length = sumTo (needK s (filtL (fun k => M (1 + (k : Int))) s.strips.length)) s.strips.length := sumTo_congr fun k hk => by
      unfold GapW stripW needK
      simp only
      cases hM : M (1 + (k : Int)) with
      | true => rw [if_pos ⟨hf0, rfl⟩, if_pos (hasZ_iff.2 (filtL_mem.2 ⟨hk, hM⟩))]
      | false =>
        rw [if_neg (by simp), if_neg (by simp [hf0]), if_neg]
        intro hh
        have := (filtL_mem.1 (hasZ_iff.1 hh)).2
        rw [hM] at this; cases this
    have e2 : sumTo (canK s mp (filtL (fun k => M (1 + (k : Int))) s.strips.length)) s.carried.length ≤ sumTo (fun t => -1 * GapW M (tenW (hOf s.carried) t)) s.carried.length := sumTo_le fun t ht => by
      have hgk := hOf_ok hS ht
      cases hM : M (7 + (t : Int)) with
      | true =>
        have eg : GapW M (tenW (hOf s.carried) t) = - (hOf s.carried t).hi := by
          unfold GapW tenW
          simp only
          rw [if_neg (by simp [hM]), if_pos ⟨hM, hf0⟩]
        rw [eg]
        unfold canK
        split <;> omega
      | false =>
        have eg : GapW M (tenW (hOf s.carried) t) = 0 := by
          unfold GapW tenW
          simp only
          rw [if_neg (by simp [hf0]), if_neg (by simp [hM])]
        rw [eg]
        unfold canK
        rw [if_neg]
        · omega
        · intro hh
          rw [List.any_eq_true] at hh
          obtain ⟨x, hx, hxr⟩ := hh
          obtain ⟨k, rfl, hk, hMt⟩ := filtL_nat hx
          have := hno t k ht hk hxr hMt
          rw [hM] at this; cases this
    rw [sumTo_mul] at e2
    omega
def manyL (s : Scalps) (l : Lack) : Int := if l.tenants = true then (s.carried.length : Int) else (s.strips.length : Int)
theorem lackV_nil {s : Scalps} (h : Right s) {mp : List (Pair × Bool)} {l : Lack} (h0 : l.of_.length = 0) : lackV s mp l ≤ 0 := by
  have e : l.of_ = [] := List.length_eq_zero_iff.1 h0
  have a : sumTo (fun t => needT s ([] : List Int) t) s.carried.length = 0 := by
    rw [← sumTo_zero s.carried.length]; exact sumTo_congr fun t _ => by unfold needT hasZ; simp
  have b : sumTo (fun t => needK s ([] : List Int) t) s.strips.length = 0 := by
    rw [← sumTo_zero s.strips.length]; exact sumTo_congr fun t _ => by unfold needK hasZ; simp
  have c : 0 ≤ sumTo (canT s mp l.of_) s.strips.length := sumTo_nonneg fun k hk => by
    have := gOf_ok h.net hk
    unfold canT; split <;> omega
  have d : 0 ≤ sumTo (canK s mp l.of_) s.carried.length := sumTo_nonneg fun t ht => by
    have := hOf_ok h.net ht
    unfold canK; split <;> omega
  unfold lackV
  rw [e] at c d ⊢
  split
  · have a' : sumTo (needT s []) s.carried.length = 0 := a
    omega
  · have b' : sumTo (needK s []) s.strips.length = 0 := b
    omega
theorem Lacks_spec {s : Scalps} (h : Right s) {mp : List (Pair × Bool)} (hmp : kM s = some (.inr mp)) (hm : MapOK s.strips mp) :
    (zg s = some ⟨⟨false, []⟩, 6⟩ ∧ ∃ y, FitsS s y) ∨ (∃ l, zg s = some ⟨l, 0⟩ ∧ NoFit s ∧ l.of_.length ≤ 6 ∧ 1 ≤ lackV s mp l ∧ (l.of_.all fun x => inb x 0 (manyL s l - 1)) = true ∧ (decide (l.of_.length ≠ 0) && ascB l.of_) = true) := by
  have h6 := h.net.s6; have h5 := h.net.c5
  unfold zg
  rw [hmp, Option.bind_some, oc_inr, K9, Option.bind_some]
  rcases filled_min h hm (cf_theft s).ok with ⟨l, y, h1, _, _, _, _, _, h3, _⟩ | ⟨w, met, h1, hlk, h3⟩
  · left
    rw [h1, Option.bind_some, oc_inr]
    exact ⟨rfl, y, h3⟩
  · right
    rw [h1, Option.bind_some, oc_inl]
    refine ⟨_, rfl, h3, ?_, lack_is h hlk, ?_, ?_⟩
    · unfold lackP
      split
      · exact Nat.le_trans filtL_len (by omega)
      · exact Nat.le_trans filtL_len (by omega)
    · unfold lackP manyL
      split
      · simp only [if_true]
        rw [List.all_eq_true]; intro x hx
        have := (asc_filtL s.carried.length).2 x hx
        exact inb_iff.2 (by omega)
      · simp only [Bool.false_eq_true, if_false]
        rw [List.all_eq_true]; intro x hx
        have := (asc_filtL s.strips.length).2 x hx
        exact inb_iff.2 (by omega)
    · rw [Bool.and_eq_true]
      constructor
      · refine decide_eq_true fun h0 => ?_
        have a := lackV_nil h (mp := mp) h0
        have b := lack_is h hlk
        omega
      · unfold lackP
        split <;> exact ascB_filtL
end Go.Proofs.Ws

namespace Go.Proofs.Ws
open Go Go.Fw Go.Gx Go.Sp
set_option linter.unusedVariables false
def HOK (l : List Int) (p : Int) : Prop := 0 ≤ p ∧ (p < (l.length : Int) ∨ p = 0)
theorem pick_ok {l : List Int} {p r : Int} (hl : l.length ≤ 9223372036854775807) (hp : HOK l p) : ∃ x, q4 l p r = some x ∧ (0 ≤ x.r0 ∧ x.r0 ≤ 32767) ∧ HOK l x.h0_1 := by
  obtain ⟨h0, h1⟩ := hp
  unfold q4
  have e1 : addc p 1 = some (p + 1) := addc_eq (by omega)
  by_cases hlt : p < (l.length : Int)
  · rw [if_pos hlt, ix_eq 0 h0 hlt, e1]
    simp only [Option.bind_some]
    by_cases hge : (l.length : Int) ≤ p + 1
    · rw [if_pos hge]
      exact ⟨_, rfl, Go.Fw.and_bound _ _ rfl, Int.le_refl _, .inr rfl⟩
    · rw [if_neg hge]
      exact ⟨_, rfl, Go.Fw.and_bound _ _ rfl, by simp only; omega, .inl (by simp only; omega)⟩
  · rw [if_neg hlt, e1]
    simp only [Option.bind_some]
    by_cases hge : (l.length : Int) ≤ p + 1
    · rw [if_pos hge]
      exact ⟨_, rfl, Go.Fw.and_bound _ _ rfl, Int.le_refl _, .inr rfl⟩
    · rw [if_neg hge]
      exact ⟨_, rfl, Go.Fw.and_bound _ _ rfl, by simp only; omega, .inl (by simp only; omega)⟩
theorem upto_ok {l : List Int} {p r n : Int} (hl : l.length ≤ 9223372036854775807) (hp : HOK l p) (hn : -1000000 ≤ n ∧ n ≤ 1000000) : ∃ x, jL l p r n = some x ∧ (0 ≤ x.r0 ∧ x.r0 ≤ max 0 n) ∧ HOK l x.h0_1 := by
  obtain ⟨x, hx, hb, hk⟩ := pick_ok (r := r) hl hp
  unfold jL
  rw [hx, Option.bind_some, addc_eq (by omega), Option.bind_some, remc_eq (by omega), Option.bind_some]
  refine ⟨_, rfl, ?_, hk⟩
  have h1 := Int.tmod_nonneg (max 1 (n + 1)) hb.1
  have h2 := Int.tmod_lt_of_pos x.r0 (show 0 < max 1 (n + 1) by omega)
  simp only
  omega
theorem from_ok {l : List Int} {p r lo hi : Int} (hl : l.length ≤ 9223372036854775807) (hp : HOK l p) (hn : (-400000 ≤ lo ∧ lo ≤ 400000) ∧ -400000 ≤ hi ∧ hi ≤ 400000) : ∃ x, qe l p r lo hi = some x ∧ (lo ≤ x.r0 ∧ x.r0 ≤ max lo hi) ∧ HOK l x.h0_1 := by
  unfold qe
  rw [subc_eq (by omega), Option.bind_some]
  obtain ⟨x, hx, hb, hk⟩ := upto_ok (r := r) (n := hi - lo) hl hp (by omega)
  rw [hx, Option.bind_some, addc_eq (by omega), Option.bind_some]
  exact ⟨_, rfl, by simp only; omega, hk⟩
theorem once_ok {l : List Int} {p r n : Int} (hl : l.length ≤ 9223372036854775807) (hp : HOK l p) (hn : -400000 ≤ n ∧ n ≤ 400000) : ∃ x, kA l p r n = some x ∧ HOK l x.h0_1 := by
  unfold kA
  rw [subc_eq (by omega), Option.bind_some]
  obtain ⟨x, hx, hb, hk⟩ := upto_ok (r := r) (n := n - 1) hl hp (by omega)
  rw [hx, Option.bind_some]
  exact ⟨_, rfl, hk⟩
theorem around_ok {l : List Int} {p r n wd : Int} (hl : l.length ≤ 9223372036854775807) (hp : HOK l p) (hn : 0 ≤ n ∧ n ≤ 30) (hw : 0 ≤ wd ∧ wd ≤ 10) : ∃ x, kw l p r n wd = some x ∧ (0 ≤ x.r0.lo ∧ x.r0.lo ≤ n ∧ n ≤ x.r0.hi ∧ x.r0.hi ≤ 30) ∧ HOK l x.b0_1 := by
  unfold kw
  obtain ⟨x, hx, hb, hk⟩ := upto_ok (r := r) (n := wd) hl hp (by omega)
  rw [hx, Option.bind_some, subc_eq (by omega), Option.bind_some]
  obtain ⟨z, hz, hb2, hk2⟩ := upto_ok (r := x.h0_2) (n := wd) hl hk (by omega)
  rw [hz, Option.bind_some, addc_eq (by omega), Option.bind_some]
  exact ⟨_, rfl, by simp only; omega, hk2⟩
theorem Yl {s : Scalps} (h6 : s.strips.length ≤ 1000) {t k : Nat} (hk : k ≤ 1000) : Ji s (t : Int) (k : Int) = some (reachB s.strips t k) := by
  unfold Ji reachB
  have key := iterM_any0 (f := yC s (t : Int) (k : Int)) s.strips.length (fun j => decide (j ≤ k + 1 ∧ k ≤ j + 1 ∧ (s.strips.getD j default).tenant = (t : Int))) true (fun j hj => ?_) ?_ (N := FU) (FU_lt (by omega))
  · rw [key, Option.bind_some]
    cases h : (List.range s.strips.length).any fun j => decide (j ≤ k + 1 ∧ k ≤ j + 1 ∧ (s.strips.getD j default).tenant = (t : Int)) <;> rfl
  · unfold yC
    have hlt : (j : Int) < (s.strips.length : Int) := by omega
    rw [if_pos hlt, ix_nat default hj, Option.bind_some]
    by_cases ht : (s.strips.getD j default).tenant = (t : Int)
    · rw [if_pos ht, subc_eq (by omega), Option.bind_some, subc_eq (by omega), Option.bind_some, Option.bind_some]
      by_cases hd : j ≤ k + 1 ∧ k ≤ j + 1
      · rw [if_pos (decide_eq_true (show max ((j : Int) - (k : Int)) ((k : Int) - (j : Int)) < 2 by omega)), if_pos (decide_eq_true ⟨hd.1, hd.2, ht⟩)]
      · rw [if_neg (fun h => by have := of_decide_eq_true h; omega), if_neg (fun h => by have := of_decide_eq_true h; omega), addc_eq (by omega), Option.bind_some]
    · rw [if_neg ht, Option.bind_some, if_neg (by simp), if_neg (fun h => ht (of_decide_eq_true h).2.2), addc_eq (by omega), Option.bind_some]
  · unfold yC
    rw [if_neg (by omega)]
theorem reachB_congr {a b : List Strip} (h : a.map (·.tenant) = b.map (·.tenant)) (t k : Nat) : reachB a t k = reachB b t k := by
  have hl : a.length = b.length := by have := congrArg List.length h; simpa using this
  unfold reachB
  rw [hl, Bool.eq_iff_iff, List.any_eq_true, List.any_eq_true]
  have hg : ∀ j, j < b.length → (a.getD j default).tenant = (b.getD j default).tenant := fun j hj => by
    have h2 : (a.map (·.tenant))[j]? = (b.map (·.tenant))[j]? := by rw [h]
    rw [List.getElem?_map, List.getElem?_map] at h2
    rw [List.getD_eq_getElem?_getD, List.getD_eq_getElem?_getD, List.getElem?_eq_getElem (by omega), List.getElem?_eq_getElem hj]
    rw [List.getElem?_eq_getElem (by omega), List.getElem?_eq_getElem hj] at h2
    simpa using h2
  constructor
  · rintro ⟨j, h1, h2⟩
    obtain ⟨a1, a2, a3⟩ := of_decide_eq_true h2
    exact ⟨j, h1, decide_eq_true ⟨a1, a2, by rw [← hg j (List.mem_range.1 h1)]; exact a3⟩⟩
  · rintro ⟨j, h1, h2⟩
    obtain ⟨a1, a2, a3⟩ := of_decide_eq_true h2
    exact ⟨j, h1, decide_eq_true ⟨a1, a2, by rw [hg j (List.mem_range.1 h1)]; exact a3⟩⟩
def rowsM (T S : Nat) (y : Nat → Nat → Int) (j k : Nat) : List (List Int) := (List.range T).map fun t => if t < j then (List.range S).map (y t) else if t = j then (List.range k).map (y t) else []
def putY (y : Nat → Nat → Int) (t k : Nat) (n : Int) : Nat → Nat → Int := fun t' k' => if t' = t ∧ k' = k then n else y t' k'
theorem rowsM_next {T S : Nat} {y : Nat → Nat → Int} {j : Nat} : rowsM T S y j S = rowsM T S y (j + 1) 0 := by
  unfold rowsM
  refine List.map_congr_left fun t _ => ?_
  by_cases h1 : t < j
  · rw [if_pos h1, if_pos (by omega)]
  · rw [if_neg h1]
    by_cases h2 : t = j
    · rw [if_pos h2, if_pos (by omega)]
    · rw [if_neg h2, if_neg (by omega)]
      split <;> rfl
theorem rowsM_put {T S : Nat} {y : Nat → Nat → Int} {j k : Nat} {n : Int} : (rowsM T S y j k).set j ((List.range k).map (y j) ++ [n]) = rowsM T S (putY y j k n) j (k + 1) := by
  unfold rowsM
  rw [range_set]
  refine List.map_congr_left fun t _ => ?_
  by_cases h2 : t = j
  · subst h2
    rw [if_pos rfl, if_neg (Nat.lt_irrefl _), if_pos rfl, List.range_succ, List.map_append]
    congr 1
    · refine List.map_congr_left fun i hi => ?_
      have := List.mem_range.1 hi
      unfold putY
      rw [if_neg (by omega)]
    · simp [putY]
  · rw [if_neg h2, if_neg h2]
    by_cases h1 : t < j
    · rw [if_pos h1, if_pos h1]
      refine List.map_congr_left fun i hi => ?_
      unfold putY
      rw [if_neg (by omega)]
    · rw [if_neg h1, if_neg h1, if_neg h2]
theorem rowsM_at {T S : Nat} {y : Nat → Nat → Int} {j k : Nat} (h : j < T) : ix (rowsM T S y j k) (j : Int) = some ((List.range k).map (y j)) := by
  unfold rowsM
  rw [range_ix h, if_neg (Nat.lt_irrefl _), if_pos rfl]
theorem rowsM_mat {T S : Nat} {y : Nat → Nat → Int} : rowsM T S y T 0 = mat T S y := by
  unfold rowsM mat
  refine List.map_congr_left fun t ht => ?_
  rw [if_pos (List.mem_range.1 ht)]
def YOK (st : List Strip) (y : Nat → Nat → Int) : Prop := ∀ t k, 0 ≤ y t k ∧ y t k ≤ 4 ∧ (0 < y t k → reachB st t k = true)
theorem putY_sum {y : Nat → Nat → Int} {t k : Nat} {n : Int} : sumTo (putY y t k n t) (k + 1) = sumTo (y t) k + n := by
  simp only [sumTo]
  rw [sumTo_congr (g := y t) (fun i hi => by unfold putY; rw [if_neg (by omega)])]
  unfold putY
  rw [if_pos ⟨rfl, rfl⟩]
theorem putY_row {y : Nat → Nat → Int} {t k t' S : Nat} {n : Int} (h : t' ≠ t) : sumTo (putY y t k n t') S = sumTo (y t') S := by
  refine sumTo_congr fun i _ => ?_
  unfold putY
  rw [if_neg (fun e => h e.1)]
end Go.Proofs.Ws

namespace Go.Proofs.Ws
open Go Go.Fw Go.Gx Go.Sp
set_option linter.unusedVariables false
theorem made_L0 {l : List Int} (hl : l.length ≤ 9223372036854775807) {t24 t27 : jJ} (hS : 1 ≤ t24.r0 ∧ t24.r0 ≤ 6) (hT : 1 ≤ t27.r0 ∧ t27.r0 ≤ 5) {p r : Int} (hp : HOK l p) :
    ∃ o, iterM FU (y3 t24 t27 l) ⟨0, p, r, []⟩ = some o ∧ HOK l o.b0_1 ∧ (o.s8_strips.length : Int) = t24.r0 ∧ ∀ x, x ∈ o.s8_strips → 0 ≤ x.tenant ∧ x.tenant < t27.r0 := by
  refine iterM_inv (f := y3 t24 t27 l) (fun s => 0 ≤ s.t29 ∧ s.t29 ≤ t24.r0 ∧ HOK l s.b0_1 ∧ (s.s8_strips.length : Int) = s.t29 ∧ ∀ x, x ∈ s.s8_strips → 0 ≤ x.tenant ∧ x.tenant < t27.r0) (fun s => (t24.r0 - s.t29).toNat) _ (fun s hs => ?_) FU _ (FU_lt (by simp only; omega)) ⟨by simp, by simp only; omega, hp, rfl, by simp⟩
  obtain ⟨h0, h1, hk, hlen, hx⟩ := hs
  unfold y3
  by_cases hlt : s.t29 < t24.r0
  · left
    rw [if_pos hlt, subc_eq (by omega), Option.bind_some]
    obtain ⟨z, hz, hb, hk2⟩ := upto_ok (r := s.b0_2) (n := t27.r0 - 1) hl hk (by omega)
    rw [hz, Option.bind_some, appc_eq (by simp only [List.length_cons, List.length_nil]; omega), Option.bind_some, addc_eq (by omega), Option.bind_some]
    refine ⟨_, rfl, ⟨by simp only; omega, by simp only; omega, hk2, by simp only [List.length_append, List.length_cons, List.length_nil]; omega, fun x hx' => ?_⟩, by simp only; omega⟩
    rcases List.mem_append.1 hx' with h | h
    · exact hx x h
    · rw [List.mem_singleton] at h
      subst h
      simp only; omega
  · right
    rw [if_neg hlt]
    exact ⟨_, rfl, hk, by simp only; omega, hx⟩
theorem made_L2 {l : List Int} (hl : l.length ≤ 9223372036854775807) {t24 : jJ} {o : yt} {T : Nat} (hT : T ≤ 5) (hS : (o.s8_strips.length : Int) = t24.r0) (h6 : o.s8_strips.length ≤ 6) {s1 : yn} {j : Nat} (hj : j < T) (hsj : s1.t46 = (j : Int)) {y : Nat → Nat → Int} (hy : YOK o.s8_strips y) {p r : Int} (hp : HOK l p) :
    ∃ o2, iterM FU (yY t24 o s1 l) ⟨0, 0, p, r, rowsM T o.s8_strips.length y j 0⟩ = some o2 ∧ HOK l o2.b0_1 ∧ ∃ y', YOK o.s8_strips y' ∧ o2.real11 = rowsM T o.s8_strips.length y' j o.s8_strips.length ∧ o2.sum13 = sumTo (y' j) o.s8_strips.length ∧ ∀ t, t ≠ j → sumTo (y' t) o.s8_strips.length = sumTo (y t) o.s8_strips.length := by
  refine iterM_inv (f := yY t24 o s1 l) (fun s => ∃ k : Nat, s.t50 = (k : Int) ∧ k ≤ o.s8_strips.length ∧ HOK l s.b0_1 ∧ ∃ y', YOK o.s8_strips y' ∧ s.real11 = rowsM T o.s8_strips.length y' j k ∧ s.sum13 = sumTo (y' j) k ∧ ∀ t, t ≠ j → sumTo (y' t) o.s8_strips.length = sumTo (y t) o.s8_strips.length) (fun s => o.s8_strips.length - s.t50.toNat) _ (fun s hs => ?_) FU _ (FU_lt (by simp only; omega)) ⟨0, rfl, Nat.zero_le _, hp, y, hy, rfl, rfl, fun _ _ => rfl⟩
  obtain ⟨k, hk, hkle, hh, y', hy', hre, hsum, hoth⟩ := hs
  unfold yY
  rw [hk, hre, hsum]
  by_cases hlt : (k : Int) < t24.r0
  · left
    have hkl : k < o.s8_strips.length := by omega
    rw [if_pos hlt, hsj, Yl (s := ⟨o.s8_strips, s1.s8_carried⟩) (by simp only; omega) (by omega), Option.bind_some]
    have hc : ∃ z : y7, (((if reachB o.s8_strips j k = true then ((ix o.s8_strips (k : Int)).bind fun t61 => if t61.tenant = (j : Int) then (some (⟨true, s.b0_1, s.b0_2⟩ : kv)) else ((kA l s.b0_1 s.b0_2 4).bind fun t68 => some (⟨t68.r0, t68.h0_1, t68.h0_2⟩ : kv))) else (some (⟨false, s.b0_1, s.b0_2⟩ : kv))).bind fun o_4 => if o_4.t70 = true then ((jL l o_4.b0_1 o_4.b0_2 4).bind fun t72 => some (⟨t72.r0, t72.h0_1, t72.h0_2⟩ : y7)) else (some (⟨0, o_4.b0_1, o_4.b0_2⟩ : y7)))) = some z ∧ HOK l z.b0_1 ∧ 0 ≤ z.n15 ∧ z.n15 ≤ 4 ∧ (0 < z.n15 → reachB o.s8_strips j k = true) := by
      by_cases hr : reachB o.s8_strips j k = true
      · rw [if_pos hr, ix_nat default hkl, Option.bind_some]
        have hc4 : ∃ z4 : kv, (if (o.s8_strips.getD k default).tenant = (j : Int) then (some (⟨true, s.b0_1, s.b0_2⟩ : kv)) else ((kA l s.b0_1 s.b0_2 4).bind fun t68 => some (⟨t68.r0, t68.h0_1, t68.h0_2⟩ : kv))) = some z4 ∧ HOK l z4.b0_1 := by
          split
          · exact ⟨_, rfl, hh⟩
          · obtain ⟨x, hx, hk2⟩ := once_ok (r := s.b0_2) (n := 4) hl hh (by omega)
            rw [hx, Option.bind_some]
            exact ⟨_, rfl, hk2⟩
        obtain ⟨z4, hz4, hk4⟩ := hc4
        rw [hz4, Option.bind_some]
        split
        · obtain ⟨x, hx, hb, hk2⟩ := upto_ok (r := z4.b0_2) (n := 4) hl hk4 (by omega)
          rw [hx, Option.bind_some]
          exact ⟨_, rfl, hk2, by simp only; omega, by simp only; omega, fun _ => hr⟩
        · exact ⟨_, rfl, hk4, by simp, by simp, fun _ => hr⟩
      · rw [if_neg hr, Option.bind_some, if_neg (by simp)]
        exact ⟨_, rfl, hh, by simp, by simp, fun h => absurd h (Int.lt_irrefl _)⟩
    obtain ⟨z, hz, hzk, hz0, hz4, hzr⟩ := hc
    rw [hz, Option.bind_some, rowsM_at hj, Option.bind_some, appc_eq (by simp only [List.length_map, List.length_range, List.length_cons, List.length_nil]; omega), Option.bind_some]
    have hb := sumTo_bound (f := y' j) (b := 4) (n := k) (fun i _ => ⟨(hy' j i).1, (hy' j i).2.1⟩)
    rw [addc_eq (by omega), Option.bind_some, Option.bind_some, Option.bind_some, addc_eq (by omega), Option.bind_some, show Int.toNat (j : Int) = j by omega, rowsM_put]
    refine ⟨_, rfl, ⟨k + 1, rfl, by omega, hzk, putY y' j k z.n15, fun t k' => ?_, rfl, ?_, fun t ht => ?_⟩, by simp only; omega⟩
    · unfold putY
      split
      · rename_i he
        obtain ⟨e1, e2⟩ := he
        subst e1; subst e2
        exact ⟨hz0, hz4, hzr⟩
      · exact hy' t k'
    · rw [putY_sum]
    · rw [putY_row ht]; exact hoth t ht
  · right
    have : k = o.s8_strips.length := by omega
    subst this
    rw [if_neg hlt]
    exact ⟨_, rfl, hh, y', hy', rfl, rfl, hoth⟩
structure CarOK (S : Nat) (y : Nat → Nat → Int) (ca : List Span) (n : Nat) : Prop where
  len : ca.length = n
  ok : ∀ t, t < n → 0 ≤ (hOf ca t).lo ∧ (hOf ca t).lo ≤ sumTo (y t) S ∧ sumTo (y t) S ≤ (hOf ca t).hi ∧ (hOf ca t).hi ≤ 30
theorem made_L1 {l : List Int} (hl : l.length ≤ 9223372036854775807) {t24 : jJ} {o : yt} {T : Nat} (hT : T ≤ 5) (hS : (o.s8_strips.length : Int) = t24.r0) (h6 : o.s8_strips.length ≤ 6) {t43 : List (List Int)} (h43 : t43.length = T) {p r : Int} (hp : HOK l p) :
    ∃ o1, iterM FU (yZ t43 t24 o l) ⟨0, p, r, rowsM T o.s8_strips.length (fun _ _ => 0) 0 0, []⟩ = some o1 ∧ HOK l o1.b0_1 ∧ ∃ y, YOK o.s8_strips y ∧ o1.real11 = mat T o.s8_strips.length y ∧ CarOK o.s8_strips.length y o1.s8_carried T := by
  refine iterM_inv (f := yZ t43 t24 o l) (fun s => ∃ j : Nat, s.t46 = (j : Int) ∧ j ≤ T ∧ HOK l s.b0_1 ∧ ∃ y, YOK o.s8_strips y ∧ s.real11 = rowsM T o.s8_strips.length y j 0 ∧ CarOK o.s8_strips.length y s.s8_carried j) (fun s => T - s.t46.toNat) _ (fun s hs => ?_) FU _ (FU_lt (by simp only; omega)) ⟨0, rfl, Nat.zero_le _, hp, fun _ _ => 0, fun t k => ⟨Int.le_refl _, (by decide : (0 : Int) ≤ 4), fun h => absurd h (Int.lt_irrefl _)⟩, rfl, rfl, fun t ht => by omega⟩
  obtain ⟨j, hj, hjle, hh, y, hy, hre, hca⟩ := hs
  have hcl := hca.len
  unfold yZ
  rw [hj, hre, h43]
  by_cases hlt : (j : Int) < (T : Int)
  · left
    rw [if_pos hlt]
    obtain ⟨o2, ho2, hk2, y', hy', hre', hsum', hoth⟩ := made_L2 hl (t24 := t24) hT hS h6 (s1 := s) (j := j) (by omega) hj hy (r := s.b0_2) hh
    rw [ho2, Option.bind_some, hsum']
    have hb := sumTo_bound (f := y' j) (b := 4) (n := o.s8_strips.length) (fun i _ => ⟨(hy' j i).1, (hy' j i).2.1⟩)
    obtain ⟨x, hx, hb2, hk3⟩ := around_ok (r := o2.b0_2) (n := sumTo (y' j) o.s8_strips.length) (wd := 2) hl hk2 (by omega) (by omega)
    rw [hx, Option.bind_some, appc_eq (by simp only [List.length_cons, List.length_nil]; omega), Option.bind_some, addc_eq (by omega), Option.bind_some]
    refine ⟨_, rfl, ⟨j + 1, rfl, by omega, hk3, y', hy', ?_, ?_, fun t ht => ?_⟩, by simp only; omega⟩
    · simp only; rw [hre', rowsM_next]
    · simp only [List.length_append, List.length_cons, List.length_nil]; omega
    · unfold hOf
      simp only
      rw [List.getD_eq_getElem?_getD]
      by_cases htj : t = j
      · subst htj
        rw [List.getElem?_append_right (by omega), hcl, Nat.sub_self]
        simp only [List.getElem?_cons_zero, Option.getD_some]
        omega
      · rw [List.getElem?_append_left (by omega), hoth t htj]
        have := hca.ok t (by omega)
        unfold hOf at this
        rw [List.getD_eq_getElem?_getD] at this
        exact this
  · right
    have : j = T := by omega
    subst this
    rw [if_neg hlt]
    exact ⟨_, rfl, hh, y, hy, by simp only; rw [rowsM_mat], hca⟩
theorem made_L4 {T S : Nat} (hT : T ≤ 5) {o1 : yj} {y : Nat → Nat → Int} (hy : ∀ t k, 0 ≤ y t k ∧ y t k ≤ 4) (hr : o1.real11 = mat T S y) {s3 : yg} {k : Nat} (hk : k < S) (hs : s3.t97 = (k : Int)) :
    iterM FU (yu o1 s3) ⟨0, 0⟩ = some (sumTo (fun t => y t k) T) := by
  have key := iterM_run (f := yu o1 s3) (fun j => ⟨sumTo (fun t => y t k) j, (j : Int)⟩) T (b := sumTo (fun t => y t k) T) (fun j hj => ?_) ?_ FU (FU_lt (by omega))
  · exact key
  · unfold yu
    have hlt : (j : Int) < (o1.real11.length : Int) := by rw [hr]; simp [mat]; omega
    simp only
    have hb := sumTo_bound (f := fun t => y t k) (b := 4) (n := j) (fun i _ => hy i k)
    have hb2 := hy j k
    rw [if_pos hlt, hr, mat_row hj, Option.bind_some, hs, range_ix hk, Option.bind_some, addc_eq (by omega), Option.bind_some, addc_eq (by omega), Option.bind_some]
    rfl
  · unfold yu
    simp only
    rw [if_neg (by rw [hr]; simp [mat])]
structure StOK (T : Nat) (y : Nat → Nat → Int) (x : Strip) (k : Nat) : Prop where
  a : In30 x.lay
  b : In30 x.seeded
  c : In30 x.left
  o1 : x.lay.lo ≤ x.lay.hi
  o2 : x.seeded.lo ≤ x.seeded.hi
  o3 : x.left.lo ≤ x.left.hi
  g1 : (goneP x).lo ≤ sumTo (fun t => y t k) T
  g2 : sumTo (fun t => y t k) T ≤ (goneP x).hi
theorem made_L3 {l : List Int} (hl : l.length ≤ 9223372036854775807) {t24 : jJ} {st : List Strip} {T : Nat} (hT : T ≤ 5) (hS : (st.length : Int) = t24.r0) (h6 : st.length ≤ 6) {o1 : yj} {y : Nat → Nat → Int} (hy : ∀ t k, 0 ≤ y t k ∧ y t k ≤ 4) (hr : o1.real11 = mat T st.length y) {p r : Int} (hp : HOK l p) :
    ∃ o5, iterM FU (yX t24 o1 l) ⟨0, p, r, st⟩ = some o5 ∧ HOK l o5.b0_1 ∧ o5.s8_strips.map (·.tenant) = st.map (·.tenant) ∧ ∀ k, k < st.length → StOK T y (o5.s8_strips.getD k default) k := by
  refine iterM_inv (f := yX t24 o1 l) (fun s => ∃ k : Nat, s.t97 = (k : Int) ∧ k ≤ st.length ∧ HOK l s.b0_1 ∧ s.s8_strips.map (·.tenant) = st.map (·.tenant) ∧ ∀ i, i < k → StOK T y (s.s8_strips.getD i default) i) (fun s => st.length - s.t97.toNat) _ (fun s hs => ?_) FU _ (FU_lt (by simp only; omega)) ⟨0, rfl, Nat.zero_le _, hp, rfl, fun i hi => by omega⟩
  obtain ⟨k, hk, hkle, hh, hten, hok⟩ := hs
  have hlen : s.s8_strips.length = st.length := by have := congrArg List.length hten; simpa using this
  unfold yX
  by_cases hlt : (k : Int) < t24.r0
  · left
    have hkl : k < st.length := by omega
    rw [hk, if_pos hlt, made_L4 hT hy hr hkl hk, Option.bind_some]
    have hb := sumTo_bound (f := fun t => y t k) (b := 4) (n := T) (fun i _ => hy i k)
    generalize hg : sumTo (fun t => y t k) T = g at hb
    obtain ⟨x1, e1, b1, k1⟩ := upto_ok (r := s.b0_2) (n := 3) hl hh (by omega)
    rw [e1, Option.bind_some]
    obtain ⟨x2, e2, b2, k2⟩ := upto_ok (r := x1.h0_2) (n := 2) hl k1 (by omega)
    rw [e2, Option.bind_some, addc_eq (by omega), Option.bind_some, ix_nat default (by omega), Option.bind_some, Option.bind_some, subc_eq (by omega), Option.bind_some]
    obtain ⟨x3, e3, b3, k3⟩ := around_ok (r := x2.h0_2) (n := g + x1.r0 - min x2.r0 (g + x1.r0)) (wd := 1) hl k2 (by omega) (by omega)
    rw [e3, Option.bind_some]
    obtain ⟨x4, e4, b4, k4⟩ := around_ok (r := x3.b0_2) (n := min x2.r0 (g + x1.r0)) (wd := 1) hl k3 (by omega) (by omega)
    rw [e4, Option.bind_some]
    obtain ⟨x5, e5, b5, k5⟩ := around_ok (r := x4.b0_2) (n := x1.r0) (wd := 1) hl k4 (by omega) (by omega)
    rw [e5, Option.bind_some, Option.bind_some, show Int.toNat (k : Int) = k by omega, ix_nat default (by rw [List.length_set]; omega), Option.bind_some, Option.bind_some, ix_nat default (by rw [List.length_set, List.length_set]; omega), Option.bind_some, Option.bind_some, addc_eq (by omega), Option.bind_some]
    have hgs : ∀ (l : List Strip) (v : Strip), k < l.length → (l.set k v).getD k default = v := fun l v h => by
      rw [List.getD_eq_getElem?_getD, List.getElem?_set_self h]; rfl
    rw [hgs _ _ (by omega), hgs _ _ (by rw [List.length_set]; omega), List.set_set, List.set_set]
    simp only
    refine ⟨_, rfl, ⟨k + 1, rfl, by omega, k5, ?_, fun i hi => ?_⟩, by simp only; omega⟩
    · simp only
      rw [List.map_set]
      simp only
      rw [← hten]
      apply List.ext_getElem?
      intro i
      rw [List.getElem?_set]
      by_cases hik : k = i
      · subst hik
        rw [if_pos rfl, if_pos (by rw [List.length_map]; omega), List.getElem?_map, List.getD_eq_getElem?_getD, List.getElem?_eq_getElem (by omega)]
        rfl
      · rw [if_neg hik]
    · by_cases hik : i = k
      · subst hik
        rw [hgs _ _ (by omega)]
        unfold In30 at *
        refine ⟨by unfold In30; simp only; omega, by unfold In30; simp only; omega, by unfold In30; simp only; omega, by simp only; omega, by simp only; omega, by simp only; omega, ?_, ?_⟩
        · rw [hg]; unfold goneP; simp only; omega
        · rw [hg]; unfold goneP; simp only; omega
      · simp only
        rw [List.getD_eq_getElem?_getD, List.getElem?_set_ne (fun e => hik e.symm), ← List.getD_eq_getElem?_getD]
        exact hok i (by omega)
  · right
    have : k = st.length := by omega
    subst this
    rw [hk, if_neg hlt]
    exact ⟨_, rfl, hh, hten, hok⟩
theorem Made_spec {l : List Int} (hl : l.length ≤ 9223372036854775807) {p r S0 T0 : Int} (hp : HOK l p) (hS : 1 ≤ S0 ∧ S0 ≤ 6) (hT : 1 ≤ T0 ∧ T0 ≤ 5) :
    ∃ x y, JN l p r S0 T0 = some x ∧ HOK l x.b0_1 ∧ Right x.r0 ∧ x.r1 = mat x.r0.carried.length x.r0.strips.length y ∧ FitsS x.r0 y ∧ YOK x.r0.strips y ∧ (x.r0.strips.length : Int) ≤ S0 ∧ (x.r0.carried.length : Int) ≤ T0 := by
  unfold JN
  obtain ⟨t24, e24, b24, k24⟩ := from_ok (r := r) (lo := 1) (hi := S0) hl hp (by omega)
  rw [e24, Option.bind_some]
  obtain ⟨t27, e27, b27, k27⟩ := from_ok (r := t24.h0_2) (lo := 1) (hi := T0) hl k24 (by omega)
  rw [e27, Option.bind_some]
  obtain ⟨o, eo, ko, lo, to⟩ := made_L0 (t24 := t24) (t27 := t27) (r := t27.h0_2) hl (by omega) (by omega) k27
  rw [eo, Option.bind_some, makec_eq (by omega), Option.bind_some]
  obtain ⟨T, hTn⟩ : ∃ T : Nat, t27.r0 = (T : Int) := ⟨t27.r0.toNat, by omega⟩
  have hrep : List.replicate t27.r0.toNat ([] : List Int) = rowsM T o.s8_strips.length (fun _ _ => 0) 0 0 := by
    unfold rowsM
    symm
    rw [List.eq_replicate_iff]
    refine ⟨by simp; omega, fun b hb => ?_⟩
    obtain ⟨t, _, rfl⟩ := List.mem_map.1 hb
    simp
  obtain ⟨o1, e1, k1, y, hy, hr1, hca⟩ := made_L1 (l := l) hl (t24 := t24) (o := o) (T := T) (by omega) lo (by omega) (t43 := List.replicate t27.r0.toNat ([] : List Int)) (by simp; omega) (r := o.b0_2) ko
  rw [← hrep] at e1
  rw [e1, Option.bind_some]
  obtain ⟨o5, e5, k5, ht5, hs5⟩ := made_L3 (l := l) hl (t24 := t24) (st := o.s8_strips) (T := T) (by omega) lo (by omega) (o1 := o1) (y := y) (fun t k => ⟨(hy t k).1, (hy t k).2.1⟩) hr1 (r := o1.b0_2) k1
  rw [e5, Option.bind_some]
  have hl5 : o5.s8_strips.length = o.s8_strips.length := by have := congrArg List.length ht5; simpa using this
  have hcl := hca.len
  have hre : ∀ t k, reachB o5.s8_strips t k = reachB o.s8_strips t k := reachB_congr ht5
  have hst : ∀ x, x ∈ o5.s8_strips → ∃ k, k < o.s8_strips.length ∧ StOK T y x k := fun x hx => by
    obtain ⟨k, hk, rfl⟩ := List.getElem_of_mem hx
    have := hs5 k (by omega)
    rw [List.getD_eq_getElem?_getD, List.getElem?_eq_getElem hk] at this
    exact ⟨k, by omega, this⟩
  refine ⟨_, y, rfl, k5, ⟨⟨by simp only; omega, by simp only; omega, fun x hx => ?_, fun x hx => ?_⟩, by simp only; omega, by simp only; omega, fun x hx => ?_, fun x hx => ?_⟩, ?_, ⟨fun t k ht hk => ?_, fun t ht => ?_, fun k hk => ?_⟩, fun t k => ?_, by simp only; omega, by simp only; omega⟩
  · obtain ⟨k, hk, h⟩ := hst x hx
    exact ⟨h.a, h.b, h.c, Int.le_trans h.g1 h.g2⟩
  · obtain ⟨t, ht, rfl⟩ := List.getElem_of_mem hx
    simp only at ht
    have := hca.ok t (by omega)
    unfold hOf at this
    rw [List.getD_eq_getElem?_getD, List.getElem?_eq_getElem ht, Option.getD_some] at this
    unfold In30
    simp only
    omega
  · have hm : x.tenant ∈ o5.s8_strips.map (·.tenant) := List.mem_map.2 ⟨x, hx, rfl⟩
    rw [ht5] at hm
    obtain ⟨x', hx', he⟩ := List.mem_map.1 hm
    have := to x' hx'
    rw [he] at this
    simp only
    omega
  · obtain ⟨k, hk, h⟩ := hst x hx
    exact ⟨h.o1, h.o2, h.o3⟩
  · simp only
    rw [hr1, hcl, hl5]
  · simp only at ht hk ⊢
    rw [hre]
    exact ⟨(hy t k).1, (hy t k).2.2⟩
  · simp only at ht ⊢
    rw [hl5]
    have := hca.ok t (by omega)
    exact ⟨this.2.1, this.2.2.1⟩
  · simp only at hk ⊢
    rw [hcl]
    have := hs5 k (by omega)
    exact ⟨this.g1, this.g2⟩
  · simp only
    rw [hre]
    exact hy t k
end Go.Proofs.Ws

namespace Go.Proofs.Ws
open Go Go.Fw Go.Gx Go.Sp
set_option maxRecDepth 100000 in
theorem awake_eq : m_l_awake = some true := by decide +kernel
end Go.Proofs.Ws

namespace Go.Proofs.Ws
open Go Go.Fw Go.Gx Go.Sp
set_option linter.unusedVariables false
def AscR (l : List Int) (n : Int) : Prop := (∀ j, j + 1 < l.length → gtI l j < gtI l (j + 1)) ∧ ∀ x, x ∈ l → 0 ≤ x ∧ x < n
theorem AscR.nil {n : Int} : AscR [] n := ⟨fun j hj => by simp at hj, fun x hx => by simp at hx⟩
theorem AscR.mono {l : List Int} {n m : Int} (h : AscR l n) (hnm : n ≤ m) : AscR l m := ⟨h.1, fun x hx => by have := h.2 x hx; omega⟩
theorem AscR.inr {l : List Int} {n : Int} (h : AscR l n) : (l.all fun x => inb x 0 (n - 1)) = true := by
  rw [List.all_eq_true]
  intro x hx
  have := h.2 x hx
  exact inb_iff.2 (by omega)
theorem right_set {st : List Strip} {ca : List Span} (h : Right ⟨st, ca⟩) {j : Nat} {v : Span} (hv : In30 v) (hle : v.lo ≤ v.hi) : Right ⟨st, ca.set j v⟩ := by
  refine ⟨⟨h.net.s6, by simp only; rw [List.length_set]; exact h.net.c5, h.net.sp, fun x hx => ?_⟩, h.s1, by simp only; rw [List.length_set]; exact h.c1, fun x hx => by simp only; rw [List.length_set]; exact h.ten x hx, h.ord⟩
  rcases List.mem_or_eq_of_mem_set hx with h1 | h1
  · exact h.net.cp x h1
  · rw [h1]; exact ⟨hv, hle⟩
end Go.Proofs.Ws

namespace Go.Proofs.Ws
open Go Go.Fw Go.Gx Go.Sp
set_option linter.unusedVariables false
def jsC (t0 k0 t k : Nat) : Int := cnt (decide (t = t0 ∧ k = k0))
theorem cf_taken (s : Scalps) (t0 k0 : Nat) : CfIs s (fun p => qY p (t0 : Int) (k0 : Int)) (jsC t0 k0) := fun t k _ _ => by
  refine ⟨?_, (cnt_range _).1, (cnt_range _).2.1⟩
  unfold qY J2 jsC cnt
  simp only [Option.bind_some]
  by_cases h : t = t0 ∧ k = k0
  · obtain ⟨rfl, rfl⟩ := h
    rw [if_pos (decide_eq_true rfl), if_pos (decide_eq_true ⟨rfl, rfl⟩)]
  · rw [if_neg (fun hh => h (of_decide_eq_true hh)), if_neg]
    intro hh
    have := of_decide_eq_true hh
    simp only [Pair.mk.injEq] at this
    exact h ⟨by omega, by omega⟩
theorem inb_nat {n : Nat} {t : Nat} : inb (t : Int) 0 ((n : Int) - 1) = decide (t < n) := by
  rw [Bool.eq_iff_iff, inb_iff, decide_eq_true_iff]; omega
theorem Taken_spec {s : Scalps} (h : Right s) {t k : Nat} (ht : t < s.carried.length) (hk : k < s.strips.length) : (∃ lo hi, Jg s (t : Int) (k : Int) = some ⟨⟨lo, hi⟩, 0⟩ ∧ IsRange s (jsC t k) lo hi) ∨ (Jg s (t : Int) (k : Int) = some ⟨⟨0, 0⟩, 7⟩ ∧ NoFit s) := by
  obtain ⟨mp, hmp, hm⟩ := yL h
  have h5 := h.net.c5; have h6 := h.net.s6
  unfold Jg KD
  rw [hmp, Option.bind_some, oc_inr, Qs (by omega), Option.bind_some, inb_nat, decide_eq_true ht]
  simp only [Bool.not_true, Bool.false_eq_true, if_false]
  rw [ZL (by omega), Option.bind_some, Option.bind_some, inb_nat, decide_eq_true hk]
  simp only [Bool.not_true, Bool.false_eq_true, if_false]
  rw [Option.bind_some]
  rcases spread_spec h hm (cf_taken s t k) with ⟨lo, hi, h1, hr⟩ | ⟨h1, hn⟩
  · rw [h1, Option.bind_some]; exact .inl ⟨lo, hi, rfl, hr⟩
  · rw [h1, Option.bind_some]; exact .inr ⟨rfl, hn⟩
end Go.Proofs.Ws

namespace Go.Proofs.Ws
open Go Go.Fw Go.Gx Go.Sp
set_option linter.unusedVariables false
theorem hOf_set {ca : List Span} {t t' : Nat} {v : Span} (ht : t < ca.length) : hOf (ca.set t v) t' = if t' = t then v else hOf ca t' := by
  unfold hOf
  rw [List.getD_eq_getElem?_getD, List.getD_eq_getElem?_getD, List.getElem?_set]
  by_cases h : t = t'
  · subst h; rw [if_pos rfl, if_pos ht, if_pos rfl]; rfl
  · rw [if_neg h, if_neg (fun e => h e.symm)]
end Go.Proofs.Ws

namespace Go.Proofs.Ws
open Go Go.Fw Go.Gx Go.Sp
set_option linter.unusedVariables false
structure Alike (s s' : Scalps) : Prop where
  ca : s'.carried = s.carried
  ten : s'.strips.map (·.tenant) = s.strips.map (·.tenant)
  gone : ∀ k, k < s.strips.length → gOf s'.strips k = gOf s.strips k
theorem Alike.len {s s' : Scalps} (h : Alike s s') : s'.strips.length = s.strips.length := by have := congrArg List.length h.ten; simpa using this
theorem Alike.fits {s s' : Scalps} (h : Alike s s') {y : Nat → Nat → Int} : FitsS s' y ↔ FitsS s y := by
  have hl := h.len
  have hr : ∀ t k, reachB s'.strips t k = reachB s.strips t k := reachB_congr h.ten
  constructor
  · intro hy
    exact ⟨fun t k ht hk => by rw [← hr]; exact hy.pos t k (by rw [h.ca]; exact ht) (by omega), fun t ht => by have := hy.ten t (by rw [h.ca]; exact ht); rw [h.ca, hl] at this; exact this, fun k hk => by have := hy.str k (by omega); rw [h.gone k hk, h.ca] at this; exact this⟩
  · intro hy
    exact ⟨fun t k ht hk => by rw [hr]; exact hy.pos t k (by rw [← h.ca]; exact ht) (by omega), fun t ht => by rw [h.ca, hl]; exact hy.ten t (by rw [← h.ca]; exact ht), fun k hk => by rw [h.gone k (by omega), h.ca]; exact hy.str k (by omega)⟩
theorem Alike.count {s s' : Scalps} (h : Alike s s') {c c' : Nat → Nat → Int} (hc : ∀ t k, c' t k = c t k) (y : Nat → Nat → Int) : countS s' c' y = countS s c y := by
  unfold countS countY
  rw [h.ca, h.len]
  exact sumTo_congr fun t ht => sumTo_congr fun k hk => by rw [hc]
theorem Alike.range {s s' : Scalps} (h : Alike s s') {c c' : Nat → Nat → Int} (hc : ∀ t k, c' t k = c t k) {lo hi : Int} (hr : IsRange s' c' lo hi) : IsRange s c lo hi := by
  obtain ⟨⟨y1, f1, e1⟩, ⟨y2, f2, e2⟩, h3⟩ := hr
  exact ⟨⟨y1, h.fits.1 f1, by rw [← h.count hc]; exact e1⟩, ⟨y2, h.fits.1 f2, by rw [← h.count hc]; exact e2⟩, fun y hy => by rw [← h.count hc]; exact h3 y (h.fits.2 hy)⟩
end Go.Proofs.Ws

namespace Go.Proofs.Ws
open Go Go.Fw Go.Gx Go.Sp
set_option linter.unusedVariables false
def slack (π : Int → Int) (s : List Int) : Int := sumTo (fun v => gI 0 s (v : Int) - π (v : Int)) 12
end Go.Proofs.Ws

namespace Go.Proofs.Ws
open Go Go.Fw Go.Gx Go.Sp
set_option linter.unusedVariables false
def gtB (l : List Bool) (j : Nat) : Bool := l.getD j false
structure BookOK (P : Nat → Int → Prop) (N : Nat) (b : Book) : Prop where
  l1 : b.can.length = N
  l2 : b.least.length = N
  l3 : b.most.length = N
  can : ∀ a, a < N → (gtB b.can a = true ↔ ∃ v, P a v)
  bd : ∀ a v, a < N → P a v → gtI b.least a ≤ v ∧ v ≤ gtI b.most a
  ends : ∀ a, a < N → gtB b.can a = true → P a (gtI b.least a) ∧ P a (gtI b.most a)
theorem BookOK.congr {P P' : Nat → Int → Prop} {N : Nat} {b : Book} (h : BookOK P N b) (hp : ∀ a v, a < N → (P a v ↔ P' a v)) : BookOK P' N b :=
  ⟨h.l1, h.l2, h.l3, fun a ha => (h.can a ha).trans ⟨fun ⟨v, hv⟩ => ⟨v, (hp a v ha).1 hv⟩, fun ⟨v, hv⟩ => ⟨v, (hp a v ha).2 hv⟩⟩, fun a v ha hv => h.bd a v ha ((hp a v ha).2 hv), fun a ha hc => ⟨(hp a _ ha).1 (h.ends a ha hc).1, (hp a _ ha).1 (h.ends a ha hc).2⟩⟩
end Go.Proofs.Ws

namespace Go.Proofs.Ws
open Go Go.Fw Go.Gx Go.Sp
set_option linter.unusedVariables false
theorem own_eq {s : Scalps} (hS : s.strips.length ≤ 1000) (hT : s.carried.length ≤ 1000) : QK s = some s := by
  unfold QK qV ze
  rw [makec_eq ⟨by omega, by omega, by omega, by omega⟩, Option.bind_some, appc_eq (by simp; omega), Option.bind_some, Option.bind_some, makec_eq ⟨by omega, by omega, by omega, by omega⟩, Option.bind_some, appc_eq (by simp; omega), Option.bind_some, Option.bind_some]
  simp
end Go.Proofs.Ws

namespace Go.Proofs.Ws
open Go Go.Fw Go.Gx Go.Sp
set_option linter.unusedVariables false
def sumL (f : Int → Int) (l : List Int) (j : Nat) : Int := sumI f (l.take j)
theorem sumL_succ {f : Int → Int} {l : List Int} {j : Nat} (hj : j < l.length) : sumL f l (j + 1) = sumL f l j + f (gtI l j) := by
  unfold sumL
  rw [List.take_succ_eq_append_getElem hj, sumI_append]
  have : gtI l j = l[j] := by simp [gtI, List.getD_eq_getElem?_getD, hj]
  rw [this]
  simp [sumI]
end Go.Proofs.Ws

namespace Go.Proofs.Ws
set_option maxHeartbeats 4000000
set_option maxRecDepth 100000
open Go Go.Fw Go.Gx Go.Sp
open Try
set_option linter.unusedVariables false

structure j0 where
  h0_1 : Int
  h0_2 : Int
  r0 : (List Int)
structure Jl where
  h0_1 : Int
  h0_2 : Int
  out5 : (List Int)
structure qp where
  t9 : Int
  h0_1 : Int
  h0_2 : Int
  out5 : (List Int)
def kz (n1 : Int) (h00 : (List Int)) (s : qp) : Option (qp ⊕ Jl) :=
 if s.t9 < (max 0 n1) then
 ((jL h00 s.h0_1 s.h0_2 s.t9).bind fun t15 =>
 (q3 s.out5 t15.r0 [s.t9]).bind fun t18 =>
 (addc s.t9 1).bind fun t19 =>
 some (.inl (⟨t19, t15.h0_1, t15.h0_2, t18⟩ : qp))) else
 (some (.inr (⟨s.h0_1, s.h0_2, s.out5⟩ : Jl)))
def qB (h00 : (List Int)) (h01 : Int) (h02 : Int) (n1 : Int) : Option j0 :=
 (iterM FU (kz n1 h00) (⟨0, h01, h02, []⟩ : qp)).bind fun o =>
 some (⟨o.h0_1, o.h0_2, o.out5⟩ : j0)
theorem Qo (h00 : (List Int)) (h01 : Int) (h02 : Int) (n1 : Int) (pb : Nat) (qa0 : Option Addr) (na0 ca0 : Nat) (w : World) (hw : HV w (keys [kc pb #[.slice qa0 na0 ca0, .int .i64 h01, .int .u32 h02] 105] []) [kc pb #[.slice qa0 na0 ca0, .int .i64 h01, .int .u32 h02] 105] [] [(aB qa0, aO qa0, RU8.enc h00)] w) (hna0 : h00.length = na0) (hqa0 : AOK na0 qa0) (hla0 : na0 ≤ ca0) {res : j0} (hm : qB h00 h01 h02 n1 = some res) :
    Calls Try.prog 51 #[ptr pb 0, .int .i64 n1] w (fun en w' => ∃ l : VL, en = .returned (sL l) ∧ (VOK 1 l.n l.cap (RI.enc res.r0) l.sp l.q) ∧ HV w (keys [kc pb #[.slice qa0 na0 ca0, .int .i64 h01, .int .u32 h02] 105] []) [kc pb #[.slice qa0 na0 ca0, .int .i64 res.h0_1, .int .u32 res.h0_2] 105] [vL 3 l (RI.enc res.r0)] [] w') := by
  unfold qB at hm
  refine kl func51 Y ntmps51 Y (e := [(0, _), (1, _)]) Y hw (jp (jb Y Y Y (fun _ _ => qf Y) (jV (jb Y Y Y (fun _ _ => qf Y) (jo (jk (jp ?_)))))))
  refine je Y Y (jb Y Y Y (fun _ _ => Y7 Y Y) (je Y Y (jo (kG 3 ?_))))
  obtain ⟨o, h2, h3⟩ := bindO hm
  refine jM (ι := VL) (fun l => VOK 1 l.n l.cap (RI.enc o.out5) l.sp l.q) (fun l => [(5, sL l)]) (fun l => [kc pb #[.slice qa0 na0 ca0, .int .i64 o.h0_1, .int .u32 o.h0_2] 105]) (fun l => [vL 3 l (RI.enc o.out5)]) ?_ ?_
  ·replace hm := h2
   refine jj ?_
   refine jD (ι := VL) hm (fun s l_1 => VOK 1 l_1.n l_1.cap (RI.enc s.out5) l_1.sp l_1.q) (fun s l_1 => [(0, ptr pb 0), (5, sL l_1), (8, .int .i64 (max 0 n1)), (9, .int .i64 s.t9)]) (fun s l_1 => [kc pb #[.slice qa0 na0 ca0, .int .i64 s.h0_1, .int .u32 s.h0_2] 105]) (fun s l_1 => [vL 3 l_1 (RI.enc s.out5)]) ⟨none, 0, 0, []⟩ (VOK.nil) (sE Y) (fun w hh => hh) (fun s l_1 r hpl hm h6 => ?_)
   have h5 := hpl
   unfold kz at hm
   refine jp (zK Y Y Y (jo (jk ?_)))
   refine jr Y (fun h7 => ?_) (fun h7 => ?_)
   ·replace hm := ifD h7 hm
    refine js (ja (jk (jj (jp (je Y Y (jl Y Y (jo ?_)))))))
    refine jh (je Y Y (je Y Y (je Y Y ?_)))
    obtain ⟨t15, h8, hm⟩ := bindO hm
    refine jd [_] [] Y Y Y Y Y Y Y call33 (fun w hh => kd h00 s.h0_1 s.h0_2 s.t9 pb qa0 na0 ca0 w (HV.callee (S0 := [_]) (vs0 := []) hh (roR hh 0 Y roN)) hna0 hqa0 hla0 h8) (fun l_2 h9 => ?_)
    refine jH (S' := [_]) (vs' := [_]) [0] [0] 0 Y Y Y Y (je Y Y ?_)
    refine kS RI [s.t9] (ps := [(0, _)]) (cells := [_]) (fun w => runUnderlying32 w) (fun w => sizeOf3 w) (fun w => zeroValue3 w) Y Y Y Y Y Y Y Y (fun L h10 => ?_)
    obtain ⟨t18, h11, hm⟩ := bindO hm
    refine jH (S' := [_]) (vs' := [_, _]) [0] [1, 0] 0 Y Y Y Y ?_
    refine jd [] [_, _] Y Y Y Y Y Y Y call110 (fun w hh => Qn s.out5 t15.r0 [s.t9] ⟨l_1.q, l_1.n, l_1.cap, l_1.sp⟩ ⟨L.q, L.n, L.cap, L.sp⟩ w (HV.callee (S0 := []) (vs0 := [_, _]) hh roN) h5 h10 h11) (fun l_3 h12 => ?_)
    have h13 := h12
    refine jH (S' := [_]) (vs' := [_, _]) [0] [0, 1] 0 Y Y Y Y (jl Y Y (jx (jt (ja (jh ?_)))))
    obtain ⟨t19, h14, hm⟩ := bindO hm
    refine yA h14 Y Y Y (je Y Y (jx ?_))
    obtain rfl := sj hm
    refine ja ?_
    exact jz _ l_3 Y (h13) (sE Y) (hsE [0] [0] 0 Y Y Y Y)
   replace hm := ifE h7 hm
   refine jP (ji (ji (jC ?_)))
   obtain rfl := sj hm
   have hbo := h6 _ Y
   subst hbo
   exact jn l_1 (h5) (sE Y) (fun w hh => hh)
  intro l hj
  have h4 := hj
  replace hm := h3
  refine ja (jp (je Y Y (jl Y Y (jo (ju ?_)))))
  obtain rfl := sj hm
  refine jm Y (fun w hh => (.tmp Y .nil)) (fun w hh => ⟨l, rfl, h4, hh.se [0] [0] 1 Y Y Y rfl⟩)
structure jY where
  i2 : Int
  j3 : Int
  s0 : (List Strip)
def ks  (s : jY) : Option (jY ⊕ (List Strip)) :=
 if s.i2 < s.j3 then
 ((ix s.s0 s.j3).bind fun t20 =>
 (ix s.s0 s.i2).bind fun t24 =>
 (ix s.s0 s.i2).bind fun t26 =>
 (some (s.s0.set (Int.toNat s.i2) (⟨t20.tenant, (⟨t20.lay.lo, t20.lay.hi⟩ : Span), (⟨t20.seeded.lo, t20.seeded.hi⟩ : Span), (⟨t20.left.lo, t20.left.hi⟩ : Span)⟩ : Strip))).bind fun s0_1 =>
 (ix s0_1 s.j3).bind fun t27 =>
 (some (s0_1.set (Int.toNat s.j3) (⟨t24.tenant, (⟨t24.lay.lo, t24.lay.hi⟩ : Span), (⟨t24.seeded.lo, t24.seeded.hi⟩ : Span), (⟨t24.left.lo, t24.left.hi⟩ : Span)⟩ : Strip))).bind fun s0_2 =>
 (addc s.i2 1).bind fun t11 =>
 (subc s.j3 1).bind fun t13 =>
 some (.inl (⟨t11, t13, s0_2⟩ : jY))) else
 (some (.inr s.s0))
def qa (s0 : (List Strip)) : Option (List Strip) :=
 (subc (s0.length : Int) 1).bind fun t6 =>
 (iterM FU (ks) (⟨0, t6, s0⟩ : jY)).bind fun o =>
 some o
theorem Qi (s0 : (List Strip)) (V_s0 : VL) (w : World) (hw : HV w (keys [] [vL 77 V_s0 (RSt.enc s0)]) [] [vL 77 V_s0 (RSt.enc s0)] [] w) (hv_s0 : VOK 7 V_s0.n V_s0.cap (RSt.enc s0) V_s0.sp V_s0.q) {res : (List Strip)} (hm : qa s0 = some res) :
    Calls Try.prog 52 #[sL V_s0] w (fun en w' => ∃ l : Unit, en = .returned (.tuple #[]) ∧ (VOK 7 V_s0.n V_s0.cap (RSt.enc res) V_s0.sp V_s0.q) ∧ HV w (keys [] [vL 77 V_s0 (RSt.enc s0)]) [] [vL 77 V_s0 (RSt.enc res)] [] w') := by
  unfold qa at hm
  refine kl func52 Y ntmps52 Y (e := [(0, _)]) Y hw (jp (je Y Y (jb Y Y Y (fun w _ => zQ (vlen RSt hv_s0 Y) (runUnderlying25 w) Y) ?_)))
  obtain ⟨t6, h2, hm⟩ := bindO hm
  refine jb Y Y Y (fun _ _ => qc h2 Y Y) (jl Y Y (jl Y Y (jo ?_)))
  obtain ⟨o, h3, h4⟩ := bindO hm
  refine jM (ι := Unit) (fun l => VOK 7 V_s0.n V_s0.cap (RSt.enc o) V_s0.sp V_s0.q) (fun l => []) (fun l => []) (fun l => [vL 77 V_s0 (RSt.enc o)]) ?_ ?_
  ·replace hm := h3
   refine jj ?_
   refine jD (ι := Unit) hm (fun s l_1 => VOK 7 V_s0.n V_s0.cap (RSt.enc s.s0) V_s0.sp V_s0.q) (fun s l_1 => [(0, sL V_s0), (2, .int .i64 s.i2), (3, .int .i64 s.j3)]) (fun s l_1 => []) (fun s l_1 => [vL 77 V_s0 (RSt.enc s.s0)]) () (hv_s0) (sE Y) (fun w hh => hh) (fun s l_1 r hpl hm h7 => ?_)
   have h6 := hpl
   unfold ks at hm
   refine jk (jp (je Y Y (je Y Y (zK Y Y Y (jo ?_)))))
   refine jr Y (fun h8 => ?_) (fun h8 => ?_)
   ·replace hm := ifD h8 hm
    refine js (ja (jk (jj ?_)))
    refine j4 (some 13) (.free 0 (.free 1 (.free 2 (.free 3 (.free 4 (.free 5 (.free 6 (.hoist 7 (.free 8 (.free 9 (.free 10 (.hoist 11 (.free 12 (.last 13 (.free 14 (.last 15 .done)))))))))))))))) _ Y (by decide +kernel) (fun w k hh => hh.draw k) (fun w hh => hh) ?_
    refine kU Y Y Y (kU Y Y Y (kU Y Y Y (kU Y Y Y (kU Y Y Y (kU Y Y Y ?_)))))
    obtain ⟨t20, h9, hm⟩ := bindO hm
    refine jg Y Y Y Y (fun w _ => yJ h9 (runUnderlying25 w) (sizeOf77 w) Y Y (vlen RSt h6 Y) (vne h6)) ?_
    refine jG Y Y Y Y (fun w hh => kT RSt 0 [.int .i64 t20.tenant, .int .i64 t20.lay.lo, .int .i64 t20.lay.hi, .int .i64 t20.seeded.lo, .int .i64 t20.seeded.hi, .int .i64 t20.left.lo, .int .i64 t20.left.hi] h9 (isAgg77 w) (sizeOf77 w) Y (hh.vseg 0 Y h6) Y (Nat.add_zero _).symm) ?_
    refine kU Y Y Y (kU Y Y Y ?_)
    obtain ⟨t24, h10, hm⟩ := bindO hm
    refine jg Y Y Y Y (fun w _ => yJ h10 (runUnderlying25 w) (sizeOf77 w) Y Y (vlen RSt h6 Y) (vne h6)) ?_
    refine jG Y Y Y Y (fun w hh => kT RSt 0 [.int .i64 t24.tenant, .int .i64 t24.lay.lo, .int .i64 t24.lay.hi, .int .i64 t24.seeded.lo, .int .i64 t24.seeded.hi, .int .i64 t24.left.lo, .int .i64 t24.left.hi] h10 (isAgg77 w) (sizeOf77 w) Y (hh.vseg 0 Y h6) Y (Nat.add_zero _).symm) ?_
    obtain ⟨t26, h11, hm⟩ := bindO hm
    refine jg Y Y Y Y (fun w _ => yJ h11 (runUnderlying25 w) (sizeOf77 w) Y Y (vlen RSt h6 Y) (vne h6)) (Ko Y ?_)
    obtain ⟨s0_1, hs0_1, hm⟩ := bindO hm
    refine Yz (us := #[_, _, _, _, _, _, _]) RSt 0 (⟨t20.tenant, (⟨t20.lay.lo, t20.lay.hi⟩ : Span), (⟨t20.seeded.lo, t20.seeded.hi⟩ : Span), (⟨t20.left.lo, t20.left.hi⟩ : Span)⟩ : Strip) (fun w => sizeOf77 w) Y Y Y h6 Y Y Y Y h11 Y (Option.some.inj hs0_1) (fun h12 => ?_)
    refine jH (S' := []) (vs' := [_]) [] [0] 0 Y Y Y Y (Jp ?_)
    obtain ⟨t27, h13, hm⟩ := bindO hm
    refine jg Y Y Y Y (fun w _ => yJ h13 (runUnderlying25 w) (sizeOf77 w) Y Y (vlen RSt h12 Y) (vne h12)) (Ko Y ?_)
    obtain ⟨s0_2, hs0_2, hm⟩ := bindO hm
    refine Yz (us := #[_, _, _, _, _, _, _]) RSt 0 (⟨t24.tenant, (⟨t24.lay.lo, t24.lay.hi⟩ : Span), (⟨t24.seeded.lo, t24.seeded.hi⟩ : Span), (⟨t24.left.lo, t24.left.hi⟩ : Span)⟩ : Strip) (fun w => sizeOf77 w) Y Y Y h12 Y Y Y Y h13 Y (Option.some.inj hs0_2) (fun h14 => ?_)
    refine jH (S' := []) (vs' := [_]) [] [0] 0 Y Y Y Y (Jp (jN (jt (ja (jh (je Y Y ?_))))))
    obtain ⟨t11, h15, hm⟩ := bindO hm
    refine yA h15 Y Y Y (je Y Y ?_)
    obtain ⟨t13, h16, hm⟩ := bindO hm
    refine jb Y Y Y (fun _ _ => qc h16 Y Y) (jl Y Y (jl Y Y (jx ?_)))
    obtain rfl := sj hm
    refine ja ?_
    exact jz _ () Y (h14) (sE Y) (fun w hh => hh)
   replace hm := ifE h8 hm
   refine jP (ji (ji (jC ?_)))
   obtain rfl := sj hm
   have hbo := h7 _ Y
   subst hbo
   exact jn () (h6) (.nil) (fun w hh => hh)
  intro l hj
  have h5 := hj
  replace hm := h4
  obtain rfl := sj hm
  refine Kb Y (fun w hh => .nil) (fun w hh => ⟨(), rfl, h5, hh⟩)
structure jT where
  t5_1 : Int
  t5_2 : Int
  r0_carried : (List Span)
structure kt where
  t76 : Int
  r0_strips : (List Strip)
def jX (t72 : (List Strip)) (t67 : j0) (s : kt) : Option (kt ⊕ (List Strip)) :=
 if s.t76 < (t72.length : Int) then
 ((ix s.r0_strips s.t76).bind fun t86 =>
 (ix t67.r0 t86.tenant).bind fun t89 =>
 (ix s.r0_strips s.t76).bind fun t91 =>
 (some (s.r0_strips.set (Int.toNat s.t76) (⟨t89, t91.lay, t91.seeded, t91.left⟩ : Strip))).bind fun r0_strips =>
 (addc s.t76 1).bind fun t93 =>
 some (.inl (⟨t93, r0_strips⟩ : kt))) else
 (some (.inr s.r0_strips))
structure kY where
  t97 : Int
  r0_carried : (List Span)
def kg (o : jT) (t67 : j0) (s_1 : kY) : Option (kY ⊕ (List Span)) :=
 if s_1.t97 < (o.r0_carried.length : Int) then
 ((ix o.r0_carried s_1.t97).bind fun t100 =>
 (ix t67.r0 s_1.t97).bind fun t106 =>
 (ix s_1.r0_carried t106).bind fun t109 =>
 (some (s_1.r0_carried.set (Int.toNat t106) t100)).bind fun r0_carried_1 =>
 (addc s_1.t97 1).bind fun t110 =>
 some (.inl (⟨t110, r0_carried_1⟩ : kY))) else
 (some (.inr s_1.r0_carried))
structure KH where
  y35 : Span
  f36 : Int
def kh (t41 : yV) (o : jT) (s_2 : Int) (t67 : j0) (o_1 : (List Strip)) (o_2 : (List Span)) (s_3 : Int) : Option (Int ⊕ (Unit ⊕ Bool)) :=
 if s_3 < (t41.r0.strips.length : Int) then
 ((Jg (⟨t41.r0.strips, o.r0_carried⟩ : Scalps) s_2 s_3).bind fun t196 =>
 ((ix t67.r0 s_2).bind fun t203 =>
 (subc (t41.r0.strips.length : Int) 1).bind fun t208 =>
 (subc t208 s_3).bind fun t210 =>
 (Jg (⟨o_1, o_2⟩ : Scalps) t203 t210).bind fun t211 =>
 some (⟨t211.r0, t211.r1⟩ : KH)).bind fun o_6 =>
 (if t196.r1 = o_6.f36 then
 (some (!decide (t196.r0 = o_6.y35))) else
 (some true)).bind fun o_7 =>
 if o_7 = true then
 (some (.inr (.inr false))) else
 ((addc s_3 1).bind fun t222 =>
 some (.inl t222))) else
 (some (.inr (.inl ())))
def jS (o : jT) (t41 : yV) (t67 : j0) (o_1 : (List Strip)) (o_2 : (List Span)) (s_2 : Int) : Option (Int ⊕ (Unit ⊕ Bool)) :=
 if s_2 < (o.r0_carried.length : Int) then
 ((iterM FU (kh t41 o s_2 t67 o_1 o_2) 0).bind fun o_5 =>
 oc o_5 (fun j_1 => (addc s_2 1).bind fun t223 =>
 some (.inl t223)) (fun r_4 => some (.inr (.inr r_4)))) else
 (some (.inr (.inl ())))
def ye (numbers0 : (List Int)) (order1 : (List Int)) (change2 : Int) : Option Bool :=
 (KT numbers0).bind fun t38 =>
 (JN numbers0 t38.t5_1 t38.t5_2 5 4).bind fun t41 =>
 ((remc change2 3).bind fun t45 =>
 if t45 = 0 then
 ((remc (IntKind.i64.wrap change2) (t41.r0.carried.length : Int)).bind fun t54 =>
 (quoc (IntKind.i64.wrap change2) 3).bind fun t58 =>
 (remc t58 9).bind fun t59 =>
 (kw numbers0 t41.b0_1 t41.b0_2 t59 1).bind fun t60 =>
 (ix t41.r0.carried t54).bind fun t61 =>
 (some (t41.r0.carried.set (Int.toNat t54) t60.r0)).bind fun r0_carried =>
 some (⟨t60.b0_1, t60.b0_2, r0_carried⟩ : jT)) else
 (some (⟨t41.b0_1, t41.b0_2, t41.r0.carried⟩ : jT))).bind fun o =>
 (KT order1).bind fun t63 =>
 (qB order1 t63.t5_1 t63.t5_2 (o.r0_carried.length : Int)).bind fun t67 =>
 (QK (⟨t41.r0.strips, o.r0_carried⟩ : Scalps)).bind fun t69 =>
 (qa t69.strips).bind fun t72 =>
 (iterM FU (jX t72 t67) (⟨0, t72⟩ : kt)).bind fun o_1 =>
 (iterM FU (kg o t67) (⟨0, t69.carried⟩ : kY)).bind fun o_2 =>
 (yc (⟨t41.r0.strips, o.r0_carried⟩ : Scalps)).bind fun t113 =>
 (yc (⟨o_1, o_2⟩ : Scalps)).bind fun t119 =>
 (zA (⟨t41.r0.strips, o.r0_carried⟩ : Scalps)).bind fun t125 =>
 (zA (⟨o_1, o_2⟩ : Scalps)).bind fun t131 =>
 (zg (⟨t41.r0.strips, o.r0_carried⟩ : Scalps)).bind fun t137 =>
 (zg (⟨o_1, o_2⟩ : Scalps)).bind fun t142 =>
 (if t113.r2 = t119.r2 then
 (if t125.r2 = t131.r2 then
 (if t113.r2 = t125.r2 then
 (if t137.r1 = t142.r1 then
 (if (!((decide (t113.r2 = 0)) == (decide (t137.r1 = 6)))) = true then
 (some true) else
 (if t113.r1 = t119.r1 then
 (some (!decide (t125.r1 = t131.r1))) else
 (some true))) else
 (some true)) else
 (some true)) else
 (some true)) else
 (some true)).bind fun o_3 =>
 if o_3 = true then
 (some false) else
 ((iterM FU (jS o t41 t67 o_1 o_2) 0).bind fun o_4 =>
 oc o_4 (fun j => (m_l_awake).bind fun t224 =>
 some t224) (fun r_5 => some r_5))
theorem Qa (numbers0 : (List Int)) (order1 : (List Int)) (change2 : Int) (qa0 : Option Addr) (na0 ca0 : Nat) (qa1 : Option Addr) (na1 ca1 : Nat) (w : World) (hw : HV w (keys [] []) [] [] [(aB qa0, aO qa0, RU8.enc numbers0), (aB qa1, aO qa1, RU8.enc order1)] w) (hna0 : numbers0.length = na0) (hqa0 : AOK na0 qa0) (hla0 : na0 ≤ ca0) (hna1 : order1.length = na1) (hqa1 : AOK na1 qa1) (hla1 : na1 ≤ ca1) {res : Bool} (hm : ye numbers0 order1 change2 = some res) :
    Calls Try.prog 11 #[.slice qa0 na0 ca0, .slice qa1 na1 ca1, .int .u8 change2] w (fun en w' => ∃ l : Unit, en = .returned (.bool res) ∧ (True) ∧ HV w (keys [] []) [] [] [] w') := by
  unfold ye at hm
  refine kl func11 Y ntmps11 Y (e := [(0, _), (1, _), (2, _)]) Y hw (jp (jl Y Y (jV (je Y Y ?_))))
  obtain ⟨t38, h1, hm⟩ := bindO hm
  refine jd [] [] Y Y Y Y Y Y Y call12 (fun w hh => YP numbers0 qa0 na0 ca0 w (HV.callee (S0 := []) (vs0 := []) hh (roR hh 0 Y roN)) hna0 hqa0 hla0 h1) (fun l h2 => ?_)
  refine jH (S' := [_]) (vs' := []) [0] [] 0 Y Y Y Y (jl Y Y (jV (je Y Y ?_)))
  obtain ⟨t41, h3, hm⟩ := bindO hm
  refine jd [_] [] Y Y Y Y Y Y Y call13 (fun w hh => Y3 numbers0 t38.t5_1 t38.t5_2 5 4 l qa0 na0 ca0 w (HV.callee (S0 := [_]) (vs0 := []) hh (roR hh 0 Y roN)) hna0 hqa0 hla0 h3) (fun l_1 h4 => ?_)
  obtain ⟨h5, h6, h7, h8⟩ := h4
  refine jH (S' := [_]) (vs' := [_, _, _]) [0] [0, 1, 2] 0 Y Y Y Y (je Y Y (ka Y Y Y (ka Y Y Y ?_)))
  refine jq (fun w => zeroValue28 w) Y (fun b h9 => ?_)
  refine jB (us := #[_, _]) (cs' := [_, _]) (S' := [_, _]) 0 (fun w => sizeOf28 w) Y Y Y Y Y Y Y (jl Y Y (jo (jk ?_)))
  obtain ⟨o, h10, h11⟩ := bindO hm
  refine jM (ι := Unit) (fun l_2 => VOK 2 l_1.2.1.n l_1.2.1.cap (RSp.enc o.r0_carried) l_1.2.1.sp l_1.2.1.q) (fun l_2 => [(1, .slice qa1 na1 ca1), (8, ptr b 0)]) (fun l_2 => [kc b #[sL l_1.1, sL l_1.2.1] 28, kc l #[.slice qa0 na0 ca0, .int .i64 o.t5_1, .int .u32 o.t5_2] 105]) (fun l_2 => [vL 77 l_1.1 (RSt.enc t41.r0.strips), vL 37 l_1.2.1 (RSp.enc o.r0_carried)]) ?_ ?_
  ·replace hm := h10
   refine jp (je Y Y ?_)
   obtain ⟨t45, h13, hm⟩ := bindO hm
   refine jb Y Y Y (fun _ _ => YU h13 Y Y) (jb Y Y Y (fun _ _ => JT Y Y) (jo ?_))
   refine jr Y (fun h14 => ?_) (fun h14 => ?_)
   ·replace hm := ifD h14 hm
    refine j4 none (.free 0 (.hoist 1 (.free 2 (.free 3 (.free 4 (.hoist 5 (.free 6 (.free 7 (.free 8 (.free 9 (.free 10 (.free 11 (.free 12 (.one 13 (.free 14 (.one 15 .done)))))))))))))))) (HV _ _ [kc b #[sL l_1.1, sL l_1.2.1] 28] [vL 77 l_1.1 (RSt.enc t41.r0.strips), ⟨32, RwH.enc l_1.2.2.rs, l_1.2.2.v.sp, l_1.2.2.v.q, dbl 3 RI t41.r1 l_1.2.2.rs⟩] _) Y (by decide +kernel) (fun w k hh => hh.draw k) (hsE [0] [0, 2] 0 Y Y Y Y) ?_
    refine qo 1 runUnderlying28 sizeOf26 Y Y Y Y (qW 0 isAgg26 Y Y Y Y Y (kU Y Y Y (jg Y Y Y Y (fun w _ => YT (runUnderlying5 w) (runUnderlying3 w) Y) (qo 1 runUnderlying28 sizeOf26 Y Y Y Y (qW 0 isAgg26 Y Y Y Y Y (jg Y Y Y Y (fun w _ => zQ (vlen RSp h6 Y) (runUnderlying26 w) Y) ?_))))))
    obtain ⟨t54, h15, hm⟩ := bindO hm
    refine jg Y Y Y Y (fun _ _ => YU h15 Y Y) (kU Y Y Y (kU Y Y Y (jg Y Y Y Y (fun w _ => YT (runUnderlying5 w) (runUnderlying3 w) Y) ?_)))
    obtain ⟨t58, h16, hm⟩ := bindO hm
    refine jg Y Y Y Y (fun _ _ => jae h16 Y Y) ?_
    obtain ⟨t59, h17, hm⟩ := bindO hm
    refine jg Y Y Y Y (fun _ _ => YU h17 Y Y) (jK Y ?_)
    obtain ⟨t60, h18, hm⟩ := bindO hm
    refine jH (S' := [_, _]) (vs' := [_, _, _]) [1, 0] [0, 1, 2] 0 Y Y Y Y ?_
    refine jd [_] [] Y Y Y Y Y Y Y call35 (fun w hh => zM numbers0 t41.b0_1 t41.b0_2 t59 1 l qa0 na0 ca0 w (HV.callee (S0 := [_]) (vs0 := []) hh (roR hh 0 Y roN)) hna0 hqa0 hla0 h18) (fun l_3 h19 => ?_)
    refine jH (S' := [_, _]) (vs' := [_, _, _]) [0, 1] [0, 1, 2] 0 Y Y Y Y (jv (hsE [1] [0, 2] 0 Y Y Y Y) ?_)
    obtain ⟨t61, h20, hm⟩ := bindO hm
    refine jg Y Y Y Y (fun w _ => yJ h20 (runUnderlying26 w) (sizeOf37 w) Y Y (vlen RSp h6 Y) (vne h6)) (jK Y ?_)
    obtain ⟨r0_carried, hr0_carried, hm⟩ := bindO hm
    refine Yz (us := #[_, _]) RSp 1 t60.r0 (fun w => sizeOf37 w) Y Y Y h6 Y Y Y Y h20 Y (Option.some.inj hr0_carried) (fun h21 => ?_)
    refine jH (S' := [_, _]) (vs' := [_, _, _]) [0, 1] [0, 1, 2] 0 Y Y Y Y (jv (hsE [1] [0, 2] 0 Y Y Y Y) (jN ?_))
    obtain rfl := sj hm
    exact jn () (h21) (sE Y) (hsE [1, 0] [0, 1] 0 Y Y Y Y)
   replace hm := ifE h14 hm
   refine js ?_
   obtain rfl := sj hm
   exact jn () (h6) (sE Y) (hsE [0, 1] [0, 1] 0 Y Y Y Y)
  intro l_2 hj
  have h12 := hj
  replace hm := h11
  refine ja (jk (j4 none (.free 0 (.free 2 (.hoist 3 (.free 4 (.one 1 (.one 5 (.free 6 .done))))))) _ Y (by decide +kernel) (fun w k hh => hh.draw k) (fun w hh => hh) (kU Y Y Y (qo 1 runUnderlying28 sizeOf26 Y Y Y Y (qW 0 isAgg26 Y Y Y Y Y (jg Y Y Y Y (fun w _ => zQ (vlen RSp h12 Y) (runUnderlying26 w) Y) (jK Y ?_)))))))
  obtain ⟨t63, h22, hm⟩ := bindO hm
  refine jd [] [] Y Y Y Y Y Y Y call12 (fun w hh => YP order1 qa1 na1 ca1 w (HV.callee (S0 := []) (vs0 := []) hh (roR hh 1 Y roN)) hna1 hqa1 hla1 h22) (fun l_4 h23 => ?_)
  refine jH (S' := [_, _, _]) (vs' := [_, _]) [0, 1, 2] [0, 1] 0 Y Y Y Y (jv (hsE [1, 2] [0, 1] 0 Y Y Y Y) (jK Y ?_))
  obtain ⟨t67, h24, hm⟩ := bindO hm
  refine jd [_] [] Y Y Y Y Y Y Y call51 (fun w hh => Qo order1 t63.t5_1 t63.t5_2 (o.r0_carried.length : Int) l_4 qa1 na1 ca1 w (HV.callee (S0 := [_]) (vs0 := []) hh (roR hh 1 Y roN)) hna1 hqa1 hla1 h24) (fun l_5 h25 => ?_)
  have h26 := h25
  refine jH (S' := [_, _, _]) (vs' := [_, _, _]) [0, 1, 2] [0, 1, 2] 0 Y Y Y Y (jv (hsE [1, 2] [1, 2] 0 Y Y Y Y) (jg Y Y Y Y (fun _ _ => jU Y) (jN (ja (jp (qX [_, _] 1 isAgg28 sizeOf28 Y Y Y Y ?_))))))
  obtain ⟨t69, h27, hm⟩ := bindO hm
  refine jd [] [] Y Y Y Y Y Y Y call22 (fun w hh => jab (⟨t41.r0.strips, o.r0_carried⟩ : Scalps) (qA l_1.1.q) l_1.1.n l_1.1.cap (qA l_1.2.1.q) l_1.2.1.n l_1.2.1.cap w (HV.callee (S0 := []) (vs0 := []) hh (roC (hh.vsepA 1 Y h5) (roC (hh.vsepA 2 Y h12) roN))) (vlen RSt h5 Y) (AOK.q (vne h5)) (h5).hle (vlen RSp h12 Y) (AOK.q (vne h12)) (h12).hle h27) (fun l_6 h28 => ?_)
  obtain ⟨h29, h30⟩ := h28
  refine jH (S' := [_, _, _]) (vs' := [_, _, _, _, _]) [0, 1, 2] [0, 1, 2, 3, 4] 0 Y Y Y Y ?_
  refine jq (fun w => zeroValue28 w) Y (fun b_1 h31 => ?_)
  refine jB (us := #[_, _]) (cs' := [_, _]) (S' := [_, _, _, _]) 0 (fun w => sizeOf28 w) Y Y Y Y Y Y Y (jV (j7 0 runUnderlying28 Y sizeOf25 Y Y (kx 0 isAgg25 Y Y Y Y ?_)))
  obtain ⟨t72, h32, hm⟩ := bindO hm
  refine jd [] [_] Y Y Y Y Y Y Y call52 (fun w hh => Qi t69.strips ⟨l_6.1.q, l_6.1.n, l_6.1.cap, l_6.1.sp⟩ w (HV.callee (S0 := []) (vs0 := [_]) hh roN) h29 h32) (fun l_7 h33 => ?_)
  have h34 := h33
  refine jH (S' := [_, _, _, _]) (vs' := [_, _, _, _, _]) [0, 1, 2, 3] [0, 1, 2, 3, 4] 0 Y Y Y Y (jo (jk (jp (j7 0 runUnderlying28 Y sizeOf25 Y Y (kx 0 isAgg25 Y Y Y Y (jb Y Y Y (fun w _ => zQ (vlen RSt h34 Y) (runUnderlying25 w) Y) (je Y Y ?_)))))))
  refine jo ?_
  obtain ⟨o_1, h35, h36⟩ := bindO hm
  refine jM (ι := Unit) (fun l_8 => VOK 7 l_6.1.n l_6.1.cap (RSt.enc o_1) l_6.1.sp l_6.1.q) (fun l_8 => [(8, ptr b 0), (10, sL l_5), (11, ptr b_1 0)]) (fun l_8 => [kc b_1 #[sL l_6.1, sL l_6.2] 28, kc l_4 #[.slice qa1 na1 ca1, .int .i64 t67.h0_1, .int .u32 t67.h0_2] 105, kc b #[sL l_1.1, sL l_1.2.1] 28, kc l #[.slice qa0 na0 ca0, .int .i64 o.t5_1, .int .u32 o.t5_2] 105]) (fun l_8 => [vL 3 l_5 (RI.enc t67.r0), vL 77 l_6.1 (RSt.enc o_1), vL 37 l_6.2 (RSp.enc t69.carried), vL 77 l_1.1 (RSt.enc t41.r0.strips), vL 37 l_1.2.1 (RSp.enc o.r0_carried)]) ?_ ?_
  ·replace hm := h35
   refine jj ?_
   refine jD (ι := Unit) hm (fun s l_9 => VOK 7 l_6.1.n l_6.1.cap (RSt.enc s.r0_strips) l_6.1.sp l_6.1.q) (fun s l_9 => [(8, ptr b 0), (10, sL l_5), (11, ptr b_1 0), (75, .int .i64 (t72.length : Int)), (76, .int .i64 s.t76)]) (fun s l_9 => [kc b_1 #[sL l_6.1, sL l_6.2] 28, kc l_4 #[.slice qa1 na1 ca1, .int .i64 t67.h0_1, .int .u32 t67.h0_2] 105, kc b #[sL l_1.1, sL l_1.2.1] 28, kc l #[.slice qa0 na0 ca0, .int .i64 o.t5_1, .int .u32 o.t5_2] 105]) (fun s l_9 => [vL 3 l_5 (RI.enc t67.r0), vL 77 l_6.1 (RSt.enc s.r0_strips), vL 37 l_6.2 (RSp.enc t69.carried), vL 77 l_1.1 (RSt.enc t41.r0.strips), vL 37 l_1.2.1 (RSp.enc o.r0_carried)]) () (h34) (sE Y) (hsE [0, 1, 2, 3] [2, 0, 1, 3, 4] 0 Y Y Y Y) (fun s l_9 r hpl hm h39 => ?_)
   have h38 := hpl
   unfold jX at hm
   refine jp (zK Y Y Y (jo (jk ?_)))
   refine jr Y (fun h40 => ?_) (fun h40 => ?_)
   ·replace hm := ifD h40 hm
    refine js (ja (jk (jj (jp (je Y Y (jl Y Y (jo ?_)))))))
    refine j4 (some 14) (.free 0 (.hoist 1 (.free 2 (.free 3 (.free 4 (.hoist 5 (.free 6 (.free 7 (.free 8 (.hoist 9 (.free 10 (.hoist 11 (.free 12 (.free 13 (.last 14 .done))))))))))))))) _ Y (by decide +kernel) (fun w k hh => hh.draw k) (fun w hh => hh) ?_
    refine qo 0 runUnderlying28 sizeOf25 Y Y Y Y (qW 0 isAgg25 Y Y Y Y Y (kU Y Y Y (kU Y Y Y (qo 0 runUnderlying28 sizeOf25 Y Y Y Y (qW 0 isAgg25 Y Y Y Y Y (kU Y Y Y ?_))))))
    obtain ⟨t86, h41, hm⟩ := bindO hm
    refine jg Y Y Y Y (fun w _ => yJ h41 (runUnderlying25 w) (sizeOf77 w) Y Y (vlen RSt h38 Y) (vne h38)) (qo 0 runUnderlying77 sizeOf3 Y Y Y Y (jG Y Y Y Y (fun w hh => qx RSt 0 h41 (isAgg3 w) Y (hh.vseg 1 Y h38) Y Y) ?_))
    obtain ⟨t89, h42, hm⟩ := bindO hm
    refine jg Y Y Y Y (fun w _ => yJ h42 (runUnderlying32 w) (sizeOf3 w) Y Y (vlen RI h26 Y) (vne h26)) (jG Y Y Y Y (fun w hh => qx RI 0 h42 (isAgg3 w) Y (hh.vseg 0 Y h26) Y (Nat.add_zero _).symm) ?_)
    obtain ⟨t91, h43, hm⟩ := bindO hm
    refine jg Y Y Y Y (fun w _ => yJ h43 (runUnderlying25 w) (sizeOf77 w) Y Y (vlen RSt h38 Y) (vne h38)) (qo 0 runUnderlying77 sizeOf3 Y Y Y Y (Ko Y ?_))
    obtain ⟨r0_strips, hr0_strips, hm⟩ := bindO hm
    refine Y5 RSt 1 0 (⟨t89, t91.lay, t91.seeded, t91.left⟩ : Strip) (fun w => sizeOf3 w) Y Y Y Y h38 Y Y Y h43 Y Y (Option.some.inj hr0_strips) (fun h44 => ?_)
    refine jH (S' := [_, _, _, _]) (vs' := [_, _, _, _, _]) [0, 1, 2, 3] [0, 1, 2, 3, 4] 0 Y Y Y Y (Jp (jN (jt (ja (jh ?_)))))
    obtain ⟨t93, h45, hm⟩ := bindO hm
    refine yA h45 Y Y Y (je Y Y (jx ?_))
    obtain rfl := sj hm
    refine ja ?_
    exact jz _ () Y (h44) (sE Y) (fun w hh => hh)
   replace hm := ifE h40 hm
   refine jP (ji (ji (jC ?_)))
   obtain rfl := sj hm
   have hbo := h39 _ Y
   subst hbo
   exact jn () (h38) (sE Y) (fun w hh => hh)
  intro l_8 hj
  have h37 := hj
  replace hm := h36
  refine ja (jk (jp (j7 1 runUnderlying28 Y sizeOf26 Y Y (kx 2 isAgg26 Y Y Y Y (jb Y Y Y (fun w _ => zQ (vlen RSp h12 Y) (runUnderlying26 w) Y) (je Y Y (jo ?_)))))))
  obtain ⟨o_2, h46, h47⟩ := bindO hm
  refine jM (ι := Unit) (fun l_10 => VOK 2 l_6.2.n l_6.2.cap (RSp.enc o_2) l_6.2.sp l_6.2.q) (fun l_10 => [(8, ptr b 0), (10, sL l_5), (11, ptr b_1 0)]) (fun l_10 => [kc b_1 #[sL l_6.1, sL l_6.2] 28, kc l_4 #[.slice qa1 na1 ca1, .int .i64 t67.h0_1, .int .u32 t67.h0_2] 105, kc b #[sL l_1.1, sL l_1.2.1] 28, kc l #[.slice qa0 na0 ca0, .int .i64 o.t5_1, .int .u32 o.t5_2] 105]) (fun l_10 => [vL 3 l_5 (RI.enc t67.r0), vL 77 l_6.1 (RSt.enc o_1), vL 37 l_6.2 (RSp.enc o_2), vL 77 l_1.1 (RSt.enc t41.r0.strips), vL 37 l_1.2.1 (RSp.enc o.r0_carried)]) ?_ ?_
  ·replace hm := h46
   refine jj ?_
   refine jD (ι := Unit) hm (fun s_1 l_11 => VOK 2 l_6.2.n l_6.2.cap (RSp.enc s_1.r0_carried) l_6.2.sp l_6.2.q) (fun s_1 l_11 => [(8, ptr b 0), (10, sL l_5), (11, ptr b_1 0), (95, sL l_1.2.1), (96, .int .i64 (o.r0_carried.length : Int)), (97, .int .i64 s_1.t97)]) (fun s_1 l_11 => [kc b_1 #[sL l_6.1, sL l_6.2] 28, kc l_4 #[.slice qa1 na1 ca1, .int .i64 t67.h0_1, .int .u32 t67.h0_2] 105, kc b #[sL l_1.1, sL l_1.2.1] 28, kc l #[.slice qa0 na0 ca0, .int .i64 o.t5_1, .int .u32 o.t5_2] 105]) (fun s_1 l_11 => [vL 3 l_5 (RI.enc t67.r0), vL 37 l_1.2.1 (RSp.enc o.r0_carried), vL 77 l_6.1 (RSt.enc o_1), vL 37 l_6.2 (RSp.enc s_1.r0_carried), vL 77 l_1.1 (RSt.enc t41.r0.strips)]) () (h30) (sE Y) (hsE [0, 1, 2, 3] [0, 4, 1, 2, 3] 0 Y Y Y Y) (fun s_1 l_11 r_1 hpl hm h50 => ?_)
   have h49 := hpl
   unfold kg at hm
   refine jp (zK Y Y Y (jo (jk ?_)))
   refine jr Y (fun h51 => ?_) (fun h51 => ?_)
   ·replace hm := ifD h51 hm
    refine js (ja (jk (jj (jp (je Y Y ?_)))))
    obtain ⟨t100, h52, hm⟩ := bindO hm
    refine jb Y Y Y (fun w _ => yJ h52 (runUnderlying26 w) (sizeOf37 w) Y Y (vlen RSp h12 Y) (vne h12)) ?_
    refine jb Y Y Y (fun w hh => kT RSp 0 [.int .i64 t100.lo, .int .i64 t100.hi] h52 (isAgg37 w) (sizeOf37 w) Y (hh.vseg 1 Y h12) Y (Nat.add_zero _).symm) ?_
    refine jq (fun w => zeroValue37 w) Y (fun b_2 h53 => ?_)
    refine jl Y Y (jB (us := #[_, _]) (cs' := [_, _]) (S' := [_, _, _, _, _]) 0 (fun w => sizeOf37 w) Y Y Y Y Y Y Y (jo ?_))
    refine j4 none (.free 0 (.hoist 1 (.free 2 (.free 3 (.free 4 (.hoist 5 (.hoist 6 (.free 7 (.one 8 .done))))))))) (HV _ _ [kc b_2 #[.int .i64 t100.lo, .int .i64 t100.hi] 37, kc b_1 #[sL l_6.1, sL l_6.2] 28, kc l_4 #[.slice qa1 na1 ca1, .int .i64 t67.h0_1, .int .u32 t67.h0_2] 105, kc b #[sL l_1.1, sL l_1.2.1] 28, kc l #[.slice qa0 na0 ca0, .int .i64 o.t5_1, .int .u32 o.t5_2] 105] [vL 3 l_5 (RI.enc t67.r0), vL 37 l_1.2.1 (RSp.enc o.r0_carried), vL 77 l_6.1 (RSt.enc o_1), vL 77 l_1.1 (RSt.enc t41.r0.strips)] _) Y (by decide +kernel) (fun w k hh => hh.draw k) (hsE [0, 1, 2, 3, 4] [0, 1, 2, 4] 0 Y Y Y Y) ?_
    refine qo 1 runUnderlying28 sizeOf26 Y Y Y Y (qW 1 isAgg26 Y Y Y Y Y (kU Y Y Y (kU Y Y Y ?_)))
    obtain ⟨t106, h54, hm⟩ := bindO hm
    refine jg Y Y Y Y (fun w _ => yJ h54 (runUnderlying32 w) (sizeOf3 w) Y Y (vlen RI h26 Y) (vne h26)) (jG Y Y Y Y (fun w hh => qx RI 0 h54 (isAgg3 w) Y (hh.vseg 0 Y h26) Y (Nat.add_zero _).symm) (jG Y Y Y Y (fun w hh => zb (vs := [_, _]) (isAgg37 w) (sizeOf37 w) Y (hh.cells 0 Y Y)) ?_))
    obtain ⟨t109, h55, hm⟩ := bindO hm
    refine jg Y Y Y Y (fun w _ => yJ h55 (runUnderlying26 w) (sizeOf37 w) Y Y (vlen RSp h49 Y) (vne h49)) (jK Y ?_)
    obtain ⟨r0_carried_1, hr0_carried_1, hm⟩ := bindO hm
    refine Yz (us := #[_, _]) RSp 3 t100 (fun w => sizeOf37 w) Y Y Y h49 Y Y Y Y h55 Y (Option.some.inj hr0_carried_1) (fun h56 => ?_)
    refine jH (S' := [_, _, _, _, _]) (vs' := [_, _, _, _, _]) [0, 1, 2, 3, 4] [0, 1, 2, 3, 4] 0 Y Y Y Y (jv (hsE [0, 1, 2, 3, 4] [0, 1, 2, 4] 0 Y Y Y Y) (jN (jt (ja (jh ?_)))))
    obtain ⟨t110, h57, hm⟩ := bindO hm
    refine yA h57 Y Y Y (je Y Y (jx ?_))
    obtain rfl := sj hm
    refine ja ?_
    exact jz _ () Y (h56) (sE Y) (hsE [1, 2, 3, 4] [0, 1, 2, 3, 4] 0 Y Y Y Y)
   replace hm := ifE h51 hm
   refine jP (ji (ji (jC ?_)))
   obtain rfl := sj hm
   have hbo := h50 _ Y
   subst hbo
   exact jn () (h49) (sE Y) (hsE [0, 1, 2, 3] [0, 2, 3, 4, 1] 0 Y Y Y Y)
  intro l_10 hj
  have h48 := hj
  replace hm := h47
  refine ja (jp (qX [_, _] 2 isAgg28 sizeOf28 Y Y Y Y ?_))
  obtain ⟨t113, h58, hm⟩ := bindO hm
  refine jd [] [] Y Y Y Y Y Y Y call17 (fun w hh => KV (⟨t41.r0.strips, o.r0_carried⟩ : Scalps) (qA l_1.1.q) l_1.1.n l_1.1.cap (qA l_1.2.1.q) l_1.2.1.n l_1.2.1.cap w (HV.callee (S0 := []) (vs0 := []) hh (roC (hh.vsepA 3 Y h5) (roC (hh.vsepA 4 Y h12) roN))) (vlen RSt h5 Y) (AOK.q (vne h5)) (h5).hle (vlen RSp h12 Y) (AOK.q (vne h12)) (h12).hle h58) (fun l_12 h59 => ?_)
  obtain ⟨h60, h61⟩ := h59
  refine jH (S' := [_, _, _, _]) (vs' := [_, _, _, _, _, _]) [0, 1, 2, 3] [0, 1, 2, 3, 4, 5] 0 Y Y Y Y (je Y Y (ka Y Y Y (ka Y Y Y (ka Y Y Y (jl Y Y (jl Y Y (jl Y Y ?_)))))))
  refine jV (qX [_, _] 0 isAgg28 sizeOf28 Y Y Y Y ?_)
  obtain ⟨t119, h62, hm⟩ := bindO hm
  refine jd [] [] Y Y Y Y Y Y Y call17 (fun w hh => KV (⟨o_1, o_2⟩ : Scalps) (qA l_6.1.q) l_6.1.n l_6.1.cap (qA l_6.2.q) l_6.2.n l_6.2.cap w (HV.callee (S0 := []) (vs0 := []) hh (roC (hh.vsepA 2 Y h37) (roC (hh.vsepA 3 Y h48) roN))) (vlen RSt h37 Y) (AOK.q (vne h37)) (h37).hle (vlen RSp h48 Y) (AOK.q (vne h48)) (h48).hle h62) (fun l_13 h63 => ?_)
  obtain ⟨h64, h65⟩ := h63
  refine jH (S' := [_, _, _, _]) (vs' := [_, _, _, _, _, _, _]) [0, 1, 2, 3] [0, 1, 2, 3, 4, 5, 6] 0 Y Y Y Y (je Y Y (ka Y Y Y (ka Y Y Y (ka Y Y Y (jl Y Y (jl Y Y (jl Y Y ?_)))))))
  refine jV (qX [_, _] 2 isAgg28 sizeOf28 Y Y Y Y ?_)
  obtain ⟨t125, h66, hm⟩ := bindO hm
  refine jd [] [] Y Y Y Y Y Y Y call18 (fun w hh => Yb (⟨t41.r0.strips, o.r0_carried⟩ : Scalps) (qA l_1.1.q) l_1.1.n l_1.1.cap (qA l_1.2.1.q) l_1.2.1.n l_1.2.1.cap w (HV.callee (S0 := []) (vs0 := []) hh (roC (hh.vsepA 5 Y h5) (roC (hh.vsepA 6 Y h12) roN))) (vlen RSt h5 Y) (AOK.q (vne h5)) (h5).hle (vlen RSp h12 Y) (AOK.q (vne h12)) (h12).hle h66) (fun l_14 h67 => ?_)
  obtain ⟨h68, h69⟩ := h67
  refine jH (S' := [_, _, _, _]) (vs' := [_, _, _, _, _, _, _, _]) [0, 1, 2, 3] [0, 1, 2, 3, 4, 5, 6, 7] 0 Y Y Y Y (je Y Y (ka Y Y Y (ka Y Y Y (ka Y Y Y (jl Y Y (jl Y Y (jl Y Y ?_)))))))
  refine jV (qX [_, _] 0 isAgg28 sizeOf28 Y Y Y Y ?_)
  obtain ⟨t131, h70, hm⟩ := bindO hm
  refine jd [] [] Y Y Y Y Y Y Y call18 (fun w hh => Yb (⟨o_1, o_2⟩ : Scalps) (qA l_6.1.q) l_6.1.n l_6.1.cap (qA l_6.2.q) l_6.2.n l_6.2.cap w (HV.callee (S0 := []) (vs0 := []) hh (roC (hh.vsepA 4 Y h37) (roC (hh.vsepA 5 Y h48) roN))) (vlen RSt h37 Y) (AOK.q (vne h37)) (h37).hle (vlen RSp h48 Y) (AOK.q (vne h48)) (h48).hle h70) (fun l_15 h71 => ?_)
  obtain ⟨h72, h73⟩ := h71
  refine jH (S' := [_, _, _, _]) (vs' := [_, _, _, _, _, _, _, _, _]) [0, 1, 2, 3] [0, 1, 2, 3, 4, 5, 6, 7, 8] 0 Y Y Y Y (je Y Y (ka Y Y Y (ka Y Y Y (ka Y Y Y (jl Y Y (jl Y Y (jl Y Y ?_)))))))
  refine jV (qX [_, _] 2 isAgg28 sizeOf28 Y Y Y Y ?_)
  obtain ⟨t137, h74, hm⟩ := bindO hm
  refine jd [] [] Y Y Y Y Y Y Y call28 (fun w hh => Yh (⟨t41.r0.strips, o.r0_carried⟩ : Scalps) (qA l_1.1.q) l_1.1.n l_1.1.cap (qA l_1.2.1.q) l_1.2.1.n l_1.2.1.cap w (HV.callee (S0 := []) (vs0 := []) hh (roC (hh.vsepA 7 Y h5) (roC (hh.vsepA 8 Y h12) roN))) (vlen RSt h5 Y) (AOK.q (vne h5)) (h5).hle (vlen RSp h12 Y) (AOK.q (vne h12)) (h12).hle h74) (fun l_16 h75 => ?_)
  have h76 := h75
  refine jH (S' := [_, _, _, _]) (vs' := [_, _, _, _, _, _, _, _, _, _]) [0, 1, 2, 3] [0, 1, 2, 3, 4, 5, 6, 7, 8, 9] 0 Y Y Y Y (je Y Y (ka Y Y Y (ka Y Y Y ?_)))
  refine jq (fun w => zeroValue61 w) Y (fun b_3 h77 => ?_)
  refine jB (us := #[_, _]) (cs' := [_, _]) (S' := [_, _, _, _, _]) 0 (fun w => sizeOf61 w) Y Y Y Y Y Y Y (jl Y Y (jV (qX [_, _] 1 isAgg28 sizeOf28 Y Y Y Y ?_)))
  obtain ⟨t142, h78, hm⟩ := bindO hm
  refine jd [] [] Y Y Y Y Y Y Y call28 (fun w hh => Yh (⟨o_1, o_2⟩ : Scalps) (qA l_6.1.q) l_6.1.n l_6.1.cap (qA l_6.2.q) l_6.2.n l_6.2.cap w (HV.callee (S0 := []) (vs0 := []) hh (roC (hh.vsepA 6 Y h37) (roC (hh.vsepA 7 Y h48) roN))) (vlen RSt h37 Y) (AOK.q (vne h37)) (h37).hle (vlen RSp h48 Y) (AOK.q (vne h48)) (h48).hle h78) (fun l_17 h79 => ?_)
  have h80 := h79
  refine jH (S' := [_, _, _, _, _]) (vs' := [_, _, _, _, _, _, _, _, _, _, _]) [0, 1, 2, 3, 4] [0, 1, 2, 3, 4, 5, 6, 7, 8, 9, 10] 0 Y Y Y Y (je Y Y (ka Y Y Y (ka Y Y Y ?_)))
  refine jq (fun w => zeroValue61 w) Y (fun b_4 h81 => ?_)
  refine jB (us := #[_, _]) (cs' := [_, _]) (S' := [_, _, _, _, _, _]) 0 (fun w => sizeOf61 w) Y Y Y Y Y Y Y (jl Y Y (jo (jk (jk ?_))))
  obtain ⟨o_3, h82, h83⟩ := bindO hm
  refine jM (ι := Unit) (fun l_18 => True) (fun l_18 => [(8, ptr b 0), (10, sL l_5), (11, ptr b_1 0), (179, .bool o_3)]) (fun l_18 => [kc b_4 #[.bool t142.r0.tenants, sL l_17] 61, kc b_3 #[.bool t137.r0.tenants, sL l_16] 61, kc b_1 #[sL l_6.1, sL l_6.2] 28, kc l_4 #[.slice qa1 na1 ca1, .int .i64 t67.h0_1, .int .u32 t67.h0_2] 105, kc b #[sL l_1.1, sL l_1.2.1] 28, kc l #[.slice qa0 na0 ca0, .int .i64 o.t5_1, .int .u32 o.t5_2] 105]) (fun l_18 => [vL 3 l_5 (RI.enc t67.r0), vL 3 l_17 (RI.enc t142.r0.of_), vL 3 l_16 (RI.enc t137.r0.of_), vL 77 l_6.1 (RSt.enc o_1), vL 37 l_6.2 (RSp.enc o_2), vL 77 l_1.1 (RSt.enc t41.r0.strips), vL 37 l_1.2.1 (RSp.enc o.r0_carried)]) ?_ ?_
  ·replace hm := h82
   refine jh (je Y Y (je Y Y (jb Y Y Y (fun _ _ => q5 Y Y) (je Y Y ?_))))
   refine jZ 148 Y (fun h84 => ?_) (fun h84 => ?_)
   ·replace hm := ifF (of_ndec_true h84) hm
    refine g_k Y Y Y Y (g_k Y Y Y Y (g_k Y Y Y Y (qO Y Y Y (je Y Y (g_k Y Y Y Y (g_k Y Y Y Y (g_k Y Y Y Y ?_)))))))
    refine qO Y Y Y (je Y Y (g_k Y Y Y Y (g_k Y Y Y Y (g_k Y Y Y Y (qO Y Y Y (je Y Y (g_k Y Y Y Y ?_)))))))
    refine g_k Y Y Y Y (g_k Y Y Y Y (g_k Y Y Y Y (g_k Y Y Y Y (qO Y Y Y (je Y Y (g_k Y Y Y Y (g_k Y Y Y Y ?_)))))))
    refine g_k Y Y Y Y (qO Y Y Y (je Y Y (g_k Y Y Y Y (g_k Y Y Y Y (g_k Y Y Y Y (qO Y Y Y (jx ?_)))))))
    obtain rfl := sj hm
    exact jn () (trivial) (sE Y) (hsE [0, 1, 2, 3, 4, 5] [6, 0, 1, 7, 8, 9, 10] 0 Y Y Y Y)
   replace hm := ifT (of_ndec_false h84) hm
   refine jc Y Y (je Y Y (jc Y Y (je Y Y (jc Y Y (jb Y Y Y (fun _ _ => q5 Y Y) (yW Y Y Y (je Y Y ?_)))))))
   refine jZ 153 Y (fun h85 => ?_) (fun h85 => ?_)
   ·replace hm := ifF (of_ndec_true h85) hm
    refine g_k Y Y Y Y (g_k Y Y Y Y (g_k Y Y Y Y (qO Y Y Y (je Y Y (g_k Y Y Y Y (g_k Y Y Y Y (g_k Y Y Y Y ?_)))))))
    refine qO Y Y Y (je Y Y (g_k Y Y Y Y (g_k Y Y Y Y (g_k Y Y Y Y (g_k Y Y Y Y (g_k Y Y Y Y (qO Y Y Y ?_)))))))
    refine je Y Y (g_k Y Y Y Y (g_k Y Y Y Y (g_k Y Y Y Y (qO Y Y Y (je Y Y (g_k Y Y Y Y (g_k Y Y Y Y ?_)))))))
    refine g_k Y Y Y Y (qO Y Y Y (jx ?_))
    obtain rfl := sj hm
    exact jn () (trivial) (sE Y) (hsE [0, 1, 2, 3, 4, 5] [6, 0, 1, 7, 8, 9, 10] 0 Y Y Y Y)
   replace hm := ifT (of_ndec_false h85) hm
   refine jc Y Y (je Y Y (jc Y Y (je Y Y (jc Y Y (jb Y Y Y (fun _ _ => q5 Y Y) (yW Y Y Y (je Y Y ?_)))))))
   refine jZ 158 Y (fun h86 => ?_) (fun h86 => ?_)
   ·replace hm := ifF (of_ndec_true h86) hm
    refine g_k Y Y Y Y (g_k Y Y Y Y (g_k Y Y Y Y (qO Y Y Y (je Y Y (g_k Y Y Y Y (g_k Y Y Y Y (g_k Y Y Y Y ?_)))))))
    refine g_k Y Y Y Y (g_k Y Y Y Y (qO Y Y Y (je Y Y (g_k Y Y Y Y (g_k Y Y Y Y (g_k Y Y Y Y (qO Y Y Y ?_)))))))
    refine je Y Y (g_k Y Y Y Y (g_k Y Y Y Y (g_k Y Y Y Y (qO Y Y Y (jx ?_)))))
    obtain rfl := sj hm
    exact jn () (trivial) (sE Y) (hsE [0, 1, 2, 3, 4, 5] [6, 0, 1, 7, 8, 9, 10] 0 Y Y Y Y)
   replace hm := ifT (of_ndec_false h86) hm
   refine jc Y Y (je Y Y (jc Y Y (je Y Y (jc Y Y (jb Y Y Y (fun _ _ => q5 Y Y) (yW Y Y Y (je Y Y ?_)))))))
   refine jZ 163 Y (fun h87 => ?_) (fun h87 => ?_)
   ·replace hm := ifF (of_ndec_true h87) hm
    refine g_k Y Y Y Y (g_k Y Y Y Y (g_k Y Y Y Y (g_k Y Y Y Y (g_k Y Y Y Y (qO Y Y Y (je Y Y (g_k Y Y Y Y ?_)))))))
    refine g_k Y Y Y Y (g_k Y Y Y Y (qO Y Y Y (je Y Y (g_k Y Y Y Y (g_k Y Y Y Y (g_k Y Y Y Y (qO Y Y Y ?_)))))))
    refine jx ?_
    obtain rfl := sj hm
    exact jn () (trivial) (sE Y) (hsE [0, 1, 2, 3, 4, 5] [6, 0, 1, 7, 8, 9, 10] 0 Y Y Y Y)
   replace hm := ifT (of_ndec_false h87) hm
   refine jc Y Y (je Y Y (jc Y Y (jb Y Y Y (fun _ _ => JT Y Y) (jc Y Y (je Y Y (jc Y Y (jb Y Y Y (fun _ _ => JT Y Y) ?_)))))))
   refine jc Y Y (jb Y Y Y (fun w _ => Zw (runUnderlying4 w) Y Y) (yW Y Y Y (je Y Y ?_)))
   refine jZ 170 Y (fun h88 => ?_) (fun h88 => ?_)
   ·replace hm := ifT (h88) hm
    refine g_k Y Y Y Y (g_k Y Y Y Y (g_k Y Y Y Y (qO Y Y Y (je Y Y (g_k Y Y Y Y (g_k Y Y Y Y (g_k Y Y Y Y ?_)))))))
    refine qO Y Y Y (jx ?_)
    obtain rfl := sj hm
    exact jn () (trivial) (sE Y) (hsE [0, 1, 2, 3, 4, 5] [6, 0, 1, 7, 8, 9, 10] 0 Y Y Y Y)
   replace hm := ifN h88 hm
   refine jc Y Y (je Y Y (jc Y Y (je Y Y (jc Y Y (jb Y Y Y (fun _ _ => q5 Y Y) (yW Y Y Y (je Y Y ?_)))))))
   refine jZ 175 Y (fun h89 => ?_) (fun h89 => ?_)
   ·replace hm := ifF (of_ndec_true h89) hm
    refine g_k Y Y Y Y (g_k Y Y Y Y (g_k Y Y Y Y (qO Y Y Y (jx ?_))))
    obtain rfl := sj hm
    exact jn () (trivial) (sE Y) (hsE [0, 1, 2, 3, 4, 5] [6, 0, 1, 7, 8, 9, 10] 0 Y Y Y Y)
   replace hm := ifT (of_ndec_false h89) hm
   refine jc Y Y (je Y Y (jc Y Y (je Y Y (jc Y Y (jb Y Y Y (fun _ _ => q5 Y Y) (yW Y Y Y (jx ?_)))))))
   obtain rfl := sj hm
   exact jn () (trivial) (sE Y) (hsE [0, 1, 2, 3, 4, 5] [6, 0, 1, 7, 8, 9, 10] 0 Y Y Y Y)
  intro l_18 hj
  replace hm := h83
  refine ja ?_
  refine jr Y (fun h90 => ?_) (fun h90 => ?_)
  ·replace hm := ifT (h90) hm
   refine jp (jl Y Y (jo (ju (jf ?_))))
   obtain rfl := sj hm
   refine jm Y (fun w hh => (.tmp Y .nil)) (fun w hh => ⟨(), rfl, trivial, hh.se [] [] 2 Y Y Y rfl⟩)
  replace hm := ifN h90 hm
  refine js (ja (jk (jp (j7 1 runUnderlying28 Y sizeOf26 Y Y (kx 4 isAgg26 Y Y Y Y (jb Y Y Y (fun w _ => zQ (vlen RSp h12 Y) (runUnderlying26 w) Y) (je Y Y ?_)))))))
  refine jo ?_
  obtain ⟨o_4, h91, h92⟩ := bindO hm
  refine jM (ι := Unit) (fun j => o_4 = .inl j) (fun j => []) (fun j => [kc b_4 #[.bool t142.r0.tenants, sL l_17] 61, kc b_3 #[.bool t137.r0.tenants, sL l_16] 61, kc b_1 #[sL l_6.1, sL l_6.2] 28, kc l_4 #[.slice qa1 na1 ca1, .int .i64 t67.h0_1, .int .u32 t67.h0_2] 105, kc b #[sL l_1.1, sL l_1.2.1] 28, kc l #[.slice qa0 na0 ca0, .int .i64 o.t5_1, .int .u32 o.t5_2] 105]) (fun j => [vL 3 l_17 (RI.enc t142.r0.of_), vL 3 l_16 (RI.enc t137.r0.of_), vL 77 l_6.1 (RSt.enc o_1), vL 37 l_6.2 (RSp.enc o_2), vL 77 l_1.1 (RSt.enc t41.r0.strips), vL 37 l_1.2.1 (RSp.enc o.r0_carried)]) ?_ ?_
  ·replace hm := h91
   refine jj ?_
   refine jD (ι := Unit) hm (fun s_2 l_19 => True) (fun s_2 l_19 => [(8, ptr b 0), (10, sL l_5), (11, ptr b_1 0), (182, .int .i64 (o.r0_carried.length : Int)), (183, .int .i64 s_2)]) (fun s_2 l_19 => [kc b_4 #[.bool t142.r0.tenants, sL l_17] 61, kc b_3 #[.bool t137.r0.tenants, sL l_16] 61, kc b_1 #[sL l_6.1, sL l_6.2] 28, kc l_4 #[.slice qa1 na1 ca1, .int .i64 t67.h0_1, .int .u32 t67.h0_2] 105, kc b #[sL l_1.1, sL l_1.2.1] 28, kc l #[.slice qa0 na0 ca0, .int .i64 o.t5_1, .int .u32 o.t5_2] 105]) (fun s_2 l_19 => [vL 3 l_5 (RI.enc t67.r0), vL 3 l_17 (RI.enc t142.r0.of_), vL 3 l_16 (RI.enc t137.r0.of_), vL 77 l_6.1 (RSt.enc o_1), vL 37 l_6.2 (RSp.enc o_2), vL 77 l_1.1 (RSt.enc t41.r0.strips), vL 37 l_1.2.1 (RSp.enc o.r0_carried)]) () (trivial) (sE Y) (fun w hh => hh) (fun s_2 l_19 r_2 hpl hm h93 => ?_)
   unfold jS at hm
   refine jp (zK Y Y Y (jo (jk ?_)))
   refine jr Y (fun h94 => ?_) (fun h94 => ?_)
   ·replace hm := ifD h94 hm
    refine js (ja (jk (jj (jp (je Y Y (jl Y Y (jV ?_)))))))
    refine j7 0 runUnderlying28 Y sizeOf25 Y Y (kx 4 isAgg25 Y Y Y Y (jb Y Y Y (fun w _ => zQ (vlen RSt h5 Y) (runUnderlying25 w) Y) (je Y Y (jo ?_))))
    obtain ⟨o_5, h95, h96⟩ := bindO hm
    refine jM (ι := Unit) (fun j_1 => o_5 = .inl j_1) (fun j_1 => [(8, ptr b 0), (10, sL l_5), (11, ptr b_1 0), (182, .int .i64 (o.r0_carried.length : Int)), (183, .int .i64 s_2)]) (fun j_1 => [kc b_4 #[.bool t142.r0.tenants, sL l_17] 61, kc b_3 #[.bool t137.r0.tenants, sL l_16] 61, kc b_1 #[sL l_6.1, sL l_6.2] 28, kc l_4 #[.slice qa1 na1 ca1, .int .i64 t67.h0_1, .int .u32 t67.h0_2] 105, kc b #[sL l_1.1, sL l_1.2.1] 28, kc l #[.slice qa0 na0 ca0, .int .i64 o.t5_1, .int .u32 o.t5_2] 105]) (fun j_1 => [vL 3 l_5 (RI.enc t67.r0), vL 3 l_17 (RI.enc t142.r0.of_), vL 3 l_16 (RI.enc t137.r0.of_), vL 77 l_6.1 (RSt.enc o_1), vL 37 l_6.2 (RSp.enc o_2), vL 77 l_1.1 (RSt.enc t41.r0.strips), vL 37 l_1.2.1 (RSp.enc o.r0_carried)]) ?_ ?_
    ·replace hm := h95
     refine jj ?_
     refine jD (ι := Unit) hm (fun s_3 l_20 => True) (fun s_3 l_20 => [(8, ptr b 0), (10, sL l_5), (11, ptr b_1 0), (31, .int .i64 s_2), (182, .int .i64 (o.r0_carried.length : Int)), (183, .int .i64 s_2), (188, .int .i64 (t41.r0.strips.length : Int)), (189, .int .i64 s_3)]) (fun s_3 l_20 => [kc b_4 #[.bool t142.r0.tenants, sL l_17] 61, kc b_3 #[.bool t137.r0.tenants, sL l_16] 61, kc b_1 #[sL l_6.1, sL l_6.2] 28, kc l_4 #[.slice qa1 na1 ca1, .int .i64 t67.h0_1, .int .u32 t67.h0_2] 105, kc b #[sL l_1.1, sL l_1.2.1] 28, kc l #[.slice qa0 na0 ca0, .int .i64 o.t5_1, .int .u32 o.t5_2] 105]) (fun s_3 l_20 => [vL 3 l_5 (RI.enc t67.r0), vL 3 l_17 (RI.enc t142.r0.of_), vL 3 l_16 (RI.enc t137.r0.of_), vL 77 l_6.1 (RSt.enc o_1), vL 37 l_6.2 (RSp.enc o_2), vL 77 l_1.1 (RSt.enc t41.r0.strips), vL 37 l_1.2.1 (RSp.enc o.r0_carried)]) () (trivial) (sE Y) (fun w hh => hh) (fun s_3 l_20 r_3 hpl hm h97 => ?_)
     unfold kh at hm
     refine jp (zK Y Y Y (jo (jk ?_)))
     refine jr Y (fun h98 => ?_) (fun h98 => ?_)
     ·replace hm := ifD h98 hm
      refine js (ja (jk (jj (jp (je Y Y (jl Y Y (jV ?_)))))))
      refine qX [_, _] 4 isAgg28 sizeOf28 Y Y Y Y (je Y Y (je Y Y ?_))
      obtain ⟨t196, h99, hm⟩ := bindO hm
      refine jd [] [] Y Y Y Y Y Y Y call19 (fun w hh => QH (⟨t41.r0.strips, o.r0_carried⟩ : Scalps) s_2 s_3 (qA l_1.1.q) l_1.1.n l_1.1.cap (qA l_1.2.1.q) l_1.2.1.n l_1.2.1.cap w (HV.callee (S0 := []) (vs0 := []) hh (roC (hh.vsepA 5 Y h5) (roC (hh.vsepA 6 Y h12) roN))) (vlen RSt h5 Y) (AOK.q (vne h5)) (h5).hle (vlen RSp h12 Y) (AOK.q (vne h12)) (h12).hle h99) (fun l_21 h100 => ?_)
      refine je Y Y (ka Y Y Y (ka Y Y Y ?_))
      refine jq (fun w => zeroValue37 w) Y (fun b_5 h101 => ?_)
      refine jB (us := #[_, _]) (cs' := [_, _]) (S' := [_, _, _, _, _, _, _]) 0 (fun w => sizeOf37 w) Y Y Y Y Y Y Y (jl Y Y (jo (jk ?_)))
      obtain ⟨o_6, h102, h103⟩ := bindO hm
      refine jM (ι := Nat) (fun l_22 => True) (fun l_22 => [(8, ptr b 0), (10, sL l_5), (11, ptr b_1 0), (31, .int .i64 s_2), (33, ptr b_5 0), (34, .int .i64 t196.r1), (35, ptr l_22 0), (36, .int .i64 o_6.f36), (182, .int .i64 (o.r0_carried.length : Int)), (183, .int .i64 s_2), (188, .int .i64 (t41.r0.strips.length : Int)), (189, .int .i64 s_3)]) (fun l_22 => [kc b_5 #[.int .i64 t196.r0.lo, .int .i64 t196.r0.hi] 37, kc b_4 #[.bool t142.r0.tenants, sL l_17] 61, kc b_3 #[.bool t137.r0.tenants, sL l_16] 61, kc b_1 #[sL l_6.1, sL l_6.2] 28, kc l_4 #[.slice qa1 na1 ca1, .int .i64 t67.h0_1, .int .u32 t67.h0_2] 105, kc b #[sL l_1.1, sL l_1.2.1] 28, kc l #[.slice qa0 na0 ca0, .int .i64 o.t5_1, .int .u32 o.t5_2] 105, kc l_22 #[.int .i64 o_6.y35.lo, .int .i64 o_6.y35.hi] 37]) (fun l_22 => [vL 3 l_5 (RI.enc t67.r0), vL 3 l_17 (RI.enc t142.r0.of_), vL 3 l_16 (RI.enc t137.r0.of_), vL 77 l_6.1 (RSt.enc o_1), vL 37 l_6.2 (RSp.enc o_2), vL 77 l_1.1 (RSt.enc t41.r0.strips), vL 37 l_1.2.1 (RSp.enc o.r0_carried)]) ?_ ?_
      ·replace hm := h102
       obtain ⟨t203, h104, hm⟩ := bindO hm
       obtain ⟨t208, h105, hm⟩ := bindO hm
       obtain ⟨t210, h106, hm⟩ := bindO hm
       obtain ⟨t211, h107, hm⟩ := bindO hm
       refine j4 none (.hoist 0 (.free 1 (.free 2 (.free 3 (.hoist 4 (.free 5 (.hoist 6 (.free 7 (.free 8 (.free 9 (.free 10 (.br (.alt 11 (.free 12 (.free 13 (.free 14 (.one 15 (.one 16 (.free 17 .done)))))) (.alt 15 (.one 11 (.free 12 (.free 13 (.free 14 (.one 16 (.free 17 .done)))))) .nil)))))))))))))) _ Y (by decide +kernel) (fun w k hh => hh.draw k) (fun w hh => hh) ?_
       refine jG Y Y Y Y (fun w hh => zb (vs := [_, _]) (isAgg28 w) (sizeOf28 w) Y (hh.cells 3 Y Y)) (kU Y Y Y (kU Y Y Y (jg Y Y Y Y (fun w _ => yJ h104 (runUnderlying32 w) (sizeOf3 w) Y Y (vlen RI h26 Y) (vne h26)) (jG Y Y Y Y (fun w hh => qx RI 0 h104 (isAgg3 w) Y (hh.vseg 0 Y h26) Y (Nat.add_zero _).symm) (qo 0 runUnderlying28 sizeOf25 Y Y Y Y (qW 5 isAgg25 Y Y Y Y Y (jg Y Y Y Y (fun w _ => zQ (vlen RSt h5 Y) (runUnderlying25 w) Y) ?_)))))))
       refine jg Y Y Y Y (fun _ _ => qc h105 Y Y) (kU Y Y Y (jg Y Y Y Y (fun _ _ => qc h106 Y Y) (ZF ?_)))
       refine J4 Y ?_ ?_
       ·refine jd [] [] Y Y Y Y Y Y Y call19 (fun w hh => QH (⟨o_1, o_2⟩ : Scalps) t203 t210 (qA l_6.1.q) l_6.1.n l_6.1.cap (qA l_6.2.q) l_6.2.n l_6.2.cap w (HV.callee (S0 := []) (vs0 := []) hh (roC (hh.vsepA 3 Y h37) (roC (hh.vsepA 4 Y h48) roN))) (vlen RSt h37 Y) (AOK.q (vne h37)) (h37).hle (vlen RSp h48 Y) (AOK.q (vne h48)) (h48).hle h107) (fun l_23 h108 => ?_)
        refine jv (fun w hh => hh) (kU Y Y Y (jg Y Y Y Y (fun _ _ => q8 Y Y) (jg Y Y Y Y (fun _ _ => q8 Y Y) (jK Y ?_))))
        refine jq (fun w => zeroValue37 w) Y (fun b_6 h109 => ?_)
        refine jv (hsE [1, 2, 3, 4, 5, 6, 7] [0, 1, 2, 3, 4, 5, 6] 0 Y Y Y Y) (jK Y (jB (us := #[_, _]) (cs' := [_, _]) (S' := [_, _, _, _, _, _, _, _]) 0 (fun w => sizeOf37 w) Y Y Y Y Y Y Y (jv (hsE [1, 2, 3, 4, 5, 6, 7] [0, 1, 2, 3, 4, 5, 6] 0 Y Y Y Y) (jg Y Y Y Y (fun _ _ => jU Y) (jN ?_)))))
        obtain rfl := sj hm
        exact jn b_6 (trivial) (sE Y) (hsE [1, 2, 3, 4, 5, 6, 7, 0] [0, 1, 2, 3, 4, 5, 6] 0 Y Y Y Y)
       refine J4 Y ?_ ?_
       refine jq (fun w => zeroValue37 w) Y (fun b_7 h110 => ?_)
       refine jv (hsE [1, 2, 3, 4, 5, 6, 7] [0, 1, 2, 3, 4, 5, 6] 0 Y Y Y Y) (jK Y ?_)
       refine jd [] [] Y Y Y Y Y Y Y call19 (fun w hh => QH (⟨o_1, o_2⟩ : Scalps) t203 t210 (qA l_6.1.q) l_6.1.n l_6.1.cap (qA l_6.2.q) l_6.2.n l_6.2.cap w (HV.callee (S0 := []) (vs0 := []) hh (roC (hh.vsepA 3 Y h37) (roC (hh.vsepA 4 Y h48) roN))) (vlen RSt h37 Y) (AOK.q (vne h37)) (h37).hle (vlen RSp h48 Y) (AOK.q (vne h48)) (h48).hle h107) (fun l_24 h111 => ?_)
       refine jv (hsE [1, 2, 3, 4, 5, 6, 7] [0, 1, 2, 3, 4, 5, 6] 0 Y Y Y Y) (kU Y Y Y (jg Y Y Y Y (fun _ _ => q8 Y Y) (jg Y Y Y Y (fun _ _ => q8 Y Y) (jK Y (jB (us := #[_, _]) (cs' := [_, _]) (S' := [_, _, _, _, _, _, _, _]) 0 (fun w => sizeOf37 w) Y Y Y Y Y Y Y (jv (hsE [1, 2, 3, 4, 5, 6, 7] [0, 1, 2, 3, 4, 5, 6] 0 Y Y Y Y) (jg Y Y Y Y (fun _ _ => jU Y) ?_)))))))
       refine jN ?_
       obtain rfl := sj hm
       exact jn b_7 (trivial) (sE Y) (hsE [1, 2, 3, 4, 5, 6, 7, 0] [0, 1, 2, 3, 4, 5, 6] 0 Y Y Y Y)
       exact Q2
      intro l_22 hj
      replace hm := h103
      refine ja (jk ?_)
      obtain ⟨o_7, h112, h113⟩ := bindO hm
      refine jM (ι := Unit) (fun l_25 => True) (fun l_25 => [(8, ptr b 0), (10, sL l_5), (11, ptr b_1 0), (31, .int .i64 s_2), (182, .int .i64 (o.r0_carried.length : Int)), (183, .int .i64 s_2), (188, .int .i64 (t41.r0.strips.length : Int)), (189, .int .i64 s_3), (221, .bool o_7)]) (fun l_25 => [kc b_5 #[.int .i64 t196.r0.lo, .int .i64 t196.r0.hi] 37, kc b_4 #[.bool t142.r0.tenants, sL l_17] 61, kc b_3 #[.bool t137.r0.tenants, sL l_16] 61, kc b_1 #[sL l_6.1, sL l_6.2] 28, kc l_4 #[.slice qa1 na1 ca1, .int .i64 t67.h0_1, .int .u32 t67.h0_2] 105, kc b #[sL l_1.1, sL l_1.2.1] 28, kc l #[.slice qa0 na0 ca0, .int .i64 o.t5_1, .int .u32 o.t5_2] 105, kc l_22 #[.int .i64 o_6.y35.lo, .int .i64 o_6.y35.hi] 37]) (fun l_25 => [vL 3 l_5 (RI.enc t67.r0), vL 3 l_17 (RI.enc t142.r0.of_), vL 3 l_16 (RI.enc t137.r0.of_), vL 77 l_6.1 (RSt.enc o_1), vL 37 l_6.2 (RSp.enc o_2), vL 77 l_1.1 (RSt.enc t41.r0.strips), vL 37 l_1.2.1 (RSp.enc o.r0_carried)]) ?_ ?_
      ·replace hm := h112
       refine jh (je Y Y (je Y Y (jb Y Y Y (fun _ _ => q5 Y Y) (je Y Y ?_))))
       refine jZ 217 Y (fun h114 => ?_) (fun h114 => ?_)
       ·replace hm := ifF (of_ndec_true h114) hm
        refine g_k Y Y Y Y (g_k Y Y Y Y (g_k Y Y Y Y (qO Y Y Y (jx ?_))))
        obtain rfl := sj hm
        exact jn () (trivial) (sE Y) (fun w hh => hh)
       replace hm := ifT (of_ndec_false h114) hm
       refine jc Y Y (qX [_, _] 0 isAgg37 sizeOf37 Y Y Y Y (jc Y Y (qX [_, _] 7 isAgg37 sizeOf37 Y Y Y Y (jc Y Y (jb Y Y Y (fun w _ => Zz (ZQ t196.r0 o_6.y35 w) Zn Y Y) (yW Y Y Y (jx ?_)))))))
       obtain rfl := sj hm
       exact jn () (trivial) (sE Y) (fun w hh => hh)
      intro l_25 hj
      replace hm := h113
      refine ja ?_
      refine jr Y (fun h115 => ?_) (fun h115 => ?_)
      ·replace hm := ifT (h115) hm
       refine jp (jl Y Y (jo (ju (jy (jf (jf (jy ?_)))))))
       obtain rfl := sj hm
       have hbo := h97 _ Y
       subst hbo
       refine jf ?_
       replace hm := ocR h96
       refine jy (jf (jf (jy ?_)))
       obtain rfl := sj hm
       have hbo := h93 _ Y
       subst hbo
       refine jf ?_
       replace hm := ocR h92
       refine jf ?_
       obtain rfl := sj hm
       refine jm Y (fun w hh => (.tmp Y .nil)) (fun w hh => ⟨(), rfl, trivial, hh.se [] [] 2 Y Y Y rfl⟩)
      replace hm := ifN h115 hm
      refine js (jt (ja (jh ?_)))
      obtain ⟨t222, h116, hm⟩ := bindO hm
      refine yA h116 Y Y Y (je Y Y (jx ?_))
      obtain rfl := sj hm
      refine ja ?_
      exact jz _ () Y (trivial) (sE Y) (hsE [1, 2, 3, 4, 5, 6] [0, 1, 2, 3, 4, 5, 6] 0 Y Y Y Y)
     replace hm := ifE h98 hm
     refine jP (ji (ji (jC ?_)))
     obtain rfl := sj hm
     have hbo := h97 _ Y
     subst hbo
     exact jn () (Y) (sE Y) (fun w hh => hh)
    intro j_1 hj
    have h117 := hj
    subst h117
    replace hm := ocL h96
    refine jt (ja (jh ?_))
    obtain ⟨t223, h118, hm⟩ := bindO hm
    refine yA h118 Y Y Y (je Y Y (jx ?_))
    obtain rfl := sj hm
    refine ja ?_
    exact jz _ () Y (trivial) (sE Y) (fun w hh => hh)
   replace hm := ifE h94 hm
   refine jP (ji (ji (jC ?_)))
   obtain rfl := sj hm
   have hbo := h93 _ Y
   subst hbo
   exact jn () (Y) (.nil) (hsE [0, 1, 2, 3, 4, 5] [1, 2, 3, 4, 5, 6] 0 Y Y Y Y)
  intro j hj
  have h119 := hj
  subst h119
  replace hm := ocL h92
  refine ja (jp ?_)
  obtain ⟨t224, h120, hm⟩ := bindO hm
  refine jd [] [] Y Y Y Y Y Y Y call20 (fun w hh => Zp  w (HV.callee (S0 := []) (vs0 := []) hh roN)  h120) (fun l_26 h121 => ?_)
  refine jl Y Y (jo (ju ?_))
  obtain rfl := sj hm
  refine jm Y (fun w hh => (.tmp Y .nil)) (fun w hh => ⟨(), rfl, trivial, hh.se [] [] 2 Y Y Y rfl⟩)
end Go.Proofs.Ws

namespace Go.Proofs.Ws
open Go Go.Fw Go.Gx Go.Sp
set_option linter.unusedVariables false
def IsOrd (n : Nat) (l : List Int) : Prop := l.Perm ((List.range n).map fun k : Nat => (k : Int))
theorem ins_ok {l : List Int} {i v : Int} (h0 : 0 ≤ i) (h1 : i ≤ (l.length : Int)) (hl : l.length ≤ 1000) : q3 l i [v] = some (l.take i.toNat ++ [v] ++ l.drop i.toNat) := by
  unfold q3
  rw [if_pos ⟨h0, h1, by simp, by simp; omega⟩]
theorem IsOrd.len {n : Nat} {l : List Int} (h : IsOrd n l) : l.length = n := by
  have := List.Perm.length_eq h
  simpa using this
theorem IsOrd.ins {n : Nat} {l : List Int} (h : IsOrd n l) (i : Nat) : IsOrd (n + 1) (l.take i ++ [(n : Int)] ++ l.drop i) := by
  unfold IsOrd
  rw [List.range_succ, List.map_append]
  have e : l.take i ++ [(n : Int)] ++ l.drop i = l.take i ++ (n : Int) :: l.drop i := by simp
  rw [e]
  refine List.perm_middle.trans ?_
  rw [List.take_append_drop]
  refine (List.Perm.cons _ h).trans ?_
  exact (List.perm_append_singleton _ _).symm
theorem order_ok {l : List Int} (hl : l.length ≤ 9223372036854775807) {p r : Int} {n : Nat} (hp : HOK l p) (hn : n ≤ 900) : ∃ x, qB l p r (n : Int) = some x ∧ HOK l x.h0_1 ∧ IsOrd n x.r0 := by
  unfold qB
  have key : ∃ o, iterM FU (kz (n : Int) l) ⟨0, p, r, []⟩ = some o ∧ HOK l o.h0_1 ∧ IsOrd n o.out5 := by
    refine iterM_inv (f := kz (n : Int) l) (fun s => ∃ j : Nat, s.t9 = (j : Int) ∧ j ≤ n ∧ HOK l s.h0_1 ∧ IsOrd j s.out5) (fun s => ((n : Int) - s.t9).toNat) _ (fun s hs => ?_) FU _ (FU_lt (by simp only; omega)) ⟨0, rfl, by omega, hp, List.Perm.refl _⟩
    obtain ⟨j, hj, hjn, hk, ho⟩ := hs
    unfold kz
    rw [hj]
    by_cases hlt : j < n
    · left
      obtain ⟨x, hx, hb, hk2⟩ := upto_ok (r := s.h0_2) (n := (j : Int)) hl hk (by omega)
      have hlen := ho.len
      rw [if_pos (by omega), hx, Option.bind_some, ins_ok hb.1 (by omega) (by omega), Option.bind_some, addc_eq (by omega), Option.bind_some]
      exact ⟨_, rfl, ⟨j + 1, by push_cast; rfl, hlt, hk2, ho.ins _⟩, by simp only; omega⟩
    · right
      rw [if_neg (by omega)]
      have : j = n := by omega
      subst this
      exact ⟨_, rfl, hk, ho⟩
  obtain ⟨o, h1, h2, h3⟩ := key
  rw [h1, Option.bind_some]
  exact ⟨_, rfl, h2, h3⟩
def ordN (l : List Int) (t : Nat) : Nat := (gtI l t).toNat
theorem gtI_mem {l : List Int} {t : Nat} (h : t < l.length) : gtI l t ∈ l := by
  have : gtI l t = l[t] := by simp [gtI, List.getD_eq_getElem?_getD, h]
  rw [this]; exact List.getElem_mem h
theorem IsOrd.at {n : Nat} {l : List Int} (h : IsOrd n l) {t : Nat} (ht : t < n) : gtI l t = (ordN l t : Int) ∧ ordN l t < n := by
  have hm := (List.Perm.mem_iff h).1 (gtI_mem (l := l) (t := t) (by rw [h.len]; exact ht))
  obtain ⟨k, hk, he⟩ := List.mem_map.1 hm
  have hk' := List.mem_range.1 hk
  unfold ordN
  omega
theorem IsOrd.nodup {n : Nat} {l : List Int} (h : IsOrd n l) : l.Nodup := by
  refine (List.Perm.nodup_iff h).2 ?_
  exact List.Pairwise.map _ (fun a b hab h => hab (Int.ofNat.inj h)) List.nodup_range
theorem IsOrd.inj {n : Nat} {l : List Int} (h : IsOrd n l) {t u : Nat} (ht : t < n) (hu : u < n) (he : ordN l t = ordN l u) : t = u := by
  have h1 := h.at ht
  have h2 := h.at hu
  have hn := h.nodup
  have e1 : gtI l t = l[t]'(by rw [h.len]; exact ht) := by simp [gtI, List.getD_eq_getElem?_getD, show t < l.length by rw [h.len]; exact ht]
  have e2 : gtI l u = l[u]'(by rw [h.len]; exact hu) := by simp [gtI, List.getD_eq_getElem?_getD, show u < l.length by rw [h.len]; exact hu]
  have : l[t]'(by rw [h.len]; exact ht) = l[u]'(by rw [h.len]; exact hu) := by rw [← e1, ← e2, h1.1, h2.1, he]
  exact (List.getElem_inj hn).1 this
theorem IsOrd.surj {n : Nat} {l : List Int} (h : IsOrd n l) {v : Nat} (hv : v < n) : ∃ t, t < n ∧ ordN l t = v := by
  have hm : (v : Int) ∈ l := (List.Perm.mem_iff h).2 (List.mem_map.2 ⟨v, List.mem_range.2 hv, rfl⟩)
  obtain ⟨t, ht, he⟩ := List.getElem_of_mem hm
  refine ⟨t, by rw [← h.len]; exact ht, ?_⟩
  unfold ordN
  have : gtI l t = l[t] := by simp [gtI, List.getD_eq_getElem?_getD, ht]
  rw [this, he]; omega
theorem sumI_perm {α : Type} {f : α → Int} {l m : List α} (h : l.Perm m) : sumI f l = sumI f m := by
  induction h with
  | nil => rfl
  | cons x _ ih => simp only [sumI]; rw [ih]
  | swap x y l => simp only [sumI]; omega
  | trans _ _ h1 h2 => rw [h1, h2]
theorem sumL_to {f : Int → Int} {l : List Int} : ∀ {j : Nat}, j ≤ l.length → sumL f l j = sumTo (fun t => f (gtI l t)) j
  | 0, _ => by simp [sumL, sumI, sumTo]
  | j + 1, h => by rw [sumL_succ (by omega), sumL_to (by omega)]; rfl
theorem sumI_nat (g : Nat → Int) : ∀ n, sumI (fun x : Int => g x.toNat) ((List.range n).map fun k : Nat => (k : Int)) = sumTo g n
  | 0 => rfl
  | n + 1 => by
    rw [List.range_succ, List.map_append, sumI_append, sumI_nat g n]
    simp [sumI, sumTo]
theorem IsOrd.sum {n : Nat} {l : List Int} (h : IsOrd n l) (g : Nat → Int) : sumTo (fun t => g (ordN l t)) n = sumTo g n := by
  rw [← sumI_nat g n, ← sumI_perm h]
  have := sumL_to (f := fun x : Int => g x.toNat) (l := l) (Nat.le_refl _)
  unfold sumL at this
  rw [List.take_length, h.len] at this
  rw [this]
  rfl
theorem sumTo_shift (f : Nat → Int) : ∀ n, sumTo f (n + 1) = f 0 + sumTo (fun k => f (k + 1)) n
  | 0 => by simp [sumTo]
  | n + 1 => by
    have ih := sumTo_shift f n
    simp only [sumTo] at ih ⊢
    omega
theorem sumTo_rev (g : Nat → Int) : ∀ n, sumTo (fun k => g (n - 1 - k)) n = sumTo g n
  | 0 => rfl
  | n + 1 => by
    rw [sumTo_shift]
    have ih := sumTo_rev g n
    have e : sumTo (fun k => g (n + 1 - 1 - (k + 1))) n = sumTo (fun k => g (n - 1 - k)) n := sumTo_congr fun k _ => by rw [show n + 1 - 1 - (k + 1) = n - 1 - k by omega]
    rw [e, ih]
    simp only [sumTo]
    rw [show n + 1 - 1 - 0 = n by omega]
    omega
structure Mir (s o : Scalps) (π ρ : Nat → Nat) : Prop where
  sl : o.strips.length = s.strips.length
  cl : o.carried.length = s.carried.length
  pl : ∀ t, t < s.carried.length → π t < s.carried.length
  rl : ∀ t, t < s.carried.length → ρ t < s.carried.length
  pr : ∀ t, t < s.carried.length → ρ (π t) = t
  rp : ∀ t, t < s.carried.length → π (ρ t) = t
  sum : ∀ g : Nat → Int, sumTo (fun t => g (π t)) s.carried.length = sumTo g s.carried.length
  h : ∀ t, t < s.carried.length → hOf o.carried (π t) = hOf s.carried t
  g : ∀ k, k < s.strips.length → gOf o.strips (s.strips.length - 1 - k) = gOf s.strips k
  ten : ∀ k, k < s.strips.length → ∀ t, t < s.carried.length → ((o.strips.getD (s.strips.length - 1 - k) default).tenant = (π t : Int) ↔ (s.strips.getD k default).tenant = (t : Int))
theorem Mir.symm {s o : Scalps} {π ρ : Nat → Nat} (m : Mir s o π ρ) : Mir o s ρ π := by
  refine ⟨m.sl.symm, m.cl.symm, ?_, ?_, ?_, ?_, fun g => ?_, fun t ht => ?_, fun k hk => ?_, fun k hk t ht => ?_⟩
  · rw [m.cl]; exact m.rl
  · rw [m.cl]; exact m.pl
  · rw [m.cl]; exact m.rp
  · rw [m.cl]; exact m.pr
  · rw [m.cl, ← m.sum (fun t => g (ρ t))]
    exact sumTo_congr fun t ht => by rw [m.pr t ht]
  · rw [m.cl] at ht
    rw [← m.h (ρ t) (m.rl t ht), m.rp t ht]
  · rw [m.sl] at hk ⊢
    have := m.g (s.strips.length - 1 - k) (by omega)
    rw [show s.strips.length - 1 - (s.strips.length - 1 - k) = k by omega] at this
    exact this.symm
  · rw [m.sl] at hk ⊢
    rw [m.cl] at ht
    have := m.ten (s.strips.length - 1 - k) (by omega) (ρ t) (m.rl t ht)
    rw [show s.strips.length - 1 - (s.strips.length - 1 - k) = k by omega, m.rp t ht] at this
    exact this.symm
theorem Mir.reach {s o : Scalps} {π ρ : Nat → Nat} (m : Mir s o π ρ) {t k : Nat} (ht : t < s.carried.length) (hk : k < s.strips.length) (h : reachB s.strips t k = true) : reachB o.strips (π t) (s.strips.length - 1 - k) = true := by
  unfold reachB at h ⊢
  obtain ⟨j, hj, hb⟩ := List.any_eq_true.1 h
  have hj' := List.mem_range.1 hj
  obtain ⟨b1, b2, b3⟩ := of_decide_eq_true hb
  refine List.any_eq_true.2 ⟨s.strips.length - 1 - j, List.mem_range.2 (by rw [m.sl]; omega), decide_eq_true ⟨by omega, by omega, (m.ten j hj' t ht).2 b3⟩⟩
theorem Mir.fits {s o : Scalps} {π ρ : Nat → Nat} (m : Mir s o π ρ) {z : Nat → Nat → Int} (hz : FitsS o z) : FitsS s fun t k => z (π t) (s.strips.length - 1 - k) := by
  refine ⟨fun t k ht hk => ?_, fun t ht => ?_, fun k hk => ?_⟩
  · have h1 := hz.pos (π t) (s.strips.length - 1 - k) (by rw [m.cl]; exact m.pl t ht) (by rw [m.sl]; omega)
    refine ⟨h1.1, fun h2 => ?_⟩
    have h3 := m.symm.reach (t := π t) (k := s.strips.length - 1 - k) (by rw [m.cl]; exact m.pl t ht) (by rw [m.sl]; omega) (h1.2 h2)
    rw [m.sl, m.pr t ht, show s.strips.length - 1 - (s.strips.length - 1 - k) = k by omega] at h3
    exact h3
  · have h1 := hz.ten (π t) (by rw [m.cl]; exact m.pl t ht)
    rw [m.h t ht, m.sl] at h1
    rw [sumTo_rev (fun k => z (π t) k)]
    exact h1
  · have h1 := hz.str (s.strips.length - 1 - k) (by rw [m.sl]; omega)
    rw [m.g k hk, m.cl] at h1
    rw [m.sum (fun t => z t (s.strips.length - 1 - k))]
    exact h1
theorem Mir.count {s o : Scalps} {π ρ : Nat → Nat} (m : Mir s o π ρ) {c c' : Nat → Nat → Int} (hc : ∀ t k, t < s.carried.length → k < s.strips.length → c' (π t) (s.strips.length - 1 - k) = c t k) (z : Nat → Nat → Int) : countS s c (fun t k => z (π t) (s.strips.length - 1 - k)) = countS o c' z := by
  unfold countS countY
  rw [m.cl, m.sl, ← m.sum (fun t => sumTo (fun k => c' t k * z t k) s.strips.length)]
  refine sumTo_congr fun t ht => ?_
  rw [← sumTo_rev (fun k => c' (π t) k * z (π t) k)]
  exact sumTo_congr fun k hk => by rw [hc t k ht hk]
theorem Mir.range {s o : Scalps} {π ρ : Nat → Nat} (m : Mir s o π ρ) {c c' : Nat → Nat → Int} (hc : ∀ t k, t < s.carried.length → k < s.strips.length → c' (π t) (s.strips.length - 1 - k) = c t k) {lo hi : Int} (h : IsRange o c' lo hi) : IsRange s c lo hi := by
  obtain ⟨⟨y1, f1, e1⟩, ⟨y2, f2, e2⟩, hb⟩ := h
  have hc' : ∀ t k, t < o.carried.length → k < o.strips.length → c (ρ t) (o.strips.length - 1 - k) = c' t k := fun t k ht hk => by
    rw [m.cl] at ht
    rw [m.sl] at hk ⊢
    have := hc (ρ t) (s.strips.length - 1 - k) (m.rl t ht) (by omega)
    rw [m.rp t ht, show s.strips.length - 1 - (s.strips.length - 1 - k) = k by omega] at this
    exact this.symm
  refine ⟨⟨_, m.fits f1, by rw [m.count hc, e1]⟩, ⟨_, m.fits f2, by rw [m.count hc, e2]⟩, fun y hy => ?_⟩
  have h1 := hb _ (m.symm.fits hy)
  rw [m.symm.count hc'] at h1
  exact h1
theorem Mir.noFit {s o : Scalps} {π ρ : Nat → Nat} (m : Mir s o π ρ) (h : NoFit s) : NoFit o := fun z hz => h _ (m.fits hz)
theorem Mir.theft {s o : Scalps} {π ρ : Nat → Nat} (m : Mir s o π ρ) (t k : Nat) (ht : t < s.carried.length) (hk : k < s.strips.length) : thC o (π t) (s.strips.length - 1 - k) = thC s t k := by
  unfold thC
  congr 1
  unfold othB
  congr 1
  exact decide_eq_decide.2 (m.ten k hk t ht)
theorem Mir.just {s o : Scalps} {π ρ : Nat → Nat} (m : Mir s o π ρ) {t0 k0 : Nat} (ht0 : t0 < s.carried.length) (hk0 : k0 < s.strips.length) (t k : Nat) (ht : t < s.carried.length) (hk : k < s.strips.length) : jsC (π t0) (s.strips.length - 1 - k0) (π t) (s.strips.length - 1 - k) = jsC t0 k0 t k := by
  unfold jsC
  congr 1
  refine decide_eq_decide.2 ⟨fun ⟨a, b⟩ => ⟨?_, by omega⟩, fun ⟨a, b⟩ => ⟨by rw [a], by rw [b]⟩⟩
  rw [← m.pr t ht, a, m.pr t0 ht0]
end Go.Proofs.Ws

namespace Go.Proofs.Ws
open Go Go.Fw Go.Gx Go.Sp
set_option linter.unusedVariables false
theorem reverse_eq {l : List Strip} (hl : l.length ≤ 1000) : qa l = some l.reverse := by
  unfold qa
  rw [subc_eq (by omega), Option.bind_some]
  have key := iterM_run (f := ks) (b := l.reverse) (fun k : Nat => (⟨(k : Int), (l.length : Int) - 1 - (k : Int), revst l default k⟩ : jY)) (l.length / 2) (fun k hk => by
    have h1 : ix (revst l default k) (k : Int) = some (l.getD k default) := by
      unfold revst
      rw [range_ix (by omega), if_neg (by omega)]
    have h2 : ix (revst l default k) ((l.length : Int) - 1 - (k : Int)) = some (l.getD (l.length - 1 - k) default) := by
      rw [show (l.length : Int) - 1 - (k : Int) = ((l.length - 1 - k : Nat) : Int) by omega]
      unfold revst
      rw [range_ix (by omega), if_neg (by omega)]
    have h3 : ix ((revst l default k).set k (l.getD (l.length - 1 - k) default)) ((l.length : Int) - 1 - (k : Int)) = some (l.getD (l.length - 1 - k) default) := by
      rw [show (l.length : Int) - 1 - (k : Int) = ((l.length - 1 - k : Nat) : Int) by omega]
      unfold revst
      rw [range_set, range_ix (by omega), if_neg (by omega), if_neg (by omega)]
    have e1 : ∀ x : Strip, (⟨x.tenant, ⟨x.lay.lo, x.lay.hi⟩, ⟨x.seeded.lo, x.seeded.hi⟩, ⟨x.left.lo, x.left.hi⟩⟩ : Strip) = x := fun _ => rfl
    unfold ks
    dsimp only
    rw [if_pos (by omega), h2, Option.bind_some, h1, Option.bind_some, Option.bind_some, Option.bind_some, Int.toNat_natCast, h3, Option.bind_some, Option.bind_some, addc_eq (by omega), Option.bind_some, subc_eq (by omega), Option.bind_some,
      show ((l.length : Int) - 1 - (k : Int)).toNat = l.length - 1 - k by omega]
    rw [e1, e1, revst_step default hk]
    rw [show (l.length : Int) - 1 - (k : Int) - 1 = (l.length : Int) - 1 - ((k + 1 : Nat) : Int) by omega]
    rfl) (by
    unfold ks
    dsimp only
    rw [if_neg (by omega), revst_end]) FU (FU_lt (by omega))
  have hz : (⟨0, (l.length : Int) - 1, l⟩ : jY) = (fun k : Nat => (⟨(k : Int), (l.length : Int) - 1 - (k : Int), revst l default k⟩ : jY)) 0 := by
    simp [revst_zero]
  rw [hz, key, Option.bind_some]
def renT (l : List Int) (x : Strip) : Strip := { x with tenant := gtI l x.tenant.toNat }
theorem mirrored_L0 {st : List Strip} (h6 : st.length ≤ 1000) {l : List Int} {n : Nat} (ho : IsOrd n l) (ht : ∀ x, x ∈ st → 0 ≤ x.tenant ∧ x.tenant < (n : Int)) (p r : Int) : iterM FU (jX st ⟨p, r, l⟩) ⟨0, st⟩ = some (st.map (renT l)) := by
  have key := iterM_run (f := jX st ⟨p, r, l⟩) (fun j => ⟨(j : Int), mapst (renT l) st j⟩) st.length (b := st.map (renT l)) (fun j hj => ?_) ?_ FU (FU_lt (by omega))
  · have e : (⟨0, st⟩ : kt) = ⟨((0 : Nat) : Int), mapst (renT l) st 0⟩ := by rw [mapst_zero]; rfl
    rw [e, key]
  · unfold jX
    have hx : st.getD j default = st[j] := by simp [List.getD_eq_getElem?_getD, hj]
    have hb := ht _ (List.getElem_mem hj)
    have hlen := ho.len
    have hix : ix l (st.getD j default).tenant = some (gtI l (st.getD j default).tenant.toNat) := by
      rw [hx]
      exact ix_eq 0 hb.1 (by omega)
    simp only
    rw [if_pos (by omega), mapst_ix default hj, Option.bind_some, hix, Option.bind_some, Option.bind_some, Option.bind_some, addc_eq (by omega), Option.bind_some, Int.toNat_natCast]
    have e := mapst_set (f := renT l) (l := st) (k := j) default hj
    rw [← e]
    rfl
  · unfold jX
    simp only
    rw [if_neg (by omega), mapst_end]
theorem mirrored_L1 {ca : List Span} (h5 : ca.length ≤ 1000) {l : List Int} (ho : IsOrd ca.length l) (p r p2 r2 : Int) : ∃ cb, iterM FU (kg ⟨p, r, ca⟩ ⟨p2, r2, l⟩) ⟨0, ca⟩ = some cb ∧ cb.length = ca.length ∧ ∀ t, t < ca.length → hOf cb (ordN l t) = hOf ca t := by
  refine iterM_inv (f := kg ⟨p, r, ca⟩ ⟨p2, r2, l⟩) (fun s => ∃ j : Nat, s.t97 = (j : Int) ∧ j ≤ ca.length ∧ s.r0_carried.length = ca.length ∧ ∀ t, t < j → hOf s.r0_carried (ordN l t) = hOf ca t) (fun s => ((ca.length : Int) - s.t97).toNat) _ (fun s hs => ?_) FU _ (FU_lt (by simp only; omega)) ⟨0, rfl, by omega, rfl, fun t ht => by omega⟩
  obtain ⟨j, hj, hjl, hlen, hall⟩ := hs
  obtain ⟨sj, sc⟩ := s
  simp only at hj hlen hall
  subst hj
  unfold kg
  simp only
  by_cases hlt : j < ca.length
  · left
    have hlo := ho.len
    have hat := ho.at hlt
    have hix : ix l (j : Int) = some (gtI l j) := ix_nat 0 (by omega)
    rw [if_pos (by omega), ix_nat default hlt, Option.bind_some, hix, Option.bind_some, hat.1, ix_nat default (by omega), Option.bind_some, Option.bind_some, addc_eq (by omega), Option.bind_some, Int.toNat_natCast]
    refine ⟨_, rfl, ⟨j + 1, by push_cast; rfl, hlt, by simp only; rw [List.length_set]; exact hlen, fun t ht => ?_⟩, by simp only; omega⟩
    simp only
    rw [hOf_set (by omega)]
    by_cases he : t = j
    · subst he; rw [if_pos rfl]; rfl
    · rw [if_neg (fun hh => he (ho.inj (by omega) hlt hh))]
      exact hall t (by omega)
  · right
    rw [if_neg (by omega)]
    have : j = ca.length := by omega
    subst this
    exact ⟨_, rfl, hlen, hall⟩
theorem mirrored_right {s : Scalps} (h : Right s) {l : List Int} (ho : IsOrd s.carried.length l) {cb : List Span} (hl : cb.length = s.carried.length) (hc : ∀ t, t < s.carried.length → hOf cb (ordN l t) = hOf s.carried t) : Right ⟨s.strips.reverse.map (renT l), cb⟩ ∧ ∃ ρ, Mir s ⟨s.strips.reverse.map (renT l), cb⟩ (ordN l) ρ := by
  have h6 := h.net.s6; have h5 := h.net.c5
  have hex : ∀ v, ∃ t, v < s.carried.length → t < s.carried.length ∧ ordN l t = v := fun v => by
    by_cases hv : v < s.carried.length
    · obtain ⟨t, ht, he⟩ := ho.surj hv
      exact ⟨t, fun _ => ⟨ht, he⟩⟩
    · exact ⟨0, fun hh => absurd hh hv⟩
  obtain ⟨ρ, hρ⟩ := Classical.axiomOfChoice hex
  have hgetx : ∀ k, k < s.strips.length → (s.strips.reverse.map (renT l)).getD (s.strips.length - 1 - k) default = renT l (s.strips.getD k default) := fun k hk => by
    rw [List.getD_eq_getElem?_getD, List.getElem?_map, List.getElem?_reverse (by omega), show s.strips.length - 1 - (s.strips.length - 1 - k) = k by omega, List.getElem?_eq_getElem hk]
    simp [List.getD_eq_getElem?_getD, hk]
  have hmem : ∀ x, x ∈ s.strips.reverse.map (renT l) → ∃ y, y ∈ s.strips ∧ x = renT l y := fun x hx => by
    obtain ⟨y, hy, rfl⟩ := List.mem_map.1 hx
    exact ⟨y, List.mem_reverse.1 hy, rfl⟩
  have htn : ∀ y, y ∈ s.strips → (gtI l y.tenant.toNat) = (ordN l y.tenant.toNat : Int) ∧ ordN l y.tenant.toNat < s.carried.length := fun y hy => ho.at (by have := h.ten y hy; omega)
  refine ⟨⟨⟨by simpa using h6, by simp only; omega, fun x hx => ?_, fun x hx => ?_⟩, by simpa using h.s1, by simp only; have := h.c1; omega, fun x hx => ?_, fun x hx => ?_⟩, ρ, ?_⟩
  · obtain ⟨y, hy, rfl⟩ := hmem x hx
    exact h.net.sp y hy
  · simp only at hx
    obtain ⟨i, hi, rfl⟩ := List.getElem_of_mem hx
    obtain ⟨r1, r2⟩ := hρ i (by omega)
    have e := hc (ρ i) r1
    rw [r2] at e
    have e2 : hOf cb i = cb[i] := by simp [hOf, List.getD_eq_getElem?_getD, hi]
    have e3 : hOf s.carried (ρ i) = s.carried[ρ i] := by simp [hOf, List.getD_eq_getElem?_getD, r1]
    rw [← e2, e, e3]
    exact h.net.cp _ (List.getElem_mem r1)
  · obtain ⟨y, hy, rfl⟩ := hmem x hx
    have := htn y hy
    simp only [renT]
    rw [hl]
    omega
  · obtain ⟨y, hy, rfl⟩ := hmem x hx
    exact h.ord y hy
  · refine ⟨by simp, hl, fun t ht => (ho.at ht).2, fun t ht => (hρ t ht).1, fun t ht => ?_, fun t ht => (hρ t ht).2, fun g => ho.sum g, hc, fun k hk => ?_, fun k hk t ht => ?_⟩
    · have a := (ho.at ht).2
      exact ho.inj (hρ _ a).1 ht (hρ _ a).2
    · unfold gOf
      simp only
      rw [hgetx k hk]
      rfl
    · simp only
      rw [hgetx k hk]
      have hx : s.strips.getD k default = s.strips[k] := by simp [List.getD_eq_getElem?_getD, hk]
      have hm := List.getElem_mem hk
      have hb := h.ten _ hm
      have hn := htn _ hm
      rw [hx]
      simp only [renT]
      rw [hn.1]
      constructor
      · intro he
        have := ho.inj (t := s.strips[k].tenant.toNat) (u := t) (by omega) ht (by omega)
        omega
      · intro he
        rw [he, Int.toNat_natCast]
theorem mirrored_end {x : yV} {z : jT} {od : j0} {so : List Strip} {co : List Span} {s o : Scalps} {ρ : Nat → Nat} (e1 : x.r0.strips = s.strips) (e2 : z.r0_carried = s.carried) (eo : (⟨so, co⟩ : Scalps) = o) (hR : Right s) (hO : IsOrd s.carried.length od.r0) (hR2 : Right o) (hM : Mir s o (ordN od.r0) ρ) :
    ((yc (⟨x.r0.strips, z.r0_carried⟩ : Scalps)).bind fun t113 =>
 (yc (⟨so, co⟩ : Scalps)).bind fun t119 =>
 (zA (⟨x.r0.strips, z.r0_carried⟩ : Scalps)).bind fun t125 =>
 (zA (⟨so, co⟩ : Scalps)).bind fun t131 =>
 (zg (⟨x.r0.strips, z.r0_carried⟩ : Scalps)).bind fun t137 =>
 (zg (⟨so, co⟩ : Scalps)).bind fun t142 =>
 (if t113.r2 = t119.r2 then
 (if t125.r2 = t131.r2 then
 (if t113.r2 = t125.r2 then
 (if t137.r1 = t142.r1 then
 (if (!((decide (t113.r2 = 0)) == (decide (t137.r1 = 6)))) = true then
 (some true) else
 (if t113.r1 = t119.r1 then
 (some (!decide (t125.r1 = t131.r1))) else
 (some true))) else
 (some true)) else
 (some true)) else
 (some true)) else
 (some true)).bind fun o_3 =>
 if o_3 = true then
 (some false) else
 ((iterM FU (jS z x od so co) 0).bind fun o_4 =>
 oc o_4 (fun j => (m_l_awake).bind fun t224 =>
 some t224) (fun r_5 => some r_5))) = some true := by
  have es : (⟨x.r0.strips, z.r0_carried⟩ : Scalps) = s := by rw [e1, e2]
  have h5 := hR.net.c5; have h6 := hR.net.s6
  obtain ⟨mp, hmp, hm⟩ := yL hR
  obtain ⟨mp2, hmp2, hm2⟩ := yL hR2
  have hth : ∀ t k, t < s.carried.length → k < s.strips.length → thC o (ordN od.r0 t) (s.strips.length - 1 - k) = thC s t k := fun t k ht hk => hM.theft t k ht hk
  have hL2 : iterM FU (jS z x od so co) 0 = some (.inl ()) := by
    have key := iterM_any0 (f := jS z x od so co) s.carried.length (fun _ => false) false (fun t ht => ?_) ?_ (N := FU) (FU_lt (by omega))
    · rw [key]
      have : (List.range s.carried.length).any (fun _ => false) = false := by simp
      rw [this]; rfl
    · have hat := hO.at ht
      have hix : ix od.r0 (t : Int) = some (gtI od.r0 t) := ix_nat 0 (by rw [hO.len]; exact ht)
      have k3 : iterM FU (kh x z (t : Int) od so co) 0 = some (.inl ()) := by
        have key := iterM_any0 (f := kh x z (t : Int) od so co) s.strips.length (fun _ => false) false (fun k hk => ?_) ?_ (N := FU) (FU_lt (by omega))
        · rw [key]
          have : (List.range s.strips.length).any (fun _ => false) = false := by simp
          rw [this]; rfl
        · unfold kh
          have e9 : (s.strips.length : Int) - 1 - (k : Int) = ((s.strips.length - 1 - k : Nat) : Int) := by omega
          have hpl : ordN od.r0 t < o.carried.length := by rw [hM.cl]; exact hat.2
          have hpk : s.strips.length - 1 - k < o.strips.length := by rw [hM.sl]; omega
          rw [es, eo, e1, if_pos (by omega), hix, Option.bind_some, subc_eq (by omega), Option.bind_some, subc_eq (by omega), Option.bind_some, e9, hat.1]
          rcases Taken_spec hR ht hk with ⟨lo, hi, h1, hr⟩ | ⟨h1, hn⟩
          · rcases Taken_spec hR2 hpl hpk with ⟨lo2, hi2, h2, hr2⟩ | ⟨h2, hn2⟩
            · have hr3 := hM.range (c := jsC t k) (fun t' k' ht' hk' => hM.just ht hk t' k' ht' hk') hr2
              obtain ⟨rfl, rfl⟩ := hr.uniq hr3
              rw [h1, Option.bind_some, h2, Option.bind_some, Option.bind_some]
              dsimp only
              rw [if_pos rfl, decide_eq_true rfl, Bool.not_true, Option.bind_some, if_neg (by simp), addc_eq (by omega), Option.bind_some]
              rfl
            · obtain ⟨⟨y, hy, _⟩, _⟩ := hr
              exact absurd (hM.symm.fits hy) (hn2 _)
          · rcases Taken_spec hR2 hpl hpk with ⟨lo2, hi2, h2, ⟨y, hy, _⟩, _⟩ | ⟨h2, hn2⟩
            · exact absurd (hM.fits hy) (hn _)
            · rw [h1, Option.bind_some, h2, Option.bind_some, Option.bind_some]
              dsimp only
              rw [if_pos rfl, decide_eq_true rfl, Bool.not_true, Option.bind_some, if_neg (by simp), addc_eq (by omega), Option.bind_some]
              rfl
        · unfold kh
          rw [e1, if_neg (by omega)]
      unfold jS
      rw [e2, if_pos (by omega), k3, Option.bind_some, oc_inl, addc_eq (by omega), Option.bind_some]
      rfl
    · unfold jS
      rw [e2, if_neg (by omega)]
  have hfin : ((iterM FU (jS z x od so co) 0).bind fun o_4 => oc o_4 (fun j => m_l_awake.bind fun t224 => some t224) (fun r_5 => (some r_5 : Option Bool))) = some true := by
    rw [hL2, Option.bind_some, oc_inl, awake_eq]; rfl
  rw [es, eo]
  rcases Least_spec hR with ⟨lo, hi, ya, hL, hya, hca, hr1⟩ | ⟨hL, hn⟩
  · have hfo := hM.symm.fits hya
    rcases Least_spec hR2 with ⟨lo', hi', ya', hL', hya', hca', hr1'⟩ | ⟨_, hn'⟩
    · rcases Most_spec hR with ⟨lo2, hi2, yb, hMo, hyb, hcb2, hr2⟩ | ⟨_, hn2⟩
      · rcases Most_spec hR2 with ⟨lo2', hi2', yb', hMo', hyb', hcb2', hr2'⟩ | ⟨_, hn2'⟩
        · obtain ⟨rfl, rfl⟩ := hr1.uniq hr2
          obtain ⟨rfl, rfl⟩ := hr1'.uniq hr2'
          obtain ⟨rfl, rfl⟩ := hr1.uniq (hM.range hth hr1')
          rcases Lacks_spec hR hmp hm with ⟨hK, _⟩ | ⟨_, _, hn, _⟩
          · rcases Lacks_spec hR2 hmp2 hm2 with ⟨hK', _⟩ | ⟨_, _, hn, _⟩
            · rw [hL, Option.bind_some, hL', Option.bind_some, hMo, Option.bind_some, hMo', Option.bind_some, hK, Option.bind_some, hK', Option.bind_some]
              dsimp only
              rw [if_pos rfl, if_pos rfl, if_pos rfl, if_pos rfl, if_neg (by simp), if_pos rfl, decide_eq_true rfl, Bool.not_true, Option.bind_some, if_neg (by simp), hfin]
            · exact absurd hya' (hn _)
          · exact absurd hya (hn _)
        · exact absurd hfo (hn2' _)
      · exact absurd hya (hn2 _)
    · exact absurd hfo (hn' _)
  · have hno := hM.noFit hn
    rcases Least_spec hR2 with ⟨lo', hi', ya', hL', hya', hca', hr1'⟩ | ⟨hL', _⟩
    · exact absurd hya' (hno _)
    · rcases Most_spec hR with ⟨lo2, hi2, yb, hMo, hyb, hcb2, hr2⟩ | ⟨hMo, _⟩
      · exact absurd hyb (hn _)
      · rcases Most_spec hR2 with ⟨lo2', hi2', yb', hMo', hyb', hcb2', hr2'⟩ | ⟨hMo', _⟩
        · exact absurd hyb' (hno _)
        · rcases Lacks_spec hR hmp hm with ⟨_, y, hy⟩ | ⟨l1, hK, _, _⟩
          · exact absurd hy (hn _)
          · rcases Lacks_spec hR2 hmp2 hm2 with ⟨_, y, hy⟩ | ⟨l2, hK', _, _⟩
            · exact absurd hy (hno _)
            · rw [hL, Option.bind_some, hL', Option.bind_some, hMo, Option.bind_some, hMo', Option.bind_some, hK, Option.bind_some, hK', Option.bind_some]
              dsimp only
              rw [if_pos rfl, if_pos rfl, if_pos rfl, if_pos rfl, if_neg (by simp), if_pos rfl, decide_eq_true rfl, Bool.not_true, Option.bind_some, if_neg (by simp), hfin]
theorem StripMirrored_true {l c : List Int} (hl : l.length ≤ 9223372036854775807) (hc : c.length ≤ 9223372036854775807) {w : Int} (hw : 0 ≤ w ∧ w ≤ 255) : ye l c w = some true := by
  unfold ye KT
  rw [Option.bind_some]
  obtain ⟨x, y0, hx, hk0, hR0, _, _, _, _, _⟩ := Made_spec hl (p := 0) (r := 0) (S0 := 5) (T0 := 4) ⟨Int.le_refl _, .inr rfl⟩ (by omega) (by omega)
  dsimp only
  rw [hx, Option.bind_some, remc_eq (by omega), Option.bind_some]
  have hwr : IntKind.i64.wrap w = w := wrap_i64 (by omega)
  have h1c := hR0.c1; have h5c := hR0.net.c5
  have hz : ∃ z : jT, (if w.tmod 3 = 0 then (remc (IntKind.i64.wrap w) (x.r0.carried.length : Int)).bind fun t54 => (quoc (IntKind.i64.wrap w) 3).bind fun t58 => (remc t58 9).bind fun t59 => (kw l x.b0_1 x.b0_2 t59 1).bind fun t60 => (ix x.r0.carried t54).bind fun t61 => (some (x.r0.carried.set (Int.toNat t54) t60.r0)).bind fun r0_carried => (some ⟨t60.b0_1, t60.b0_2, r0_carried⟩ : Option jT) else some ⟨x.b0_1, x.b0_2, x.r0.carried⟩) = some z ∧ Right ⟨x.r0.strips, z.r0_carried⟩ := by
    split
    · have a1 := Int.tmod_nonneg (x.r0.carried.length : Int) hw.1
      have a2 := Int.tmod_lt_of_pos w (show 0 < (x.r0.carried.length : Int) by omega)
      have a3 : 0 ≤ w.tdiv 3 := Int.tdiv_nonneg hw.1 (by omega)
      have a4 : w.tdiv 3 ≤ w := Int.tdiv_le_self _ hw.1
      have a5 := Int.tmod_nonneg 9 a3
      have a6 := Int.tmod_lt_of_pos (w.tdiv 3) (show (0 : Int) < 9 by omega)
      obtain ⟨x4, e4, b4, k4⟩ := around_ok (r := x.b0_2) (n := (w.tdiv 3).tmod 9) (wd := 1) hl hk0 (by omega) (by omega)
      rw [hwr, remc_eq (by omega), Option.bind_some, quoc_eq (by omega) (by omega), Option.bind_some, remc_eq (by omega), Option.bind_some, e4, Option.bind_some, ix_eq default a1 a2, Option.bind_some, Option.bind_some]
      exact ⟨_, rfl, right_set hR0 (by unfold In30; omega) (by omega)⟩
    · exact ⟨_, rfl, hR0⟩
  obtain ⟨z, hz, hR⟩ := hz
  rw [hz, Option.bind_some, Option.bind_some]
  have h5 : z.r0_carried.length ≤ 5 := hR.net.c5
  have h6 : x.r0.strips.length ≤ 6 := hR.net.s6
  obtain ⟨od, hod, hok, hO⟩ := order_ok hc (p := 0) (r := 0) (n := z.r0_carried.length) ⟨Int.le_refl _, .inr rfl⟩ (by omega)
  dsimp only
  rw [hod, Option.bind_some, own_eq (by simp only; omega) (by simp only; omega), Option.bind_some]
  dsimp only
  have k0 := mirrored_L0 (st := x.r0.strips.reverse) (by rw [List.length_reverse]; omega) hO (fun y hy => hR.ten y (List.mem_reverse.1 hy)) od.h0_1 od.h0_2
  obtain ⟨cb, hcb, hcl, hcv⟩ := mirrored_L1 (by omega) hO z.t5_1 z.t5_2 od.h0_1 od.h0_2
  rw [reverse_eq (by omega), Option.bind_some]
  rw [show iterM FU (jX x.r0.strips.reverse od) ⟨0, x.r0.strips.reverse⟩ = _ from k0, Option.bind_some]
  rw [show iterM FU (kg z od) ⟨0, z.r0_carried⟩ = _ from hcb, Option.bind_some]
  obtain ⟨hR2, ρ, hM⟩ := mirrored_right (s := ⟨x.r0.strips, z.r0_carried⟩) hR hO hcl hcv
  exact mirrored_end (s := ⟨x.r0.strips, z.r0_carried⟩) rfl rfl rfl hR hO hR2 hM
end Go.Proofs.Ws

namespace Go.Gx
open Go Go.Fw Go.RowKit
section
variable {H : Type} {enc : TypeId × Value → H} {P : Program} {w : World} {base : Nat} {sp : Nat → Bool} {held : Bool}
def Opens (enc : TypeId × Value → H) (P : Program) (w : World) (base : Nat) (sp : Nat → Bool) (held : Bool) {α : Type} (R : Row α) (wf : α → Prop) (t : TypeId) : Prop :=
  ∀ fuel cs x, DataW.trod enc P w base sp held fuel t cs = some x → ∃ a, cs = R.cells a ∧ wf a
def u8P (n : Int) : Prop := 0 ≤ n ∧ n ≤ 255
theorem wf_u8P {n : Int} (h : (Lit.int .u8 n).wf = true) : u8P n := by
  simp [Lit.wf, IntKind.min, IntKind.max, IntKind.signed, IntKind.bits] at h
  unfold u8P; omega
theorem opens_u8 {t : TypeId} (ht : P.underlying t = some (.int .u8)) : Opens enc P w base sp held RU8 u8P t := fun fuel cs x h => by
  obtain ⟨n, rfl, _, hw⟩ := DataW.trod_int ht h
  exact ⟨n, rfl, wf_u8P hw⟩
theorem fieldAt {fs : Array Field} {t : TypeId} {fuel : Nat} {cs : List Value} {x : DataW H × List MemPlace} (ht : P.underlying t = some (.struct fs)) (h : DataW.trod enc P w base sp held fuel t cs = some x) {α : Type} {R : Row α} {wf : α → Prop} (i : Nat) {T o k : Nat}
    (hf : (fs[i]?).map (fun fd => (fd.type, fd.offset)) = some (T, o)) (hk : P.cellsOf T = k) (hR : Opens enc P w base sp held R wf T) : ∃ a, (cs.drop o).take k = R.cells a ∧ wf a := by
  obtain ⟨xs, n, rfl, _, hlen, hxl, hx⟩ := DataW.trod_struct ht h
  obtain ⟨fd, hfd, he⟩ : ∃ fd, fs[i]? = some fd ∧ (fd.type, fd.offset) = (T, o) := by
    cases hh : fs[i]? with
    | none => simp [hh] at hf
    | some fd => exact ⟨fd, rfl, by simpa [hh] using hf⟩
  simp only [Prod.mk.injEq] at he
  obtain ⟨rfl, rfl⟩ := he
  have h1 := hx i fd hfd
  rw [hk] at h1
  have hi : i < xs.length := by rw [hxl]; exact (Array.getElem?_eq_some_iff.1 hfd).1
  rw [List.getElem?_eq_getElem hi] at h1
  exact hR _ _ _ h1
structure SlIn {α : Type} (R : Row α) (wf : α → Prop) (w : World) (v : Value) (A : Option Addr) (n c : Nat) (l : List α) : Prop where
  val : v = .slice A n c
  len : l.length = n
  ok : AOK n A
  le : n ≤ c
  max : c ≤ maxLen
  seg : segOK w (aB A, aO A, R.enc l)
  wf : ∀ x, x ∈ l → wf x
theorem choose_list {α : Type} {p : Nat → α → Prop} : ∀ (n : Nat), (∀ i, i < n → ∃ a, p i a) → ∃ l : List α, l.length = n ∧ ∀ i (h : i < l.length), p i l[i]
  | 0, _ => ⟨[], rfl, fun i h => by simp at h⟩
  | n + 1, h => by
    obtain ⟨l, hl, hp⟩ := choose_list n (fun i hi => h i (by omega))
    obtain ⟨a, ha⟩ := h n (by omega)
    refine ⟨l ++ [a], by simp [hl], fun i hi => ?_⟩
    by_cases hil : i < l.length
    · rw [List.getElem_append_left hil]; exact hp i hil
    · have : i = l.length := by simp at hi; omega
      subst this
      rw [List.getElem_append_right (by omega)]
      simp only [Nat.sub_self, List.getElem_cons_zero]
      rw [hl]; exact ha
theorem openSl {α : Type} {R : Row α} {wf : α → Prop} {t e : TypeId} (ht : P.underlying t = some (.slice e)) (hc : P.cellsOf e = R.sz) (hR : Opens enc P w base sp held R wf e) (h0 : Nat.blt 0 R.sz = true)
    {fuel : Nat} {cs : List Value} {x : DataW H × List MemPlace} (h : DataW.trod enc P w base sp held fuel t cs = some x) : ∃ (v : Value) (A : Option Addr) (n c : Nat) (l : List α), cs = [v] ∧ SlIn R wf w v A n c l := by
  have hsz : 0 < R.sz := by simpa using h0
  rcases Go.Deep.open_slice ht h with ⟨rfl, _⟩ | ⟨a, len, cap, m, n, D, Pl, rfl, hb, hl, hm, hmm, _, hi⟩
  · exact ⟨_, none, 0, 0, [], rfl, rfl, rfl, AOK.nil, Nat.le_refl _, Nat.zero_le _, segOK.nil, by simp⟩
  · have hlm : len ≤ m := by rw [hmm]; split <;> omega
    have hcell : ∀ i, i < len → ∃ x : α, (∀ f (hf : f < (R.cells x).length), w.cell? (a.add (i * R.sz + f)) = some (R.cells x)[f]) ∧ wf x := fun i hil => by
      obtain ⟨cs', h1, h2⟩ := hi i (by omega)
      obtain ⟨x, rfl, hw⟩ := hR _ _ _ h2
      obtain ⟨_, _, hat⟩ := World.cells?_some h1
      refine ⟨x, fun f hf => ?_, hw⟩
      have := hat f (by rw [hc, ← R.len x]; exact hf)
      rw [hc] at this
      rw [List.getElem?_eq_getElem hf] at this
      have e : (a.add (i * R.sz)).add f = a.add (i * R.sz + f) := by
        unfold Addr.add
        by_cases h1 : i * R.sz = 0
        · simp [h1]
        · by_cases h2 : f = 0
          · simp [h2]
          · simp [h1, h2, Nat.add_assoc]
      rw [e] at this
      exact this
    obtain ⟨l, hll, hlp⟩ := choose_list len hcell
    have hspot : 0 < len → a.spot = none := fun h0 => by
      obtain ⟨x, hx, _⟩ := hcell 0 h0
      have := World.cell?_spot (hx 0 (by rw [R.len]; exact hsz))
      simpa [Addr.add] using this
    refine ⟨_, some a, len, cap, l, rfl, rfl, hll, fun h0 => ?_, hl, hm, fun j hj => ?_, fun x hx => ?_⟩
    · obtain ⟨b, o, s⟩ := a
      have := hspot h0
      simp only at this
      subst this
      exact ⟨b, o, rfl⟩
    · have hj' : j < l.length * R.sz := by rw [← R.enc_len]; exact hj
      have hpos : 0 < len := by
        rcases Nat.eq_zero_or_pos len with h | h
        · rw [hll, h, Nat.zero_mul] at hj'; omega
        · exact h
      obtain ⟨b, o, s⟩ := a
      have hs := hspot hpos
      simp only at hs
      subst hs
      have hq : j / R.sz < l.length := Nat.div_lt_of_lt_mul (by rw [Nat.mul_comm]; exact hj')
      have hr : j % R.sz < R.sz := Nat.mod_lt _ hsz
      have hd : j / R.sz * R.sz + j % R.sz = j := by rw [Nat.mul_comm]; exact Nat.div_add_mod j R.sz
      have h1 := (hlp (j / R.sz) hq).1 (j % R.sz) (by rw [R.len]; exact hr)
      rw [hd] at h1
      have h2 := R.enc_get l (j / R.sz) (j % R.sz) l[j / R.sz] (List.getElem?_eq_getElem hq) hr
      rw [hd] at h2
      have h3 : (⟨b, o, none⟩ : Addr).add j = ⟨b, o + j, none⟩ := addr_add b o j
      rw [h3] at h1
      simp only [aB, aO, Option.map_some, Option.getD_some]
      rw [h1, ← List.getElem?_eq_getElem, ← h2, List.getElem?_eq_getElem hj]
    · obtain ⟨i, hi', rfl⟩ := List.getElem_of_mem hx
      exact (hlp i hi').2
theorem HV.begin {ro : List Sg} (h : ∀ s, s ∈ ro → segOK w s) : HV w (keys [] []) [] [] ro w :=
  ⟨rfl, rfl, rfl, Nat.le_refl _, fun _ _ _ => rfl, by simp [vbl], by simp [vbl], by simp [vbl], h, by simp [vbl]⟩
theorem segCons {s : Sg} {ro : List Sg} (h : segOK w s) (hr : ∀ t, t ∈ ro → segOK w t) : ∀ t, t ∈ s :: ro → segOK w t := fun t ht => by
  rcases List.mem_cons.1 ht with rfl | ht
  · exact h
  · exact hr t ht
theorem segNil : ∀ t, t ∈ ([] : List Sg) → segOK w t := fun t ht => by cases ht
theorem HV.below {w' : World} (h : HV w (keys [] []) [] [] [] w') : Below w.heap.size w w' := by
  have : Ext [] w w' := HS.toExt h
  exact this.below
end
end Go.Gx

