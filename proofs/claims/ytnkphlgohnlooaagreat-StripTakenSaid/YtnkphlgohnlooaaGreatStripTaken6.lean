/- What the functions that the law StripTaken reaches come to, and why it holds: part 6. -/
import Derived.Test.YtnkphlgohnlooaaGreatStripTaken5
namespace Go.Proofs.Ws
open Go Go.Fw Go.Gx Go.Sp
def lackP (st : List Strip) (ca : List Span) (w : Wy) (met : List Bool) : Lack :=
  if w.dst = 0 then ⟨true, filtL (fun t => !gI false met (7 + (t : Int))) ca.length⟩ else ⟨false, filtL (fun k => gI false met (1 + (k : Int))) st.length⟩
theorem filtL_step {p : Nat → Bool} {k : Nat} : filtL p (k + 1) = filtL p k ++ (if p k = true then [(k : Int)] else []) := by
  rw [filtL_succ]; split <;> simp
theorem jao {st : List Strip} {ca : List Span} (h6 : st.length ≤ 6) (h5 : ca.length ≤ 5) (w : Wy) {met : List Bool} (hm : met.length = 12) : K3 st ca w met = some (lackP st ca w met) := by
  unfold K3 lackP
  by_cases hw : w.dst = 0
  · simp only [hw, if_true]
    have key := iterM_run (f := zW ca met) (fun j => ⟨(j : Int), filtL (fun t => !gI false met (7 + (t : Int))) j⟩) ca.length (b := filtL (fun t => !gI false met (7 + (t : Int))) ca.length) (fun j hj => ?_) ?_ FU (FU_lt (by omega))
    · have e : (⟨0, []⟩ : zY) = ⟨((0 : Nat) : Int), filtL (fun t => !gI false met (7 + (t : Int))) 0⟩ := rfl
      rw [e, key]
      rfl
    · unfold zW
      have hlt : (j : Int) < (ca.length : Int) := by omega
      simp only [hlt, if_true]
      have hfl := filtL_len (p := fun t : Nat => !gI false met (7 + (t : Int))) (k := j)
      rw [addc_eq (by omega), Option.bind_some, ix_gI false (by omega) (by rw [hm]; omega), Option.bind_some, filtL_step]
      by_cases hb : (!gI false met (7 + (j : Int))) = true
      · simp only [hb, if_true]
        rw [appc_eq (by simp only [List.length_cons, List.length_nil]; omega), Option.bind_some, Option.bind_some, addc_eq (by omega), Option.bind_some]
        rfl
      · simp only [hb, Bool.false_eq_true, if_false]
        rw [Option.bind_some, addc_eq (by omega), Option.bind_some, List.append_nil]
        rfl
    · unfold zW
      simp
  · simp only [hw, if_false]
    have key := iterM_run (f := zZ st met) (fun j => ⟨(j : Int), filtL (fun k => gI false met (1 + (k : Int))) j⟩) st.length (b := filtL (fun k => gI false met (1 + (k : Int))) st.length) (fun j hj => ?_) ?_ FU (FU_lt (by omega))
    · have e : (⟨0, []⟩ : z7) = ⟨((0 : Nat) : Int), filtL (fun k => gI false met (1 + (k : Int))) 0⟩ := rfl
      rw [e, key]
      rfl
    · unfold zZ
      have hlt : (j : Int) < (st.length : Int) := by omega
      simp only [hlt, if_true]
      have hfl := filtL_len (p := fun k : Nat => gI false met (1 + (k : Int))) (k := j)
      rw [addc_eq (by omega), Option.bind_some, ix_gI false (by omega) (by rw [hm]; omega), Option.bind_some, filtL_step]
      by_cases hb : gI false met (1 + (j : Int)) = true
      · simp only [hb, if_true]
        rw [appc_eq (by simp only [List.length_cons, List.length_nil]; omega), Option.bind_some, Option.bind_some, addc_eq (by omega), Option.bind_some]
        rfl
      · simp only [hb, Bool.false_eq_true, if_false]
        rw [Option.bind_some, addc_eq (by omega), Option.bind_some, List.append_nil]
        rfl
    · unfold zZ
      simp
structure Good (l0 l : List Wy) : Prop where
  same : Same l0 l
  ok : NetOK l
  rnd : Round l
structure Lk (l0 : List Wy) (w : Wy) (met : List Bool) : Prop where
  len : met.length = 12
  ex : ∃ l, Good l0 l ∧ w ∈ l ∧ w.goes < w.lo ∧ gI false met w.dst = true ∧ gI false met w.fr = false ∧ (∀ c, c ∈ res l → gI false met (eA l c) = true → gI false met (eB l c) = true)
theorem chainL_len {pre : Int → Change} {p : Int → Int} {y : Int} {k : Nat} : (chainL pre p y k).length = k := by simp [chainL]
theorem good_make {l0 l : List Wy} (h : Good l0 l) {L : List Change} {m : Int} (h0 : 0 ≤ m) (hm : MakeOK l L m) (hz : ∀ φ : Int → Int, sumI (fun c => φ (eB l c) - φ (eA l c)) L = 0) : Good l0 (makeL l L m) :=
  ⟨h.same.trans (makeL_same L hm), makeL_ok L h.ok h0 hm, fun φ => by rw [makeL_bal φ L hm, h.rnd φ, hz φ, Int.mul_zero]; rfl⟩
def OkTo (l : List Wy) (i : Nat) : Prop := ∀ j w, j < i → l[j]? = some w → w.lo ≤ w.goes
theorem okTo_make {l : List Wy} {i : Nat} (h : OkTo l i) {L : List Change} {m : Int} (h0 : 0 ≤ m) (hm : MakeOK l L m) : OkTo (makeL l L m) i := fun j v hj hv => by
  have hlt : j < l.length := by rw [← makeL_len L l m]; exact (List.getElem?_eq_some_iff.1 hv).1
  exact makeL_least L h0 hm j l[j] v (List.getElem?_eq_getElem hlt) hv (h j _ hj (List.getElem?_eq_getElem hlt))
theorem wy_makeL {l : List Wy} {L : List Change} {m : Int} (h : MakeOK l L m) {c : Change} (hc : c ∈ L) : wy (makeL l L m) c = adjW (wy l c) c.more m := by
  have := makeL_at L h c hc
  show (makeL l L m).getD c.way.toNat default = _
  rw [List.getD_eq_getElem?_getD, this]
  rfl
theorem Z4 {st : List Strip} {ca : List Span} (h6 : st.length ≤ 6) (h5 : ca.length ≤ 5) {l0 l : List Wy} (hg : Good l0 l) {i : Nat} (hi : i < l.length) (hok : OkTo l i) (s : kV) (hs : s.t20 = (i : Int)) :
    ∃ b, iterM FU (qK s st ca) l = some b ∧ ((∃ l', b = .inl l' ∧ Good l0 l' ∧ OkTo l' (i + 1)) ∨ ∃ w met, b = .inr (.inl (lackP st ca w met)) ∧ Lk l0 w met) := by
  have hgi : ∀ l : List Wy, (wy l ⟨(i : Int), true⟩) = l.getD i default := fun l => by unfold wy; simp
  refine iterM_inv (f := qK s st ca) (fun l => Good l0 l ∧ i < l.length ∧ OkTo l i) (fun l => ((wy l ⟨(i : Int), true⟩).lo - (wy l ⟨(i : Int), true⟩).goes).toNat) _ (fun l hl => ?_) FU l (FU_lt ?_) ⟨hg, hi, hok⟩
  · obtain ⟨hg, hi, hok⟩ := hl
    have hw : isWay l ⟨(i : Int), true⟩ := way_nat hi true
    have hix : ix l (i : Int) = some (wy l ⟨(i : Int), true⟩) := ix_way hw
    have hk := hg.ok.2 _ (wy_mem hw)
    unfold qK
    rw [hs, hix, Option.bind_some, Option.bind_some]
    by_cases hlow : (wy l ⟨(i : Int), true⟩).goes < (wy l ⟨(i : Int), true⟩).lo
    · simp only [hlow, if_true]
      rw [Option.bind_some]
      obtain ⟨met, by_, hml, hmsrc, hmcl, hcase⟩ := ZE hg.ok (src := (wy l ⟨(i : Int), true⟩).dst) (to := (wy l ⟨(i : Int), true⟩).fr) hk.dst hk.fr
      rcases hcase with ⟨hno, hp⟩ | ⟨hyes, k, d, hp, hk1066, hsrc, hch, hd⟩
      · right
        rw [hp, Option.bind_some]
        simp only [List.isEmpty_nil, if_true]
        rw [jao h6 h5 _ hml, Option.bind_some]
        exact ⟨_, rfl, .inr ⟨_, met, rfl, ⟨hml, l, hg, wy_mem hw, hlow, hmsrc, hno, hmcl⟩⟩⟩
      · left
        rw [hp, Option.bind_some]
        have hk0 : k ≠ 0 := fun e => by
          subst e
          exact hk.ne hsrc
        have hne : (chainL (gI nil0 by_) (pOf l by_) (wy l ⟨(i : Int), true⟩).fr k).isEmpty = false := by
          cases hc : chainL (gI nil0 by_) (pOf l by_) (wy l ⟨(i : Int), true⟩).fr k with
          | nil => have := chainL_len (pre := gI nil0 by_) (p := pOf l by_) (y := (wy l ⟨(i : Int), true⟩).fr) (k := k); rw [hc] at this; simp at this; omega
          | cons _ _ => rfl
        simp only [hne, Bool.false_eq_true, if_false]
        obtain ⟨m1, m2, m3, m4⟩ := path_make hg.ok hi hlow (pre := gI nil0 by_) (k := k) (d := d) hsrc hch hd ((wy l ⟨(i : Int), true⟩).lo - (wy l ⟨(i : Int), true⟩).goes) (by omega)
        have b1 := hk.goes; have b2 := hk.hi; have b3 := hk.lo
        rw [subc_eq (by omega), Option.bind_some, appc_eq (by rw [chainL_len]; simp only [List.length_cons, List.length_nil]; omega), Option.bind_some]
        have em := Zk hg.ok (L := chainL (gI nil0 by_) (pOf l by_) (wy l ⟨(i : Int), true⟩).fr k ++ [⟨(i : Int), true⟩]) (by rw [List.length_append, chainL_len]; simp only [List.length_cons, List.length_nil]; omega) (most := (wy l ⟨(i : Int), true⟩).lo - (wy l ⟨(i : Int), true⟩).goes) (Int.le_of_lt m1) m3
        rw [em, Option.bind_some]
        refine ⟨_, rfl, ⟨good_make hg (Int.le_of_lt m1) m3 m4, by rw [makeL_len]; exact hi, okTo_make hok (Int.le_of_lt m1) m3⟩, ?_⟩
        have e2 := wy_makeL m3 (c := ⟨(i : Int), true⟩) (by simp)
        change wy (makeL l (chainL (gI nil0 by_) (pOf l by_) (wy l ⟨(i : Int), true⟩).fr k ++ [⟨(i : Int), true⟩]) (mostL l (chainL (gI nil0 by_) (pOf l by_) (wy l ⟨(i : Int), true⟩).fr k ++ [⟨(i : Int), true⟩]) ((wy l ⟨(i : Int), true⟩).lo - (wy l ⟨(i : Int), true⟩).goes))) ⟨(i : Int), true⟩ = adjW (wy l ⟨(i : Int), true⟩) true (mostL l (chainL (gI nil0 by_) (pOf l by_) (wy l ⟨(i : Int), true⟩).fr k ++ [⟨(i : Int), true⟩]) ((wy l ⟨(i : Int), true⟩).lo - (wy l ⟨(i : Int), true⟩).goes)) at e2
        rw [e2]
        have m1' : 0 < mostL l (chainL (gI nil0 by_) (pOf l by_) (wy l ⟨(i : Int), true⟩).fr k ++ [⟨(i : Int), true⟩]) ((wy l ⟨(i : Int), true⟩).lo - (wy l ⟨(i : Int), true⟩).goes) := m1
        simp only [adjW, if_true]
        omega
    · right
      simp only [hlow, if_false]
      refine ⟨_, rfl, .inl ⟨l, rfl, hg, fun j w hj hjw => ?_⟩⟩
      by_cases hji : j = i
      · subst hji
        have : wy l ⟨(j : Int), true⟩ = w := by rw [hgi, List.getD_eq_getElem?_getD, hjw]; rfl
        rw [← this]; omega
      · exact hok j w (by omega) hjw
  · have hk := hg.ok.2 _ (wy_mem (way_nat hi true))
    have := hk.hi; have := hk.goes
    omega
theorem Za {l0 l : List Wy} (hg : Good l0 l) (hok : OkTo l l.length) : ∃ l', iterM FU qI l = some l' ∧ Good l0 l' ∧ OkTo l' l'.length ∧ ∃ π : Int → Int, PotB π l' := by
  have hbound : ∀ l : List Wy, NetOK l → -41000000 ≤ costs l ∧ costs l ≤ 41000000 := fun l hl => by
    have key : ∀ m : List Wy, (∀ w, w ∈ m → WyOK w) → -(1000000 * (m.length : Int)) ≤ costs m ∧ costs m ≤ 1000000 * (m.length : Int) := by
      intro m
      induction m with
      | nil => intro _; simp [costs, sumI]
      | cons w m ih =>
        intro h
        obtain ⟨i1, i2⟩ := ih (fun x hx => h x (by simp [hx]))
        have hk := h w (by simp)
        have c1 := hk.cost; have c2 := hk.goes; have c3 := hk.hi
        unfold costs at *
        simp only [sumI, List.length_cons]
        have hp : -1000000 ≤ w.cost * w.goes ∧ w.cost * w.goes ≤ 1000000 := by
          have : w.cost = -1 ∨ w.cost = 0 ∨ w.cost = 1 := by omega
          rcases this with h | h | h <;> rw [h] <;> omega
        push_cast
        omega
    have := key l hl.2
    have := hl.1
    omega
  refine iterM_inv (f := qI) (fun l => Good l0 l ∧ OkTo l l.length) (fun l => (costs l + 41000000).toNat) _ (fun l hl => ?_) FU l (FU_lt (by have := hbound l hg.ok; omega)) ⟨hg, hok⟩
  obtain ⟨hg, hok⟩ := hl
  unfold qI
  rcases YG hg.ok with ⟨h1, π, h2⟩ | ⟨pre, y, k, h1, hk0, hk12, hch, hper, hmin, hneg⟩
  · right
    rw [h1, Option.bind_some]
    exact ⟨l, rfl, hg, hok, π, h2⟩
  · left
    rw [h1, Option.bind_some]
    have hne : (chainL pre (fun x => eA l (pre x)) y k).isEmpty = false := by
      cases hc : chainL pre (fun x => eA l (pre x)) y k with
      | nil => have := chainL_len (pre := pre) (p := fun x => eA l (pre x)) (y := y) (k := k); rw [hc] at this; simp at this; omega
      | cons _ _ => rfl
    simp only [hne, Bool.false_eq_true, if_false]
    obtain ⟨m1, m2, m3, m4, m5⟩ := loop_make hk0 hch hper hmin hneg 1000000 (by omega)
    have em := Zk hg.ok (L := chainL pre (fun x => eA l (pre x)) y k) (by rw [chainL_len]; omega) (most := 1000000) (Int.le_of_lt m1) m3
    rw [em, Option.bind_some]
    have hg' := good_make hg (Int.le_of_lt m1) m3 m4
    refine ⟨_, rfl, ⟨hg', by rw [makeL_len]; exact okTo_make hok (Int.le_of_lt m1) m3⟩, ?_⟩
    have hc := makeL_costs _ m3
    have b1 := hbound l hg.ok; have b2 := hbound _ hg'.ok
    have hprod : mostL l (chainL pre (fun x => eA l (pre x)) y k) 1000000 * sumI (fun c => eC l c) (chainL pre (fun x => eA l (pre x)) y k) < 0 := Int.mul_neg_of_pos_of_neg m1 m5
    rw [hc] at b2 ⊢
    omega
theorem okTo_within {l : List Wy} (hl : NetOK l) (h : OkTo l l.length) : Within l := fun w hw => by
  obtain ⟨i, hi, rfl⟩ := List.getElem_of_mem hw
  exact ⟨h i _ hi (List.getElem?_eq_getElem hi), (hl.2 _ hw).goes.2⟩
theorem YX {st : List Strip} {ca : List Span} (hS : NetS st ca) {mp : List (Pair × Bool)} {cf : Pair → Option Int} (hc : CfOK st ca cf) :
    (∃ l, j4 st ca mp cf = some (.inr ⟨⟨false, []⟩, l⟩) ∧ Good (laidS st ca mp cf) l ∧ Within l ∧ ∃ π : Int → Int, PotB π l) ∨
    (∃ w met, j4 st ca mp cf = some (.inl (lackP st ca w met)) ∧ Lk (laidS st ca mp cf) w met) := by
  unfold j4
  rw [jai hS hc, Option.bind_some]
  have hl0 := laid_ok hS (mp := mp) hc
  have hg0 : Good (laidS st ca mp cf) (laidS st ca mp cf) := ⟨Same.refl _, hl0, laid_zero⟩
  generalize laidS st ca mp cf = l0 at hl0 hg0
  have hlen0 := hl0.1
  have hloop : ∃ b, iterM FU (qF l0 st ca) ⟨0, l0⟩ = some b ∧ ((∃ l', b = .inl l' ∧ Good l0 l' ∧ OkTo l' l'.length) ∨ ∃ w met, b = .inr (.inl (lackP st ca w met)) ∧ Lk l0 w met) := by
    refine iterM_inv (f := qF l0 st ca) (fun s => ∃ i : Nat, s.t20 = (i : Int) ∧ i ≤ l0.length ∧ Good l0 s.t12 ∧ OkTo s.t12 i) (fun s => l0.length - s.t20.toNat) _ (fun s hs => ?_) FU _ (FU_lt (by omega)) ⟨0, rfl, Nat.zero_le _, hg0, fun j w hj _ => by omega⟩
    obtain ⟨i, hi, hile, hg, hok⟩ := hs
    have hlen := hg.same.len
    unfold qF
    by_cases hlt : s.t20 < (l0.length : Int)
    · simp only [hlt, if_true]
      obtain ⟨b, hb, hcase⟩ := Z4 hS.s6 hS.c5 hg (i := i) (by omega) hok s hi
      rw [hb, Option.bind_some]
      rcases hcase with ⟨l', rfl, hg', hok'⟩ | ⟨w, met, rfl, hlk⟩
      · left
        simp only [oc_inl]
        rw [addc_eq (by omega), Option.bind_some]
        exact ⟨_, rfl, ⟨i + 1, by simp only; omega, by omega, hg', hok'⟩, by simp only; omega⟩
      · right
        exact ⟨_, rfl, .inr ⟨w, met, rfl, hlk⟩⟩
    · right
      simp only [hlt, if_false]
      refine ⟨_, rfl, .inl ⟨s.t12, rfl, hg, ?_⟩⟩
      have : i = s.t12.length := by omega
      rw [← this]; exact hok
  obtain ⟨b, hb, hcase⟩ := hloop
  rw [hb, Option.bind_some]
  rcases hcase with ⟨l, rfl, hg, hok⟩ | ⟨w, met, rfl, hlk⟩
  · left
    simp only [oc_inl]
    obtain ⟨l', h1, h2, h3, h4⟩ := Za hg hok
    rw [h1, Option.bind_some]
    exact ⟨l', rfl, h2, okTo_within h2.ok h3, h4⟩
  · right
    exact ⟨w, met, rfl, hlk⟩
end Go.Proofs.Ws

namespace Go.Proofs.Ws
open Go Go.Fw Go.Gx Go.Sp
theorem sumTo_add (f g : Nat → Int) : ∀ k, sumTo (fun j => f j + g j) k = sumTo f k + sumTo g k
  | 0 => rfl
  | k + 1 => by simp only [sumTo]; rw [sumTo_add f g k]; omega
theorem sumTo_mul (c : Int) (f : Nat → Int) : ∀ k, sumTo (fun j => c * f j) k = c * sumTo f k
  | 0 => by simp [sumTo]
  | k + 1 => by simp only [sumTo]; rw [sumTo_mul c f k, Int.mul_add]
theorem sumTo_zero : ∀ k, sumTo (fun _ => 0) k = 0
  | 0 => rfl
  | k + 1 => by simp only [sumTo]; rw [sumTo_zero k]; rfl
theorem sumTo_comm (f : Nat → Nat → Int) : ∀ (m n : Nat), sumTo (fun i => sumTo (f i) n) m = sumTo (fun j => sumTo (fun i => f i j) m) n
  | 0, n => by simp only [sumTo]; rw [sumTo_zero]
  | m + 1, n => by simp only [sumTo]; rw [sumTo_comm f m n, sumTo_add]
theorem sumTo_one {f : Nat → Int} {k0 : Nat} : ∀ {n : Nat}, k0 < n → sumTo (fun k => if k = k0 then f k else 0) n = f k0
  | 0, h => by omega
  | n + 1, h => by
    simp only [sumTo]
    by_cases hk : k0 = n
    · subst hk
      rw [sumTo_congr (g := fun _ => 0) (fun j hj => by rw [if_neg (by omega)]), sumTo_zero]
      simp
    · rw [sumTo_one (n := n) (by omega), if_neg (by omega)]; omega
theorem sumTo_nonneg {f : Nat → Int} {n : Nat} (h : ∀ j, j < n → 0 ≤ f j) : 0 ≤ sumTo f n := by
  have := sumTo_le (f := fun _ => 0) (g := f) (k := n) h
  rwa [sumTo_zero] at this
theorem sumTo_mem_le {f : Nat → Int} : ∀ {n j : Nat}, (∀ j, j < n → 0 ≤ f j) → j < n → f j ≤ sumTo f n
  | 0, j, _, hj => by omega
  | n + 1, j, h, hj => by
    simp only [sumTo]
    by_cases hjn : j = n
    · subst hjn
      have := sumTo_nonneg (f := f) (n := j) (fun i hi => h i (by omega)); omega
    · have := sumTo_mem_le (f := f) (n := n) (j := j) (fun i hi => h i (by omega)) (by omega)
      have := h n (by omega); omega
theorem sumI_filter (p : Nat → Bool) (F : Nat → Int) : ∀ n, sumI F ((List.range n).filter p) = sumTo (fun k => if p k = true then F k else 0) n
  | 0 => rfl
  | n + 1 => by
    rw [List.range_succ, List.filter_append, sumI_append, sumI_filter p F n]
    simp only [sumTo, List.filter_cons, List.filter_nil]
    split <;> simp [sumI]
def laidG (S : Nat) (g h : Nat → Span) (R : Nat → Nat → Bool) (c : Nat → Nat → Int) (gs : Nat → Int) (ys : Nat → Nat → Int) (zs : Nat → Int) (T : Nat) : List Wy :=
  (List.range S).map (fun k => { stripW g k with goes := gs k }) ++ (List.range T).flatMap fun t => ((List.range S).filter (R t)).map (fun k => { innerW c t k with goes := ys t k }) ++ [{ tenW h t with goes := zs t }]
theorem same_split {a b l : List Wy} (h : Same (a ++ b) l) : ∃ la lb, l = la ++ lb ∧ Same a la ∧ Same b lb := by
  unfold Same at h
  rw [List.map_append] at h
  obtain ⟨la, lb, h1, h2, h3⟩ := List.map_eq_append_iff.1 h.symm
  exact ⟨la, lb, h1, h2.symm, h3.symm⟩
theorem same_map {f : Nat → Wy} : ∀ {L : List Nat}, L.Nodup → ∀ {l : List Wy}, Same (L.map f) l → ∃ gs : Nat → Int, l = L.map fun k => { f k with goes := gs k }
  | [], _, l, h => ⟨fun _ => 0, List.length_eq_zero_iff.1 (by have := h.len; simpa using this.symm)⟩
  | k :: L, hn, [], h => by have := h.len; simp at this
  | k :: L, hn, w :: l, h => by
    obtain ⟨h1, h2⟩ := h.cons
    obtain ⟨n1, n2⟩ := List.nodup_cons.1 hn
    obtain ⟨gs, hgs⟩ := same_map n2 h2
    refine ⟨fun x => if x = k then w.goes else gs x, ?_⟩
    simp only [List.map_cons, if_true]
    congr 1
    · obtain ⟨e1, e2, e3, e4, e5⟩ := base_eq h1
      cases w; simp_all
    · rw [hgs]
      refine List.map_congr_left fun x hx => ?_
      rw [if_neg (show ¬ x = k from fun e => n1 (by rw [← e]; exact hx))]
theorem range_nodup (n : Nat) : (List.range n).Nodup := List.nodup_range
theorem same_laid {S T : Nat} {g h : Nat → Span} {R : Nat → Nat → Bool} {c : Nat → Nat → Int} {l : List Wy} (hs : Same (laidTo S g h R c T) l) : ∃ gs ys zs, l = laidG S g h R c gs ys zs T := by
  obtain ⟨la, lb, rfl, h1, h2⟩ := same_split hs
  obtain ⟨gs, rfl⟩ := same_map (range_nodup S) h1
  have key : ∀ T, ∀ lb, Same ((List.range T).flatMap (tenL S h R c)) lb → ∃ (ys : Nat → Nat → Int) (zs : Nat → Int), lb = (List.range T).flatMap fun t => ((List.range S).filter (R t)).map (fun k => { innerW c t k with goes := ys t k }) ++ [{ tenW h t with goes := zs t }] := by
    intro T
    induction T with
    | zero => intro lb h; exact ⟨fun _ _ => 0, fun _ => 0, List.length_eq_zero_iff.1 (by have := h.len; simpa using this.symm)⟩
    | succ T ih =>
      intro lb hlb
      rw [List.range_succ, List.flatMap_append] at hlb
      obtain ⟨l1, l2, rfl, g1, g2⟩ := same_split hlb
      obtain ⟨ys, zs, rfl⟩ := ih l1 g1
      simp only [List.flatMap_cons, List.flatMap_nil, List.append_nil] at g2
      unfold tenL at g2
      obtain ⟨l3, l4, rfl, g3, g4⟩ := same_split g2
      obtain ⟨y, rfl⟩ := same_map ((range_nodup S).filter _) g3
      have e4 : [tenW h T] = ([T] : List Nat).map (tenW h) := rfl
      rw [e4] at g4
      obtain ⟨z, rfl⟩ := same_map (show ([T] : List Nat).Nodup by simp) g4
      refine ⟨fun t => if t = T then y else ys t, fun t => if t = T then z T else zs t, ?_⟩
      rw [List.range_succ, List.flatMap_append]
      congr 1
      · rw [List.flatMap_def, List.flatMap_def]
        congr 1
        refine List.map_congr_left fun t ht => ?_
        have : t ≠ T := by have := List.mem_range.1 ht; omega
        simp only [this, if_false]
      · simp
  obtain ⟨ys, zs, rfl⟩ := key T lb h2
  exact ⟨gs, ys, zs, rfl⟩
theorem laidG_same {S T : Nat} {g h : Nat → Span} {R : Nat → Nat → Bool} {c : Nat → Nat → Int} {gs : Nat → Int} {ys : Nat → Nat → Int} {zs : Nat → Int} : Same (laidTo S g h R c T) (laidG S g h R c gs ys zs T) := by
  unfold Same laidTo laidG tenL
  rw [List.map_append, List.map_append, List.map_flatMap, List.map_flatMap]
  congr 1
  · rw [List.map_map, List.map_map]; rfl
  · rw [List.flatMap_def, List.flatMap_def]
    congr 1
    refine List.map_congr_left fun t _ => ?_
    rw [List.map_append, List.map_append, List.map_map, List.map_map]
    rfl
theorem sumI_flat {α : Type} (F : α → Int) (f : Nat → List α) : ∀ n, sumI F ((List.range n).flatMap f) = sumTo (fun t => sumI F (f t)) n
  | 0 => rfl
  | n + 1 => by
    rw [List.range_succ, List.flatMap_append, sumI_append, sumI_flat F f n]
    simp [sumTo, sumI]
def Yr (R : Nat → Nat → Bool) (ys : Nat → Nat → Int) (t k : Nat) : Int := if R t k = true then ys t k else 0
theorem bal_laidG {S T : Nat} {g h : Nat → Span} {R : Nat → Nat → Bool} {c : Nat → Nat → Int} {gs : Nat → Int} {ys : Nat → Nat → Int} {zs : Nat → Int} (φ : Int → Int) :
    bal φ (laidG S g h R c gs ys zs T) = sumTo (fun k => (φ (1 + (k : Int)) - φ 0) * gs k) S + sumTo (fun t => sumTo (fun k => (φ (7 + (t : Int)) - φ (1 + (k : Int))) * Yr R ys t k) S + (φ 0 - φ (7 + (t : Int))) * zs t) T := by
  unfold bal laidG
  rw [sumI_append, sumI_map, sumI_flat]
  congr 1
  · have := sumI_range (fun k : Nat => (φ (1 + (k : Int)) - φ 0) * gs k) (fun k => k) S
    simp only [List.map_id'] at this
    exact this
  · refine sumTo_congr fun t _ => ?_
    rw [sumI_append, sumI_map, sumI_filter]
    congr 1
    · refine sumTo_congr fun k _ => ?_
      unfold Yr
      split
      · rfl
      · rw [Int.mul_zero]
    · simp [sumI, tenW]
theorem costs_laidG {S T : Nat} {g h : Nat → Span} {R : Nat → Nat → Bool} {c : Nat → Nat → Int} {gs : Nat → Int} {ys : Nat → Nat → Int} {zs : Nat → Int} :
    costs (laidG S g h R c gs ys zs T) = sumTo (fun t => sumTo (fun k => c t k * Yr R ys t k) S) T := by
  unfold costs laidG
  rw [sumI_append, sumI_map, sumI_flat]
  have e : sumI (fun x : Nat => ({ stripW g x with goes := gs x } : Wy).cost * ({ stripW g x with goes := gs x } : Wy).goes) (List.range S) = 0 := by
    rw [sumI_congr (g := fun _ => 0) (fun x _ => by simp [stripW]), sumI_zero]
  rw [e, Int.zero_add]
  refine sumTo_congr fun t _ => ?_
  rw [sumI_append, sumI_map, sumI_filter]
  have e2 : sumI (fun w : Wy => w.cost * w.goes) [{ tenW h t with goes := zs t }] = 0 := by simp [sumI, tenW]
  rw [e2, Int.add_zero]
  refine sumTo_congr fun k _ => ?_
  unfold Yr
  split
  · rfl
  · rw [Int.mul_zero]
theorem round_sums {S T : Nat} (hS : S ≤ 6) {g h : Nat → Span} {R : Nat → Nat → Bool} {c : Nat → Nat → Int} {gs : Nat → Int} {ys : Nat → Nat → Int} {zs : Nat → Int} (hr : Round (laidG S g h R c gs ys zs T)) :
    (∀ k, k < S → gs k = sumTo (fun t => Yr R ys t k) T) ∧ (∀ t, t < T → zs t = sumTo (fun k => Yr R ys t k) S) := by
  constructor
  · intro k0 hk0
    have := hr (fun v => if v = 1 + (k0 : Int) then 1 else 0)
    rw [bal_laidG] at this
    have e1 : sumTo (fun k => ((if (1 + (k : Int)) = 1 + (k0 : Int) then (1 : Int) else 0) - (if (0 : Int) = 1 + (k0 : Int) then 1 else 0)) * gs k) S = gs k0 := by
      rw [← sumTo_one (f := gs) hk0]
      refine sumTo_congr fun k _ => ?_
      rw [if_neg (show ¬ (0 : Int) = 1 + (k0 : Int) by omega)]
      by_cases hk : k = k0
      · subst hk; simp
      · rw [if_neg (by omega), if_neg hk]; simp
    have e2 : sumTo (fun t => sumTo (fun k => ((if (7 + (t : Int)) = 1 + (k0 : Int) then (1 : Int) else 0) - (if (1 + (k : Int)) = 1 + (k0 : Int) then 1 else 0)) * Yr R ys t k) S + ((if (0 : Int) = 1 + (k0 : Int) then (1 : Int) else 0) - (if (7 + (t : Int)) = 1 + (k0 : Int) then 1 else 0)) * zs t) T = - sumTo (fun t => Yr R ys t k0) T := by
      rw [← Int.neg_one_mul, ← sumTo_mul]
      refine sumTo_congr fun t _ => ?_
      rw [if_neg (show ¬ (7 + (t : Int)) = 1 + (k0 : Int) by omega), if_neg (show ¬ (0 : Int) = 1 + (k0 : Int) by omega)]
      have : sumTo (fun k => ((0 : Int) - (if (1 + (k : Int)) = 1 + (k0 : Int) then 1 else 0)) * Yr R ys t k) S = -1 * Yr R ys t k0 := by
        rw [← sumTo_one (f := fun k => -1 * Yr R ys t k) hk0]
        refine sumTo_congr fun k _ => ?_
        by_cases hk : k = k0
        · subst hk; simp
        · rw [if_neg (by omega), if_neg hk]; simp
      rw [this]; omega
    rw [e1, e2] at this
    omega
  · intro t0 ht0
    have := hr (fun v => if v = 7 + (t0 : Int) then 1 else 0)
    rw [bal_laidG] at this
    have e1 : sumTo (fun k => ((if (1 + (k : Int)) = 7 + (t0 : Int) then (1 : Int) else 0) - (if (0 : Int) = 7 + (t0 : Int) then 1 else 0)) * gs k) S = 0 := by
      rw [sumTo_congr (g := fun _ => 0) (fun k hk => by rw [if_neg (show ¬ (1 + (k : Int)) = 7 + (t0 : Int) by omega), if_neg (show ¬ (0 : Int) = 7 + (t0 : Int) by omega)]; simp), sumTo_zero]
    have e2 : sumTo (fun t => sumTo (fun k => ((if (7 + (t : Int)) = 7 + (t0 : Int) then (1 : Int) else 0) - (if (1 + (k : Int)) = 7 + (t0 : Int) then 1 else 0)) * Yr R ys t k) S + ((if (0 : Int) = 7 + (t0 : Int) then (1 : Int) else 0) - (if (7 + (t : Int)) = 7 + (t0 : Int) then 1 else 0)) * zs t) T = sumTo (fun k => Yr R ys t0 k) S - zs t0 := by
      rw [← sumTo_one (f := fun t => sumTo (fun k => Yr R ys t k) S - zs t) ht0]
      refine sumTo_congr fun t _ => ?_
      rw [if_neg (show ¬ (0 : Int) = 7 + (t0 : Int) by omega)]
      by_cases ht : t = t0
      · subst ht
        simp only [if_true]
        rw [sumTo_congr (g := fun k => Yr R ys t k) (fun k hk => by rw [if_neg (show ¬ (1 + (k : Int)) = 7 + (t : Int) by omega)]; omega)]
        omega
      · rw [if_neg (show ¬ (7 + (t : Int)) = 7 + (t0 : Int) by omega), if_neg ht, sumTo_congr (g := fun _ => 0) (fun k hk => by rw [if_neg (show ¬ (1 + (k : Int)) = 7 + (t0 : Int) by omega)]; simp), sumTo_zero]
        simp
    rw [e1, e2] at this
    omega
theorem sums_round {S T : Nat} {g h : Nat → Span} {R : Nat → Nat → Bool} {c : Nat → Nat → Int} {gs : Nat → Int} {ys : Nat → Nat → Int} {zs : Nat → Int} (h1 : ∀ k, k < S → gs k = sumTo (fun t => Yr R ys t k) T) (h2 : ∀ t, t < T → zs t = sumTo (fun k => Yr R ys t k) S) : Round (laidG S g h R c gs ys zs T) := fun φ => by
  rw [bal_laidG]
  have e1 : sumTo (fun k => (φ (1 + (k : Int)) - φ 0) * gs k) S = sumTo (fun t => sumTo (fun k => (φ (1 + (k : Int)) - φ 0) * Yr R ys t k) S) T := by
    rw [sumTo_comm]
    refine sumTo_congr fun k hk => ?_
    rw [h1 k hk, sumTo_mul]
  rw [e1, ← sumTo_add]
  refine (sumTo_congr (g := fun _ => 0) fun t ht => ?_).trans (sumTo_zero T)
  rw [h2 t ht, ← sumTo_mul, ← sumTo_add, ← sumTo_add]
  refine (sumTo_congr (g := fun _ => 0) fun k hk => ?_).trans (sumTo_zero _)
  rw [← Int.add_mul, ← Int.add_mul]
  rw [show φ (1 + (k : Int)) - φ 0 + (φ (7 + (t : Int)) - φ (1 + (k : Int)) + (φ 0 - φ (7 + (t : Int)))) = 0 by omega, Int.zero_mul]
structure FitsY (st : List Strip) (ca : List Span) (mp : List (Pair × Bool)) (y : Nat → Nat → Int) : Prop where
  pos : ∀ t k, t < ca.length → k < st.length → 0 ≤ y t k ∧ (0 < y t k → rOf mp t k = true)
  ten : ∀ t, t < ca.length → (hOf ca t).lo ≤ sumTo (fun k => y t k) st.length ∧ sumTo (fun k => y t k) st.length ≤ (hOf ca t).hi
  str : ∀ k, k < st.length → (gOf st k).lo ≤ sumTo (fun t => y t k) ca.length ∧ sumTo (fun t => y t k) ca.length ≤ (gOf st k).hi
def countY (st : List Strip) (ca : List Span) (c y : Nat → Nat → Int) : Int := sumTo (fun t => sumTo (fun k => c t k * y t k) st.length) ca.length
theorem net_shares {st : List Strip} {ca : List Span} (hS : NetS st ca) {mp : List (Pair × Bool)} {cf : Pair → Option Int} {l : List Wy} (hg : Good (laidS st ca mp cf) l) (hw : Within l) :
    ∃ gs ys zs, l = laidG st.length (gOf st) (hOf ca) (rOf mp) (cOf cf) gs ys zs ca.length ∧ FitsY st ca mp (Yr (rOf mp) ys) ∧ costs l = countY st ca (cOf cf) (Yr (rOf mp) ys) := by
  obtain ⟨gs, ys, zs, rfl⟩ := same_laid hg.same
  refine ⟨gs, ys, zs, rfl, ?_, costs_laidG⟩
  obtain ⟨h1, h2⟩ := round_sums hS.s6 hg.rnd
  refine ⟨fun t k ht hk => ?_, fun t ht => ?_, fun k hk => ?_⟩
  · unfold Yr
    split
    · rename_i hr
      have hm : ({ innerW (cOf cf) t k with goes := ys t k } : Wy) ∈ laidG st.length (gOf st) (hOf ca) (rOf mp) (cOf cf) gs ys zs ca.length := by
        unfold laidG
        refine List.mem_append_right _ (List.mem_flatMap.2 ⟨t, List.mem_range.2 ht, List.mem_append_left _ (List.mem_map.2 ⟨k, List.mem_filter.2 ⟨List.mem_range.2 hk, hr⟩, rfl⟩)⟩)
      have := (hw _ hm).1
      exact ⟨this, fun _ => hr⟩
    · exact ⟨Int.le_refl _, fun h => absurd h (Int.lt_irrefl _)⟩
  · rw [← h2 t ht]
    have hm : ({ tenW (hOf ca) t with goes := zs t } : Wy) ∈ laidG st.length (gOf st) (hOf ca) (rOf mp) (cOf cf) gs ys zs ca.length := by
      unfold laidG
      exact List.mem_append_right _ (List.mem_flatMap.2 ⟨t, List.mem_range.2 ht, List.mem_append_right _ (by simp)⟩)
    exact hw _ hm
  · rw [← h1 k hk]
    have hm : ({ stripW (gOf st) k with goes := gs k } : Wy) ∈ laidG st.length (gOf st) (hOf ca) (rOf mp) (cOf cf) gs ys zs ca.length := by
      unfold laidG
      exact List.mem_append_left _ (List.mem_map.2 ⟨k, List.mem_range.2 hk, rfl⟩)
    exact hw _ hm
theorem shares_net {st : List Strip} {ca : List Span} (hS : NetS st ca) {mp : List (Pair × Bool)} {cf : Pair → Option Int} {y : Nat → Nat → Int} (hy : FitsY st ca mp y) :
    ∃ l, Same (laidS st ca mp cf) l ∧ Round l ∧ Within l ∧ costs l = countY st ca (cOf cf) y := by
  have hYr : ∀ t k, t < ca.length → k < st.length → Yr (rOf mp) y t k = y t k := fun t k ht hk => by
    unfold Yr
    split
    · rfl
    · rename_i hr
      have := hy.pos t k ht hk
      by_cases h0 : 0 < y t k
      · exact absurd (this.2 h0) hr
      · omega
  refine ⟨laidG st.length (gOf st) (hOf ca) (rOf mp) (cOf cf) (fun k => sumTo (fun t => y t k) ca.length) y (fun t => sumTo (fun k => y t k) st.length) ca.length, laidG_same, ?_, fun w hw => ?_, ?_⟩
  · exact sums_round (fun k hk => sumTo_congr fun t ht => (hYr t k ht hk).symm) (fun t ht => sumTo_congr fun k hk => (hYr t k ht hk).symm)
  · unfold laidG at hw
    rcases List.mem_append.1 hw with hw | hw
    · obtain ⟨k, hk, rfl⟩ := List.mem_map.1 hw
      exact hy.str k (by simpa using hk)
    · obtain ⟨t, ht, hw⟩ := List.mem_flatMap.1 hw
      have ht' : t < ca.length := by simpa using ht
      rcases List.mem_append.1 hw with hw | hw
      · obtain ⟨k, hk, rfl⟩ := List.mem_map.1 hw
        have hk' : k < st.length := by have := (List.mem_filter.1 hk).1; simpa using this
        have h1 := hy.pos t k ht' hk'
        have h2 := hy.ten t ht'
        have h3 := hOf_ok hS ht'
        have h4 := sumTo_mem_le (f := fun k => y t k) (n := st.length) (j := k) (fun j hj => (hy.pos t j ht' hj).1) hk'
        refine ⟨h1.1, ?_⟩
        show y t k ≤ 1000000
        omega
      · rw [List.mem_singleton] at hw
        subst hw
        exact hy.ten t ht'
  · rw [costs_laidG]
    unfold countY
    refine sumTo_congr fun t ht => sumTo_congr fun k hk => ?_
    rw [hYr t k ht hk]
theorem net_least {st : List Strip} {ca : List Span} (hS : NetS st ca) {mp : List (Pair × Bool)} {cf : Pair → Option Int} {l : List Wy} (hg : Good (laidS st ca mp cf) l) {π : Int → Int} (hp : Pot π l) {y : Nat → Nat → Int} (hy : FitsY st ca mp y) : costs l ≤ countY st ca (cOf cf) y := by
  obtain ⟨l', h1, h2, h3, h4⟩ := shares_net hS (cf := cf) hy
  rw [← h4]
  exact Pot.least (hg.same.symm.trans h1) hp hg.rnd h3 h2
theorem lk_cut {l0 : List Wy} {w : Wy} {met : List Bool} (h : Lk l0 w met) : 0 < gap (gI false met) l0 := by
  obtain ⟨l, hg, hw, hlow, hd, hf, hcl⟩ := h.ex
  have hcut : Cut (gI false met) l := fun v hv => by
    obtain ⟨i, hi, rfl⟩ := List.getElem_of_mem hv
    have e : ∀ m, wy l ⟨(i : Int), m⟩ = l[i] := fun m => by unfold wy; simp [List.getD_eq_getElem?_getD, hi]
    refine ⟨fun h1 h2 => ?_, fun h1 h2 => ?_⟩
    · by_cases hlt : (l[i]).hi ≤ (l[i]).goes
      · exact hlt
      · have := hcl ⟨(i : Int), true⟩ (res_mem.2 ⟨way_nat hi true, by simp only [rm, if_true, e]; omega⟩) (by simpa [eA, e] using h1)
        simp only [eB, if_true, e] at this
        rw [h2] at this; cases this
    · by_cases hlt : (l[i]).goes ≤ (l[i]).lo
      · exact hlt
      · have := hcl ⟨(i : Int), false⟩ (res_mem.2 ⟨way_nat hi false, by simp only [rm, Bool.false_eq_true, if_false, e]; omega⟩) (by simpa [eA, e] using h2)
        simp only [eB, Bool.false_eq_true, if_false, e] at this
        rw [h1] at this; cases this
  have := hcut.gap hg.rnd hw hf hd hlow
  rwa [← gap_same hg.same] at this
theorem lk_none {st : List Strip} {ca : List Span} (hS : NetS st ca) {mp : List (Pair × Bool)} {cf : Pair → Option Int} {w : Wy} {met : List Bool} (h : Lk (laidS st ca mp cf) w met) {y : Nat → Nat → Int} (hy : FitsY st ca mp y) : False := by
  obtain ⟨l', h1, h2, h3, _⟩ := shares_net hS (cf := cf) hy
  have := lk_cut h
  rw [gap_same h1] at this
  have := gap_le (S := gI false met) h2 h3
  omega
end Go.Proofs.Ws

namespace Go.Gx
open Go
theorem any_loop {α : Type} (l : List α) (d : α) (p : α → Option Bool) (hp : α → Bool) (hl : l.length < 1000000000000) (h : ∀ x, x ∈ l → p x = some (hp x)) {f : Int → Option (Int ⊕ (Unit ⊕ Int))}
    (hf : ∀ s, f s = if s < (l.length : Int) then ((ix l s).bind fun x => (p x).bind fun b => if b = true then (some (.inr (.inr s))) else ((addc s 1).bind fun k => some (.inl k))) else some (.inr (.inl ()))) :
    (((iterM FU f 0).bind fun o => oc o (fun _ => (some (-1) : Option Int)) (fun r => some r)).bind fun t => some (decide (0 ≤ t))) = some (l.any hp) := by
  refine contains_loop (f := f) l d hp hl (fun k hk => ?_) ?_
  · rw [hf, if_pos (by omega), ix_nat d hk, Option.bind_some, h _ (by simp [List.getD_eq_getElem?_getD, hk]), Option.bind_some, addc_eq (by omega), Option.bind_some]
    split <;> rfl
  · rw [hf, if_neg (by omega)]
end Go.Gx
namespace Go.Proofs.Ws
open Go Go.Fw Go.Gx Go.Sp
def inb (n lo hi : Int) : Bool := decide (lo ≤ n) && decide (n ≤ hi)
theorem QU (n lo hi : Int) : KX n lo hi = some (inb n lo hi) := by
  unfold KX inb
  by_cases h : lo ≤ n
  · simp [h]
  · simp [h]
theorem inb_iff {n lo hi : Int} : inb n lo hi = true ↔ lo ≤ n ∧ n ≤ hi := by simp [inb]
def okSp (x : Span) : Bool := inb x.lo 0 30 && inb x.hi 0 30
theorem okSp_iff {x : Span} : okSp x = true ↔ In30 x := by
  unfold okSp In30
  rw [Bool.and_eq_true, inb_iff, inb_iff]
  constructor
  · rintro ⟨⟨a, b⟩, c, d⟩; exact ⟨a, b, c, d⟩
  · rintro ⟨a, b, c, d⟩; exact ⟨⟨a, b⟩, c, d⟩
theorem Y9 (x : Span) : zw x = some (okSp x) := by
  unfold zw okSp
  rw [QU, Option.bind_some]
  by_cases h : inb x.lo 0 30 = true
  · rw [if_pos h, QU, h]; rfl
  · rw [if_neg h]
    have : inb x.lo 0 30 = false := by simpa using h
    rw [this]; rfl
def spansOf (s : Scalps) : List Span := s.carried ++ s.strips.flatMap fun x => [x.lay, x.seeded, x.left]
theorem flat3_len {l : List Strip} : (l.flatMap fun x => [x.lay, x.seeded, x.left]).length = 3 * l.length := by
  induction l with
  | nil => rfl
  | cons x l ih => rw [List.flatMap_cons, List.length_append, ih]; simp; omega
theorem ZW {s : Scalps} (h6 : s.strips.length ≤ 6) (h1 : 1 ≤ s.carried.length) (h5 : s.carried.length ≤ 5) : kU s = some (spansOf s) := by
  unfold kU Jj
  rw [if_pos (by omega), appc_eq (by simp; omega), Option.bind_some, Option.bind_some]
  have key := iterM_run (f := kF s) (fun j => ⟨(j : Int), s.carried ++ (s.strips.take j).flatMap fun x => [x.lay, x.seeded, x.left]⟩) s.strips.length (b := spansOf s) (fun j hj => ?_) ?_ FU (FU_lt (by omega))
  · simp only [List.take_zero, List.flatMap_nil, List.append_nil] at key
    rw [List.nil_append]
    rw [show (0 : Int) = ((0 : Nat) : Int) from rfl, key, Option.bind_some]
  · unfold kF
    have hlt : (j : Int) < (s.strips.length : Int) := by omega
    simp only [hlt, if_true]
    have hx : s.strips.getD j default = s.strips[j] := by simp [List.getD_eq_getElem?_getD, hj]
    rw [ix_nat default hj, Option.bind_some, hx, appc_eq (by
      have := flat3_len (l := s.strips.take j)
      rw [List.length_take] at this
      simp only [List.length_append, List.length_cons, List.length_nil]; omega), Option.bind_some, addc_eq (by omega), Option.bind_some]
    have e : s.strips.take (j + 1) = s.strips.take j ++ [s.strips[j]] := by rw [List.take_append_getElem]
    rw [e, List.flatMap_append, List.append_assoc]
    rfl
  · unfold kF
    simp [spansOf]
theorem spans_len {s : Scalps} : (spansOf s).length = s.carried.length + 3 * s.strips.length := by unfold spansOf; rw [List.length_append, flat3_len]
theorem Yu {l : List Span} (hl : l.length < 1000) : qb l = some (l.all okSp) := by
  have := any_loop l default kz (fun x => !okSp x) (by omega) (fun x _ => by unfold kz; rw [Y9]; rfl) (f := yB l) (fun s => rfl)
  unfold qb k6 yn
  rw [this, Option.bind_some, not_any_not]
theorem Yx {l : List Span} (hl : l.length < 1000) : kH l = some (l.all fun x => decide (x.lo ≤ x.hi)) := by
  have := any_loop l default kn (fun x => !decide (x.lo ≤ x.hi)) (by omega) (fun x _ => by unfold kn Ky; rfl) (f := qX l) (fun s => rfl)
  unfold kH kL qC
  rw [this, Option.bind_some, not_any_not]
theorem zy {s : Scalps} (h : s.carried.length < 1000) (n : Int) : jZ s n = some (inb n 0 ((s.carried.length : Int) - 1)) := by
  unfold jZ
  rw [subc_eq (by omega), Option.bind_some, QU]; rfl
theorem Zt {s : Scalps} (h : s.strips.length < 1000) (n : Int) : kk s n = some (inb n 0 ((s.strips.length : Int) - 1)) := by
  unfold kk
  rw [subc_eq (by omega), Option.bind_some, QU]; rfl
theorem YD {l : List Strip} {s : Scalps} (h : s.carried.length < 1000) (hl : l.length < 1000) : ky l s = some (l.all fun x => inb x.tenant 0 ((s.carried.length : Int) - 1)) := by
  have := any_loop l default (fun x => kd x s) (fun x => !inb x.tenant 0 ((s.carried.length : Int) - 1)) (by omega) (fun x _ => by unfold kd KD; rw [zy h]; rfl) (f := yA l s) (fun s => rfl)
  unfold ky k9 yo
  rw [this, Option.bind_some, not_any_not]
theorem Zv {l : List Strip} (hl : l.length < 1000) (h : ∀ x, x ∈ l → In30 x.lay ∧ In30 x.seeded ∧ In30 x.left) : km l = some (l.all fun x => decide (0 ≤ (goneP x).hi)) := by
  have := any_loop l default j2 (fun x => !decide (0 ≤ (goneP x).hi)) (by omega) (fun x hx => by
    obtain ⟨a, b, c⟩ := h x hx
    unfold j2 KE; rw [Zo a b c]; rfl) (f := qV l) (fun s => rfl)
  unfold km kK qD
  rw [this, Option.bind_some, not_any_not]
def chk (s : Scalps) : Int :=
  if inb (s.strips.length : Int) 1 6 = true ∧ inb (s.carried.length : Int) 1 5 = true then
    if (spansOf s).all okSp = true then
      if (s.strips.all fun x => inb x.tenant 0 ((s.carried.length : Int) - 1)) = true then
        if ((spansOf s).all fun x => decide (x.lo ≤ x.hi)) = true then
          if (s.strips.all fun x => decide (0 ≤ (goneP x).hi)) = true then 0 else 8
        else 4
      else 1
    else 3
  else 2
theorem not_true_if {α : Type} (b : Bool) (x y : α) : (if (!b) = true then x else y) = if b = true then y else x := by cases b <;> rfl
theorem spans_mem {s : Scalps} {x : Strip} (hx : x ∈ s.strips) : x.lay ∈ spansOf s ∧ x.seeded ∈ spansOf s ∧ x.left ∈ spansOf s := by
  unfold spansOf
  refine ⟨List.mem_append_right _ (List.mem_flatMap.2 ⟨x, hx, by simp⟩), List.mem_append_right _ (List.mem_flatMap.2 ⟨x, hx, by simp⟩), List.mem_append_right _ (List.mem_flatMap.2 ⟨x, hx, by simp⟩)⟩
theorem YK (s : Scalps) : J7 s = some (chk s) := by
  unfold J7 chk
  rw [QU, Option.bind_some, QU]
  simp only [not_true_if, Option.bind_some]
  by_cases h1 : inb (s.strips.length : Int) 1 6 = true
  · by_cases h2 : inb (s.carried.length : Int) 1 5 = true
    · rw [if_pos h1, if_pos ⟨h1, h2⟩, h2, Option.bind_some]
      have h1' := inb_iff.1 h1
      have h2' := inb_iff.1 h2
      have hsl := spans_len (s := s)
      simp only [Bool.not_true, Bool.false_eq_true, if_false]
      rw [ZW (by omega) (by omega) (by omega), Option.bind_some, Yu (by omega), Option.bind_some]
      by_cases h3 : (spansOf s).all okSp = true
      · rw [if_pos h3, if_pos h3, YD (by omega) (by omega), Option.bind_some]
        split
        · rw [Option.bind_some, Yx (by omega), Option.bind_some]
          split
          · rw [Zv (by omega) (fun x hx => ?_), Option.bind_some]
            · split <;> rfl
            · obtain ⟨a, b, c⟩ := spans_mem hx
              have := List.all_eq_true.1 h3
              exact ⟨okSp_iff.1 (this _ a), okSp_iff.1 (this _ b), okSp_iff.1 (this _ c)⟩
          · rfl
        · rfl
      · rw [if_neg h3, if_neg h3]
    · rw [if_pos h1, if_neg (fun h => h2 h.2)]
      have : inb (s.carried.length : Int) 1 5 = false := by simpa using h2
      rw [this]; rfl
  · rw [if_neg h1, if_neg (fun h => h1 h.1)]; rfl
structure Right (s : Scalps) : Prop where
  net : NetS s.strips s.carried
  s1 : 1 ≤ s.strips.length
  c1 : 1 ≤ s.carried.length
  ten : ∀ x, x ∈ s.strips → 0 ≤ x.tenant ∧ x.tenant < s.carried.length
  ord : ∀ x, x ∈ s.strips → x.lay.lo ≤ x.lay.hi ∧ x.seeded.lo ≤ x.seeded.hi ∧ x.left.lo ≤ x.left.hi
theorem right_of {s : Scalps} (h : chk s = 0) : Right s := by
  unfold chk at h
  split at h
  · rename_i h1
    split at h
    · rename_i h2
      split at h
      · rename_i h3
        split at h
        · rename_i h4
          split at h
          · rename_i h5
            have e1 := inb_iff.1 h1.1
            have e2 := inb_iff.1 h1.2
            have g2 := List.all_eq_true.1 h2
            have g3 := List.all_eq_true.1 h3
            have g4 := List.all_eq_true.1 h4
            have g5 := List.all_eq_true.1 h5
            have ord : ∀ x, x ∈ s.strips → x.lay.lo ≤ x.lay.hi ∧ x.seeded.lo ≤ x.seeded.hi ∧ x.left.lo ≤ x.left.hi := fun x hx => by
              obtain ⟨a, b, c⟩ := spans_mem hx
              exact ⟨of_decide_eq_true (g4 _ a), of_decide_eq_true (g4 _ b), of_decide_eq_true (g4 _ c)⟩
            refine ⟨⟨by omega, by omega, fun x hx => ?_, fun x hx => ?_⟩, by omega, by omega, fun x hx => ?_, ord⟩
            · obtain ⟨a, b, c⟩ := spans_mem hx
              refine ⟨okSp_iff.1 (g2 _ a), okSp_iff.1 (g2 _ b), okSp_iff.1 (g2 _ c), ?_⟩
              have o := ord x hx
              have := of_decide_eq_true (g5 _ hx)
              unfold goneP at *
              simp only at this ⊢
              omega
            · have hm : x ∈ spansOf s := List.mem_append_left _ hx
              exact ⟨okSp_iff.1 (g2 _ hm), of_decide_eq_true (g4 _ hm)⟩
            · have := inb_iff.1 (g3 _ hx); omega
          · cases h
        · cases h
      · cases h
    · cases h
  · cases h
theorem of_right {s : Scalps} (h : Right s) : chk s = 0 := by
  have hm : ∀ x, x ∈ spansOf s → In30 x ∧ x.lo ≤ x.hi := fun x hx => by
    unfold spansOf at hx
    rcases List.mem_append.1 hx with hx | hx
    · exact h.net.cp x hx
    · obtain ⟨y, hy, hx⟩ := List.mem_flatMap.1 hx
      obtain ⟨a, b, c, _⟩ := h.net.sp y hy
      obtain ⟨d, e, f⟩ := h.ord y hy
      simp only [List.mem_cons, List.not_mem_nil, or_false] at hx
      rcases hx with rfl | rfl | rfl
      · exact ⟨a, d⟩
      · exact ⟨b, e⟩
      · exact ⟨c, f⟩
  have := h.net.s6; have := h.net.c5; have := h.s1; have := h.c1
  unfold chk
  rw [if_pos ⟨inb_iff.2 (by omega), inb_iff.2 (by omega)⟩, if_pos (List.all_eq_true.2 fun x hx => okSp_iff.2 (hm x hx).1), if_pos (List.all_eq_true.2 fun x hx => inb_iff.2 (by have := h.ten x hx; omega)), if_pos (List.all_eq_true.2 fun x hx => decide_eq_true (hm x hx).2), if_pos (List.all_eq_true.2 fun x hx => decide_eq_true (by
    have := (h.net.sp x hx).2.2.2
    unfold goneP at *
    simp only at this ⊢
    omega))]
end Go.Proofs.Ws

namespace Go.Gx
open Go
theorem afind_none {α β : Type} [DecidableEq α] : ∀ {l : List (α × β)} {k : α} {i : Nat}, afind l k i = none ↔ ∀ p, p ∈ l → p.1 ≠ k
  | [], k, i => by simp [afind]
  | (k', v') :: r, k, i => by
    unfold afind
    by_cases h : k = k'
    · rw [if_pos h]
      constructor
      · intro h2; cases h2
      · intro h2; exact absurd h.symm (h2 (k', v') (by simp))
    · rw [if_neg h, afind_none]
      constructor
      · intro h2 p hp
        rcases List.mem_cons.1 hp with rfl | hp
        · exact fun e => h e.symm
        · exact h2 p hp
      · intro h2 p hp; exact h2 p (List.mem_cons_of_mem _ hp)
theorem aget_val {α β : Type} [DecidableEq α] : ∀ {l : List (α × β)} {k : α} {i : Nat}, (afind l k i).map (·.2) = (l.find? fun p => decide (p.1 = k)).map (·.2)
  | [], k, i => rfl
  | (k', v') :: r, k, i => by
    unfold afind
    by_cases h : k = k'
    · rw [if_pos h, List.find?_cons, decide_eq_true h.symm]; rfl
    · rw [if_neg h, aget_val (i := i + 1), List.find?_cons, decide_eq_false (fun e => h e.symm)]
theorem find_modify {α β : Type} [DecidableEq α] (v : β) (k x : α) : ∀ {l : List (α × β)} {i j : Nat} {v0 : β}, afind l k j = some (i, v0) → ((l.modify (i - j) (fun p => (p.1, v))).find? fun p => decide (p.1 = x)).map (·.2) = if x = k then some v else (l.find? fun p => decide (p.1 = x)).map (·.2)
  | [], i, j, v0, h => by cases h
  | (k', v') :: r, i, j, v0, h => by
    unfold afind at h
    by_cases hk : k = k'
    · rw [if_pos hk] at h
      cases h
      rw [Nat.sub_self, List.modify_zero_cons, List.find?_cons, List.find?_cons]
      subst hk
      by_cases hx : k = x
      · rw [decide_eq_true hx, if_pos hx.symm]; rfl
      · rw [decide_eq_false hx, if_neg (fun e => hx e.symm)]
    · rw [if_neg hk] at h
      have hle := (afind_some h).1
      have e : i - j = (i - (j + 1)) + 1 := by omega
      rw [e, List.modify_succ_cons, List.find?_cons, List.find?_cons]
      have ih := find_modify v k x h
      by_cases hx : k' = x
      · rw [decide_eq_true hx, if_neg (fun e => hk (by rw [← e, hx]))]
      · rw [decide_eq_false hx]; exact ih
theorem aget_aset {α β : Type} [DecidableEq α] (l : List (α × β)) (k x : α) (v : β) : aget (aset l k v) x = if x = k then some v else aget l x := by
  unfold aget aset
  rw [aget_val, aget_val]
  cases h : afind l k 0 with
  | none =>
    simp only
    rw [List.find?_append]
    by_cases hx : x = k
    · subst hx
      have : (l.find? fun p => decide (p.1 = x)) = none := by
        rw [List.find?_eq_none]
        intro p hp
        simpa using afind_none.1 h p hp
      rw [this, if_pos rfl]
      simp
    · rw [if_neg hx]
      have : (List.find? (fun p : α × β => decide (p.1 = x)) [(k, v)]) = none := by
        rw [List.find?_cons, decide_eq_false (fun e => hx e.symm)]; rfl
      rw [this, Option.or_none]
  | some p =>
    obtain ⟨i, v0⟩ := p
    exact find_modify v k x h
end Go.Gx
namespace Go.Proofs.Ws
open Go Go.Fw Go.Gx Go.Sp
def Near (st : List Strip) (t k j : Int) : Prop := 0 ≤ k ∧ k < st.length ∧ j - 1 ≤ k ∧ k ≤ j + 1 ∧ 0 ≤ j ∧ j < st.length ∧ (st.getD j.toNat default).tenant = t
def MapOK (st : List Strip) (mp : List (Pair × Bool)) : Prop := ∀ t k : Int, ((aget mp ⟨t, k⟩).getD false = true ↔ ∃ j, Near st t k j)
theorem YY {s : Scalps} (h6 : s.strips.length ≤ 6) : ∃ mp, iterM FU (zk s) ⟨0, []⟩ = some mp ∧ MapOK s.strips mp := by
  refine iterM_inv (f := zk s) (fun x => 0 ≤ x.t21 ∧ x.t21 ≤ s.strips.length ∧ ∀ t k : Int, ((aget x.t15 ⟨t, k⟩).getD false = true ↔ ∃ j, Near s.strips t k j ∧ j < x.t21)) (fun x => s.strips.length - x.t21.toNat) (MapOK s.strips) (fun x hx => ?_) FU _ (FU_lt (by simp only; omega)) ⟨by simp, by simp, fun t k => ?_⟩
  · obtain ⟨h0, h1, hI⟩ := hx
    unfold zk
    by_cases hlt : x.t21 < (s.strips.length : Int)
    · left
      simp only [hlt, if_true]
      rw [ix_eq default h0 hlt, Option.bind_some, subc_eq (by omega), Option.bind_some]
      generalize hy : s.strips.getD x.t21.toNat default = y
      have key : ∃ mp, iterM FU (y3 x s y) ⟨x.t21 - 1, x.t15⟩ = some mp ∧ ∀ t k : Int, ((aget mp ⟨t, k⟩).getD false = true ↔ ∃ j, Near s.strips t k j ∧ j < x.t21 + 1) := by
        refine iterM_inv (f := y3 x s y) (fun z => x.t21 - 1 ≤ z.k8 ∧ z.k8 ≤ x.t21 + 2 ∧ ∀ t k : Int, ((aget z.t15 ⟨t, k⟩).getD false = true ↔ (∃ j, Near s.strips t k j ∧ j < x.t21) ∨ (k < z.k8 ∧ Near s.strips t k x.t21))) (fun z => (x.t21 + 2 - z.k8).toNat) _ (fun z hz => ?_) FU _ (FU_lt (by simp only; omega)) ⟨by simp, by simp only; omega, fun t k => ?_⟩
        · obtain ⟨g0, g1, gI⟩ := hz
          unfold y3
          rw [addc_eq (by omega), Option.bind_some]
          by_cases hz2 : z.k8 ≤ x.t21 + 1
          · left
            rw [if_pos hz2, Zt (by omega), Option.bind_some]
            by_cases hk : inb z.k8 0 ((s.strips.length : Int) - 1) = true
            · have hk' := inb_iff.1 hk
              rw [if_pos hk, Option.bind_some, Option.bind_some, addc_eq (by omega), Option.bind_some]
              refine ⟨_, rfl, ⟨by simp only; omega, by simp only; omega, fun t k => ?_⟩, by simp only; omega⟩
              simp only
              rw [aget_aset]
              by_cases he : (⟨t, k⟩ : Pair) = ⟨y.tenant, z.k8⟩
              · rw [if_pos he]
                simp only [Pair.mk.injEq] at he
                simp only [Option.getD_some, true_iff]
                refine .inr ⟨by omega, by omega, by omega, by omega, by omega, h0, hlt, ?_⟩
                rw [hy]; exact he.1.symm
              · rw [if_neg he, gI]
                constructor
                · rintro (h | ⟨h, h'⟩)
                  · exact .inl h
                  · exact .inr ⟨by omega, h'⟩
                · rintro (h | ⟨h, h'⟩)
                  · exact .inl h
                  · by_cases hkz : k = z.k8
                    · exfalso
                      apply he
                      have := h'.2.2.2.2.2.2
                      rw [hy] at this
                      rw [hkz, this]
                    · exact .inr ⟨by omega, h'⟩
            · rw [if_neg hk, Option.bind_some, addc_eq (by omega), Option.bind_some]
              refine ⟨_, rfl, ⟨by simp only; omega, by simp only; omega, fun t k => ?_⟩, by simp only; omega⟩
              simp only
              rw [gI]
              constructor
              · rintro (h | ⟨h, h'⟩)
                · exact .inl h
                · exact .inr ⟨by omega, h'⟩
              · rintro (h | ⟨h, h'⟩)
                · exact .inl h
                · by_cases hkz : k = z.k8
                  · exfalso
                    exact hk (inb_iff.2 ⟨by have := h'.1; omega, by have := h'.2.1; omega⟩)
                  · exact .inr ⟨by omega, h'⟩
          · right
            rw [if_neg hz2]
            refine ⟨_, rfl, fun t k => ?_⟩
            rw [gI]
            constructor
            · rintro (⟨j, h, h'⟩ | ⟨h, h'⟩)
              · exact ⟨j, h, by omega⟩
              · exact ⟨x.t21, h', by omega⟩
            · rintro ⟨j, h, h'⟩
              by_cases hj : j = x.t21
              · subst hj
                exact .inr ⟨by have := h.2.2.2.1; omega, h⟩
              · exact .inl ⟨j, h, by omega⟩
        · simp only
          rw [hI]
          constructor
          · exact .inl
          · rintro (h | ⟨h, h'⟩)
            · exact h
            · have := h'.2.2.1; omega
      obtain ⟨mp, hmp, hI2⟩ := key
      rw [hmp, Option.bind_some, addc_eq (by omega), Option.bind_some]
      exact ⟨_, rfl, ⟨by simp only; omega, by simp only; omega, hI2⟩, by simp only; omega⟩
    · right
      simp only [hlt, if_false]
      refine ⟨_, rfl, fun t k => ?_⟩
      rw [hI]
      constructor
      · rintro ⟨j, h, _⟩; exact ⟨j, h⟩
      · rintro ⟨j, h⟩; exact ⟨j, h, by have := h.2.2.2.2.2.1; omega⟩
  · simp only
    constructor
    · intro h; cases h
    · rintro ⟨j, h, h'⟩; have := h.2.2.2.2.1; omega
theorem k4 {s : Scalps} (h : Right s) : ∃ mp, kv s = some (.inr mp) ∧ MapOK s.strips mp := by
  obtain ⟨mp, h1, h2⟩ := YY h.net.s6
  refine ⟨mp, ?_, h2⟩
  unfold kv
  rw [YK, Option.bind_some, of_right h, if_pos rfl, h1]; rfl
theorem zN {s : Scalps} (h : chk s ≠ 0) : kv s = some (.inl (chk s)) := by
  unfold kv
  rw [YK, Option.bind_some, if_neg h, if_pos h]
def reachB (st : List Strip) (t k : Nat) : Bool := (List.range st.length).any fun j => decide (j ≤ k + 1 ∧ k ≤ j + 1 ∧ (st.getD j default).tenant = (t : Int))
theorem rOf_reach {st : List Strip} {mp : List (Pair × Bool)} (h : MapOK st mp) {t k : Nat} (hk : k < st.length) : rOf mp t k = reachB st t k := by
  unfold rOf reachB
  rw [Bool.eq_iff_iff, h, List.any_eq_true]
  constructor
  · rintro ⟨j, a, b, c, d, e, f, g⟩
    refine ⟨j.toNat, List.mem_range.2 (by omega), decide_eq_true ⟨by omega, by omega, g⟩⟩
  · rintro ⟨j, a, b⟩
    have a' := List.mem_range.1 a
    obtain ⟨b1, b2, b3⟩ := of_decide_eq_true b
    exact ⟨(j : Int), by omega, by omega, by omega, by omega, by omega, by omega, b3⟩
end Go.Proofs.Ws

namespace Go.Proofs.Ws
open Go Go.Fw Go.Gx Go.Sp
theorem costs_bound : ∀ {l : List Wy}, (∀ w, w ∈ l → WyOK w) → -1000000 * (l.length : Int) ≤ costs l ∧ costs l ≤ 1000000 * (l.length : Int)
  | [], _ => by simp [costs, sumI]
  | w :: l, h => by
    have ih := costs_bound (l := l) (fun x hx => h x (List.mem_cons_of_mem _ hx))
    have hw := h w (by simp)
    have e : costs (w :: l) = w.cost * w.goes + costs l := rfl
    have b := wcost_bound hw
    rw [e]; simp only [List.length_cons]; push_cast; omega
 where
  wcost_bound {w : Wy} (hw : WyOK w) : -1000000 ≤ w.cost * w.goes ∧ w.cost * w.goes ≤ 1000000 := by
    have h1 := hw.cost; have h2 := hw.goes; have h3 := hw.hi
    have : w.cost = -1 ∨ w.cost = 0 ∨ w.cost = 1 := by omega
    rcases this with e | e | e <;> rw [e] <;> omega
theorem Zb {l : List Wy} (hl : NetOK l) : yI l = some (costs l) := by
  unfold yI
  have key := iterM_run (f := zR l) (fun j => ⟨costs (l.take j), (j : Int)⟩) l.length (b := costs l) (fun j hj => ?_) ?_ FU (FU_lt (by have := hl.1; omega))
  · have e : (⟨0, 0⟩ : zS) = ⟨costs (l.take 0), ((0 : Nat) : Int)⟩ := rfl
    rw [e, key]; rfl
  · unfold zR
    have hlt : (j : Int) < (l.length : Int) := by omega
    have hlen := hl.1
    simp only [hlt, if_true]
    have hx : l.getD j default = l[j] := by simp [List.getD_eq_getElem?_getD, hj]
    have hw := hl.2 _ (List.getElem_mem hj)
    have b1 := costs_bound.wcost_bound hw
    have b2 := costs_bound (l := l.take j) (fun w hw => hl.2 w (List.mem_of_mem_take hw))
    rw [List.length_take] at b2
    rw [ix_nat default hj, Option.bind_some, hx, mulc_eq (by omega), Option.bind_some, addc_eq (by omega), Option.bind_some, addc_eq (by omega), Option.bind_some]
    have e : l.take (j + 1) = l.take j ++ [l[j]] := by rw [List.take_append_getElem]
    rw [e]
    have e2 : costs (l.take j ++ [l[j]]) = costs (l.take j) + l[j].cost * l[j].goes := by
      unfold costs; rw [sumI_append]; simp [sumI]
    rw [e2]; rfl
  · unfold zR
    simp
def mat (T S : Nat) (f : Nat → Nat → Int) : List (List Int) := (List.range T).map fun t => (List.range S).map (f t)
def updF (f : Nat → Nat → Int) (w : Wy) : Nat → Nat → Int := if w.fr = 0 ∨ w.dst = 0 then f else fun t k => if (t : Int) = w.dst - 7 ∧ (k : Int) = w.fr - 1 then w.goes else f t k
def Hits (w : Wy) (t k : Nat) : Prop := w.fr = 1 + (k : Int) ∧ w.dst = 7 + (t : Int)
theorem updF_at {f : Nat → Nat → Int} {w : Wy} {t k : Nat} : (Hits w t k → updF f w t k = w.goes) ∧ (¬ Hits w t k → updF f w t k = f t k) := by
  unfold updF Hits
  constructor
  · rintro ⟨h1, h2⟩
    rw [if_neg (by omega), if_pos (by omega)]
  · intro h
    split
    · rfl
    · exact if_neg (by omega)
theorem foldU_same {t k : Nat} {v : Int} : ∀ {l : List Wy} {f : Nat → Nat → Int}, (∀ w, w ∈ l → Hits w t k → w.goes = v) → f t k = v → l.foldl updF f t k = v
  | [], f, _, h => h
  | w :: l, f, h, hf => by
    rw [List.foldl_cons]
    refine foldU_same (fun x hx => h x (List.mem_cons_of_mem _ hx)) ?_
    by_cases hh : Hits w t k
    · rw [updF_at.1 hh]; exact h w (by simp) hh
    · rw [updF_at.2 hh]; exact hf
theorem foldU_hit {t k : Nat} {v : Int} : ∀ {l : List Wy} {f : Nat → Nat → Int}, (∀ w, w ∈ l → Hits w t k → w.goes = v) → (∃ w, w ∈ l ∧ Hits w t k) → l.foldl updF f t k = v
  | [], f, _, ⟨_, h, _⟩ => by cases h
  | w :: l, f, h, ⟨x, hx, hxh⟩ => by
    rw [List.foldl_cons]
    have h' := fun x hx => h x (List.mem_cons_of_mem w hx)
    rcases List.mem_cons.1 hx with rfl | hx
    · exact foldU_same h' (by rw [updF_at.1 hxh]; exact h x (by simp) hxh)
    · exact foldU_hit h' ⟨x, hx, hxh⟩
theorem mat_row {T S : Nat} {f : Nat → Nat → Int} {t : Nat} (h : t < T) : ix (mat T S f) (t : Int) = some ((List.range S).map (f t)) := range_ix h
theorem mat_set {T S : Nat} {f : Nat → Nat → Int} {t k : Nat} {v : Int} : (mat T S f).set t (((List.range S).map (f t)).set k v) = mat T S fun t' k' => if t' = t ∧ k' = k then v else f t' k' := by
  unfold mat
  rw [range_set, range_set]
  refine List.map_congr_left fun x _ => ?_
  by_cases hx : x = t
  · subst hx
    rw [if_pos rfl]
    refine List.map_congr_left fun y _ => ?_
    by_cases hy : y = k <;> simp [hy]
  · rw [if_neg hx]
    refine List.map_congr_left fun y _ => ?_
    exact (if_neg (fun h => hx h.1)).symm
theorem ZB {st : List Strip} {ca : List Span} (h6 : st.length ≤ 6) (h5 : ca.length ≤ 5) {l : List Wy} (hl : l.length ≤ 1000) (hw : ∀ w, w ∈ l → w.fr = 0 ∨ w.dst = 0 ∨ ∃ t k, t < ca.length ∧ k < st.length ∧ Hits w t k) :
    yg l st ca = some (mat ca.length st.length (l.foldl updF fun _ _ => 0)) := by
  unfold yg
  rw [makec_eq (by omega), Option.bind_some]
  have k1 : iterM FU (qP (List.replicate ca.length []) st) ⟨0, List.replicate ca.length []⟩ = some (mat ca.length st.length fun _ _ => 0) := by
    have key := iterM_run (f := qP (List.replicate ca.length []) st) (fun j => ⟨(j : Int), (List.range ca.length).map fun t => if t < j then (List.range st.length).map (fun _ => (0 : Int)) else []⟩) ca.length (b := mat ca.length st.length fun _ _ => 0) (fun j hj => ?_) ?_ FU (FU_lt (by omega))
    · have e : (List.range ca.length).map (fun t => if t < 0 then (List.range st.length).map (fun _ => (0 : Int)) else []) = List.replicate ca.length [] := by
        rw [List.eq_replicate_iff]
        exact ⟨by simp, fun b hb => by obtain ⟨t, _, rfl⟩ := List.mem_map.1 hb; simp⟩
      rw [e] at key
      exact key
    · unfold qP
      have hlt : (j : Int) < ((List.replicate ca.length ([] : List Int)).length : Int) := by simp; omega
      simp only [hlt, if_true]
      rw [makec_eq (by omega), Option.bind_some, range_ix hj, Option.bind_some, Option.bind_some, addc_eq (by omega), Option.bind_some, show Int.toNat (j : Int) = j by omega, range_set]
      have e : (List.range ca.length).map (fun t => if t = j then List.replicate (st.length : Int).toNat (0 : Int) else if t < j then (List.range st.length).map (fun _ => (0 : Int)) else []) = (List.range ca.length).map (fun t => if t < j + 1 then (List.range st.length).map (fun _ => (0 : Int)) else []) := by
        refine List.map_congr_left fun t _ => ?_
        by_cases ht : t = j
        · rw [if_pos ht, if_pos (by omega)]
          symm
          rw [List.eq_replicate_iff]
          exact ⟨by simp, fun b hb => by obtain ⟨t, _, rfl⟩ := List.mem_map.1 hb; rfl⟩
        · rw [if_neg ht]
          by_cases h2 : t < j
          · rw [if_pos h2, if_pos (by omega)]
          · rw [if_neg h2, if_neg (by omega)]
      rw [e]; rfl
    · unfold qP
      have hlt : ¬ ((ca.length : Int) < ((List.replicate ca.length ([] : List Int)).length : Int)) := by simp
      simp only [hlt, if_false]
      congr 2
      refine List.map_congr_left fun t ht => ?_
      rw [if_pos (List.mem_range.1 ht)]
  rw [show List.replicate (ca.length : Int).toNat ([] : List Int) = List.replicate ca.length [] by simp, k1, Option.bind_some]
  have key := iterM_run (f := yJ l) (fun j => ⟨(j : Int), mat ca.length st.length ((l.take j).foldl updF fun _ _ => 0)⟩) l.length (b := mat ca.length st.length (l.foldl updF fun _ _ => 0)) (fun j hj => ?_) ?_ FU (FU_lt (by omega))
  · have e : (⟨0, mat ca.length st.length fun _ _ => 0⟩ : yG) = ⟨((0 : Nat) : Int), mat ca.length st.length ((l.take 0).foldl updF fun _ _ => 0)⟩ := rfl
    rw [e, key]; rfl
  · unfold yJ
    have hlt : (j : Int) < (l.length : Int) := by omega
    simp only [hlt, if_true]
    have hx : l.getD j default = l[j] := by simp [List.getD_eq_getElem?_getD, hj]
    have e : l.take (j + 1) = l.take j ++ [l[j]] := by rw [List.take_append_getElem]
    rw [ix_nat default hj, Option.bind_some, hx, e, List.foldl_append]
    simp only [List.foldl_cons, List.foldl_nil]
    generalize (l.take j).foldl updF (fun _ _ => 0) = f
    have hwj := hw _ (List.getElem_mem hj)
    generalize l[j] = w at hwj
    by_cases h0 : w.fr = 0 ∨ w.dst = 0
    · have e2 : (if w.fr = 0 then some false else some (!decide (w.dst = 0))) = some false := by
        by_cases h1 : w.fr = 0
        · rw [if_pos h1]
        · rw [if_neg h1, decide_eq_true (h0.resolve_left h1)]; rfl
      rw [e2, Option.bind_some, if_neg (by simp), Option.bind_some, addc_eq (by omega), Option.bind_some]
      unfold updF
      rw [if_pos h0]; rfl
    · rcases hwj with h | h | ⟨t, k, ht, hk, hh⟩
      · exact absurd (.inl h) h0
      · exact absurd (.inr h) h0
      · obtain ⟨a1, a2⟩ := hh
        have e2 : (if w.fr = 0 then some false else some (!decide (w.dst = 0))) = some true := by
          rw [if_neg (fun h => h0 (.inl h)), decide_eq_false (fun h => h0 (.inr h))]; rfl
        rw [e2, Option.bind_some, if_pos rfl, subc_eq (by omega), Option.bind_some, subc_eq (by omega), Option.bind_some, show w.dst - 1 - 6 = (t : Int) by omega, mat_row ht, Option.bind_some, subc_eq (by omega), Option.bind_some, show w.fr - 1 = (k : Int) by omega, range_ix hk, Option.bind_some, Option.bind_some, Option.bind_some, Option.bind_some, addc_eq (by omega), Option.bind_some, show Int.toNat (t : Int) = t by omega, show Int.toNat (k : Int) = k by omega, mat_set]
        have e3 : updF f w = fun t' k' => if t' = t ∧ k' = k then w.goes else f t' k' := by
          unfold updF
          rw [if_neg h0]
          funext t' k'
          by_cases hc : t' = t ∧ k' = k
          · rw [if_pos hc, if_pos (by omega)]
          · rw [if_neg hc, if_neg (by omega)]
        rw [e3]; rfl
  · unfold yJ
    simp
theorem laidG_mem {S T : Nat} {g h : Nat → Span} {R : Nat → Nat → Bool} {c : Nat → Nat → Int} {gs : Nat → Int} {ys : Nat → Nat → Int} {zs : Nat → Int} {w : Wy} :
    w ∈ laidG S g h R c gs ys zs T ↔ (∃ k, k < S ∧ w = { stripW g k with goes := gs k }) ∨ (∃ t k, t < T ∧ k < S ∧ R t k = true ∧ w = { innerW c t k with goes := ys t k }) ∨ (∃ t, t < T ∧ w = { tenW h t with goes := zs t }) := by
  unfold laidG
  rw [List.mem_append, List.mem_map, List.mem_flatMap]
  constructor
  · rintro (⟨k, hk, rfl⟩ | ⟨t, ht, hw⟩)
    · exact .inl ⟨k, by simpa using hk, rfl⟩
    · rcases List.mem_append.1 hw with hw | hw
      · obtain ⟨k, hk, rfl⟩ := List.mem_map.1 hw
        obtain ⟨h1, h2⟩ := List.mem_filter.1 hk
        exact .inr (.inl ⟨t, k, by simpa using ht, by simpa using h1, h2, rfl⟩)
      · rw [List.mem_singleton] at hw
        exact .inr (.inr ⟨t, by simpa using ht, hw⟩)
  · rintro (⟨k, hk, rfl⟩ | ⟨t, k, ht, hk, hr, rfl⟩ | ⟨t, ht, rfl⟩)
    · exact .inl ⟨k, by simpa using hk, rfl⟩
    · exact .inr ⟨t, by simpa using ht, List.mem_append_left _ (List.mem_map.2 ⟨k, List.mem_filter.2 ⟨by simpa using hk, hr⟩, rfl⟩)⟩
    · exact .inr ⟨t, by simpa using ht, List.mem_append_right _ (by simp)⟩
theorem YZ {st : List Strip} {ca : List Span} (h6 : st.length ≤ 6) (h5 : ca.length ≤ 5) {g h : Nat → Span} {R : Nat → Nat → Bool} {c : Nat → Nat → Int} {gs : Nat → Int} {ys : Nat → Nat → Int} {zs : Nat → Int} (hl : (laidG st.length g h R c gs ys zs ca.length).length ≤ 1000) :
    yg (laidG st.length g h R c gs ys zs ca.length) st ca = some (mat ca.length st.length (Yr R ys)) := by
  rw [ZB h6 h5 hl]
  · congr 1
    unfold mat
    refine List.map_congr_left fun t ht => List.map_congr_left fun k hk => ?_
    have ht' := List.mem_range.1 ht
    have hk' := List.mem_range.1 hk
    have hall : ∀ w, w ∈ laidG st.length g h R c gs ys zs ca.length → Hits w t k → R t k = true ∧ w.goes = ys t k := fun w hw hh => by
      unfold Hits at hh
      rcases laidG_mem.1 hw with ⟨k', hk', rfl⟩ | ⟨t', k', ht', hk', hr, rfl⟩ | ⟨t', ht', rfl⟩
      · simp only [stripW] at hh; omega
      · simp only [innerW] at hh
        have e1 : k' = k := by omega
        have e2 : t' = t := by omega
        subst e1; subst e2
        exact ⟨hr, rfl⟩
      · simp only [tenW] at hh; omega
    unfold Yr
    split
    · rename_i hr
      refine foldU_hit (fun w hw hh => (hall w hw hh).2) ⟨_, laidG_mem.2 (.inr (.inl ⟨t, k, ht', hk', hr, rfl⟩)), ?_⟩
      unfold Hits innerW
      exact ⟨rfl, rfl⟩
    · rename_i hr
      exact foldU_same (fun w hw hh => absurd (hall w hw hh).1 hr) rfl
  · intro w hw
    rcases laidG_mem.1 hw with ⟨k', hk', rfl⟩ | ⟨t', k', ht', hk', hr, rfl⟩ | ⟨t', ht', rfl⟩
    · exact .inl rfl
    · exact .inr (.inr ⟨t', k', ht', hk', rfl, rfl⟩)
    · exact .inr (.inl rfl)
structure FitsS (s : Scalps) (y : Nat → Nat → Int) : Prop where
  pos : ∀ t k, t < s.carried.length → k < s.strips.length → 0 ≤ y t k ∧ (0 < y t k → reachB s.strips t k = true)
  ten : ∀ t, t < s.carried.length → (hOf s.carried t).lo ≤ sumTo (fun k => y t k) s.strips.length ∧ sumTo (fun k => y t k) s.strips.length ≤ (hOf s.carried t).hi
  str : ∀ k, k < s.strips.length → (gOf s.strips k).lo ≤ sumTo (fun t => y t k) s.carried.length ∧ sumTo (fun t => y t k) s.carried.length ≤ (gOf s.strips k).hi
theorem fitsY_iff {s : Scalps} {mp : List (Pair × Bool)} (hm : MapOK s.strips mp) {y : Nat → Nat → Int} : FitsY s.strips s.carried mp y ↔ FitsS s y := by
  constructor
  · intro h
    exact ⟨fun t k ht hk => by rw [← rOf_reach hm hk]; exact h.pos t k ht hk, h.ten, h.str⟩
  · intro h
    exact ⟨fun t k ht hk => by rw [rOf_reach hm hk]; exact h.pos t k ht hk, h.ten, h.str⟩
def countS (s : Scalps) (c y : Nat → Nat → Int) : Int := countY s.strips s.carried c y
theorem filled_min {s : Scalps} (h : Right s) {mp : List (Pair × Bool)} (hm : MapOK s.strips mp) {cf : Pair → Option Int} (hc : CfOK s.strips s.carried cf) :
    (∃ l y, j4 s.strips s.carried mp cf = some (.inr ⟨⟨false, []⟩, l⟩) ∧ (∃ π : Int → Int, PotB π l) ∧ Good (laidS s.strips s.carried mp cf) l ∧ Within l ∧ yI l = some (countS s (cOf cf) y) ∧ yg l s.strips s.carried = some (mat s.carried.length s.strips.length y) ∧ FitsS s y ∧ ∀ y', FitsS s y' → countS s (cOf cf) y ≤ countS s (cOf cf) y') ∨
    (∃ w met, j4 s.strips s.carried mp cf = some (.inl (lackP s.strips s.carried w met)) ∧ Lk (laidS s.strips s.carried mp cf) w met ∧ ∀ y, ¬ FitsS s y) := by
  rcases YX h.net (mp := mp) hc with ⟨l, h1, hg, hw, π, hp⟩ | ⟨w, met, h1, hlk⟩
  · left
    obtain ⟨gs, ys, zs, e, hf, hcost⟩ := net_shares h.net hg hw
    refine ⟨l, _, h1, ⟨π, hp⟩, hg, hw, ?_, ?_, (fitsY_iff hm).1 hf, fun y' hy' => ?_⟩
    · rw [Zb hg.ok, hcost]; rfl
    · have hlen := hg.ok.1
      rw [e]
      rw [e] at hlen
      exact YZ h.net.s6 h.net.c5 (by omega)
    · have := net_least h.net hg hp.1 ((fitsY_iff hm).2 hy')
      rw [hcost] at this
      exact this
  · right
    exact ⟨w, met, h1, hlk, fun y hy => lk_none h.net hlk ((fitsY_iff hm).2 hy)⟩
end Go.Proofs.Ws

namespace Go.Proofs.Ws
open Go Go.Fw Go.Gx Go.Sp
def CfIs (s : Scalps) (cf : Pair → Option Int) (c : Nat → Nat → Int) : Prop := ∀ t k : Nat, t < s.carried.length → k < s.strips.length → cf ⟨(t : Int), (k : Int)⟩ = some (c t k) ∧ -1 ≤ c t k ∧ c t k ≤ 1
theorem CfIs.ok {s : Scalps} {cf : Pair → Option Int} {c : Nat → Nat → Int} (h : CfIs s cf c) : CfOK s.strips s.carried cf := fun t k ht hk => ⟨c t k, h t k ht hk⟩
theorem CfIs.count {s : Scalps} {cf : Pair → Option Int} {c : Nat → Nat → Int} (h : CfIs s cf c) (y : Nat → Nat → Int) : countS s (cOf cf) y = countS s c y := by
  unfold countS countY
  refine sumTo_congr fun t ht => sumTo_congr fun k hk => ?_
  have : cOf cf t k = c t k := by unfold cOf; rw [(h t k ht hk).1]; rfl
  rw [this]
theorem countS_neg {s : Scalps} {c y : Nat → Nat → Int} : countS s (fun t k => - c t k) y = - countS s c y := by
  unfold countS countY
  rw [← Int.neg_one_mul, ← sumTo_mul]
  refine sumTo_congr fun t ht => ?_
  rw [← sumTo_mul]
  refine sumTo_congr fun k hk => ?_
  rw [Int.neg_one_mul, Int.neg_mul]
theorem CfIs.neg {s : Scalps} {cf cf' : Pair → Option Int} {c : Nat → Nat → Int} (h : CfIs s cf c) (h' : ∀ p, cf' p = (cf p).bind fun t => (negc t).bind fun x => some x) : CfIs s cf' fun t k => - c t k := fun t k ht hk => by
  obtain ⟨a, b, d⟩ := h t k ht hk
  refine ⟨?_, (by omega : -1 ≤ - c t k), (by omega : - c t k ≤ 1)⟩
  rw [h', a, Option.bind_some, negc_eq (by omega)]; rfl
def cnt (b : Bool) : Int := if b = true then 1 else 0
theorem cnt_range (b : Bool) : -1 ≤ cnt b ∧ cnt b ≤ 1 ∧ 0 ≤ cnt b := by unfold cnt; split <;> omega
def othB (s : Scalps) (t k : Nat) : Bool := !decide ((s.strips.getD k default).tenant = (t : Int))
def thC (s : Scalps) (t k : Nat) : Int := cnt (othB s t k)
theorem YO {s : Scalps} {t k : Nat} (hk : k < s.strips.length) : yV s.strips s.carried ⟨(t : Int), (k : Int)⟩ = some (othB s t k) := by
  unfold yV othB
  rw [ix_nat default hk, Option.bind_some]
def IsRange (s : Scalps) (c : Nat → Nat → Int) (lo hi : Int) : Prop := (∃ y, FitsS s y ∧ countS s c y = lo) ∧ (∃ y, FitsS s y ∧ countS s c y = hi) ∧ ∀ y, FitsS s y → lo ≤ countS s c y ∧ countS s c y ≤ hi
def NoFit (s : Scalps) : Prop := ∀ y, ¬ FitsS s y
theorem IsRange.uniq {s : Scalps} {c : Nat → Nat → Int} {a b a' b' : Int} (h : IsRange s c a b) (h' : IsRange s c a' b') : a = a' ∧ b = b' := by
  obtain ⟨⟨y1, f1, e1⟩, ⟨y2, f2, e2⟩, h3⟩ := h
  obtain ⟨⟨z1, g1, d1⟩, ⟨z2, g2, d2⟩, h4⟩ := h'
  have := h3 _ g1; have := h3 _ g2; have := h4 _ f1; have := h4 _ f2
  omega
theorem spread_spec {s : Scalps} (h : Right s) {mp : List (Pair × Bool)} (hm : MapOK s.strips mp) {cf : Pair → Option Int} {c : Nat → Nat → Int} (hc : CfIs s cf c) :
    (∃ lo hi, kg s.strips s.carried mp cf = some ⟨⟨lo, hi⟩, 0⟩ ∧ IsRange s c lo hi) ∨ (kg s.strips s.carried mp cf = some ⟨⟨0, 0⟩, 7⟩ ∧ NoFit s) := by
  have hc2 : CfIs s (fun p : Pair => jU p cf) fun t k => - c t k := hc.neg fun p => rfl
  unfold kg
  rcases filled_min h hm hc.ok with ⟨l, y, h1, _, hg, _, h2, _, h3, h4⟩ | ⟨w, met, h1, _, h3⟩
  · left
    rcases filled_min h hm hc2.ok with ⟨l', y', g1, _, hg', _, g2, _, g3, g4⟩ | ⟨w, met, _, _, g3⟩
    · rw [h1, Option.bind_some, oc_inr, g1, Option.bind_some, oc_inr]
      simp only
      rw [hc.count] at h2
      rw [hc2.count, countS_neg] at g2
      have hb := costs_bound hg'.ok.2
      have hln := hg'.ok.1
      have e : costs l' = - countS s c y' := by
        have := Zb hg'.ok
        rw [this] at g2
        exact Option.some.inj g2
      rw [h2, Option.bind_some, g2, Option.bind_some, negc_eq (by omega), Option.bind_some, Int.neg_neg]
      refine ⟨_, _, rfl, ⟨y, h3, rfl⟩, ⟨y', g3, rfl⟩, fun z hz => ?_⟩
      have a := h4 z hz
      have b := g4 z hz
      rw [hc.count, hc.count] at a
      rw [hc2.count, hc2.count, countS_neg, countS_neg] at b
      omega
    · exact absurd h3 (g3 y)
  · right
    rcases filled_min h hm hc2.ok with ⟨l', y', g1, _, _, _, _, _, g3, _⟩ | ⟨w', met', g1, _, _⟩
    · exact absurd g3 (h3 y')
    · rw [h1, Option.bind_some, oc_inl, g1, Option.bind_some, oc_inl]
      exact ⟨rfl, h3⟩
def stC (s : Scalps) (t0 t k : Nat) : Int := cnt (decide (t = t0) && othB s t k)
def verd (lo hi : Int) : Int := if hi = 0 then 1 else if 0 < lo then 2 else 0
theorem cf_verd (s : Scalps) (t0 : Nat) : CfIs s (fun p => j7 p (t0 : Int) s.strips s.carried) (stC s t0) := fun t k _ hk => by
  refine ⟨?_, (cnt_range _).1, (cnt_range _).2.1⟩
  unfold j7 zJ stC cnt
  simp only
  by_cases ht : t = t0
  · subst ht
    rw [if_pos rfl, YO hk, Option.bind_some, Option.bind_some, Option.bind_some, decide_eq_true rfl, Bool.true_and]
    split <;> rfl
  · rw [if_neg (by omega), Option.bind_some, Option.bind_some, decide_eq_false ht]; rfl
theorem Verdicts_spec {s : Scalps} (h : Right s) : (∃ lo hi : Nat → Int, kA s = some ⟨0, (List.range s.carried.length).map fun t => verd (lo t) (hi t)⟩ ∧ ∀ t, t < s.carried.length → IsRange s (stC s t) (lo t) (hi t)) ∨ (kA s = some ⟨7, []⟩ ∧ NoFit s) := by
  obtain ⟨mp, hmp, hm⟩ := k4 h
  have hT := h.net.c5
  have hc1 := h.c1
  unfold kA
  rw [hmp, Option.bind_some, oc_inr]
  by_cases hn : NoFit s
  · right
    refine ⟨?_, hn⟩
    obtain ⟨N, hN⟩ : ∃ N, FU = N + 1 := ⟨FU - 1, by unfold FU; omega⟩
    have h0 : kJ s mp ⟨0, []⟩ = some (.inr (.inr ⟨7, []⟩)) := by
      unfold kJ
      simp only
      rw [if_pos (by omega)]
      rcases spread_spec h hm (cf_verd s 0) with ⟨lo, hi, _, ⟨y, hy, _⟩, _⟩ | ⟨h1, _⟩
      · exact absurd hy (hn y)
      · unfold J2
        rw [Option.bind_some]
        have h1' : kg s.strips s.carried mp (fun p_1 => j7 p_1 0 s.strips s.carried) = some ⟨⟨0, 0⟩, 7⟩ := h1
        rw [h1', Option.bind_some, Option.bind_some]
        simp
    rw [hN, iterM_done h0]; rfl
  · left
    have hex : ∀ t : Nat, ∃ p : Int × Int, t < s.carried.length → kg s.strips s.carried mp (fun p_1 => j7 p_1 (t : Int) s.strips s.carried) = some ⟨⟨p.1, p.2⟩, 0⟩ ∧ IsRange s (stC s t) p.1 p.2 := fun t => by
      rcases spread_spec h hm (cf_verd s t) with ⟨lo, hi, h1, hr⟩ | ⟨_, hn'⟩
      · exact ⟨(lo, hi), fun _ => ⟨h1, hr⟩⟩
      · exact absurd hn' hn
    obtain ⟨f, hf⟩ := Classical.axiomOfChoice hex
    refine ⟨fun t => (f t).1, fun t => (f t).2, ?_, fun t ht => (hf t ht).2⟩
    have key := iterM_run (f := kJ s mp) (fun j => ⟨(j : Int), (List.range j).map fun t => verd (f t).1 (f t).2⟩) s.carried.length (b := .inl ((List.range s.carried.length).map fun t => verd (f t).1 (f t).2)) (fun j hj => ?_) ?_ FU (FU_lt (by omega))
    · have e : (⟨0, []⟩ : q9) = ⟨((0 : Nat) : Int), (List.range 0).map fun t => verd (f t).1 (f t).2⟩ := rfl
      rw [e, key, Option.bind_some, oc_inl]
    · unfold kJ
      have hlt : (j : Int) < (s.carried.length : Int) := by omega
      simp only [hlt, if_true]
      unfold J2
      rw [Option.bind_some, (hf j hj).1, Option.bind_some, Option.bind_some]
      simp only [if_true]
      have hap : ∀ v : Int, appc 8 ((List.range j).map fun t => verd (f t).1 (f t).2) [v] = some ((List.range j).map (fun t => verd (f t).1 (f t).2) ++ [v]) := fun v => appc_eq (by simp only [List.length_map, List.length_range, List.length_cons, List.length_nil]; omega)
      have hv : (if (f j).2 = 0 then (appc 8 ((List.range j).map fun t => verd (f t).1 (f t).2) [1]).bind fun t44 => (some (.inl t44) : Option (List Int ⊕ kZ)) else if 0 < (f j).1 then (appc 8 ((List.range j).map fun t => verd (f t).1 (f t).2) [2]).bind fun t51 => some (.inl t51) else (appc 8 ((List.range j).map fun t => verd (f t).1 (f t).2) [0]).bind fun t33 => some (.inl t33)) = some (.inl ((List.range (j + 1)).map fun t => verd (f t).1 (f t).2)) := by
        rw [hap, hap, hap, List.range_succ, List.map_append]
        simp only [Option.bind_some, List.map_cons, List.map_nil]
        rw [show verd (f j).1 (f j).2 = if (f j).2 = 0 then 1 else if 0 < (f j).1 then 2 else 0 from rfl]
        split
        · rfl
        · split <;> rfl
      rw [hv, Option.bind_some, oc_inl, addc_eq (by omega), Option.bind_some]
      rfl
    · unfold kJ
      simp
theorem Verdicts_wrong {s : Scalps} (h : chk s ≠ 0) : kA s = some ⟨chk s, []⟩ := by
  unfold kA
  rw [zN h]; rfl
end Go.Proofs.Ws

namespace Go.Proofs.Ws
open Go Go.Fw Go.Gx Go.Sp
def gtI (l : List Int) (j : Nat) : Int := l.getD j 0
end Go.Proofs.Ws

namespace Go.Proofs.Ws
set_option maxHeartbeats 4000000
set_option maxRecDepth 100000
open Go Go.Fw Go.Gx Go.Sp
set_option linter.unusedVariables false
theorem Yg : (Tryz.prog.info? 4).map (fun i => (i.zero, i.size, i.bytes)) = some (some (.bool false), 1, 1) := by kernel_rfl
theorem jac : (Tryz.prog.info? 93).map (fun i => (i.zero, i.size, i.bytes)) = some (some (.slice none 0 0), 1, 24) := by kernel_rfl
theorem ja1 : (Tryz.prog.info? 98).map (fun i => (i.zero, i.size, i.bytes)) = some (some (.agg #[.int .i64 0, .int .i64 0, .int .i64 0, .int .i64 0, .int .i64 0, .int .i64 0, .int .i64 0]), 7, 56) := by kernel_rfl
theorem YS : Tryz.prog.stoodInHeld 32 = false := by decide +kernel
theorem ja4 : Tryz.prog.eqGuardType Tryz.prog.depth 85 = false := by decide +kernel
theorem jaQ : Tryz.prog.stoodInHeld 85 = false := by decide +kernel
theorem jbh (x y : Strip) (w : World) : (Op.equalIn 10000 85 (.agg (RSt.cells x).toArray) (.agg (RSt.cells y).toArray)).run Tryz.prog w = .ok (decide (x = y)) w := by
  have h := equal_structG (xs := (RSt.cells x).toArray) (ys := (RSt.cells y).toArray) Tryz.underlying85 jaQ (.int rfl (fun w => Tryz.isAgg3 w) ⟨_, Tryz.underlying3⟩ rfl rfl (.sub (us := [_, _]) (vs := [_, _]) rfl (fun w => Tryz.isAgg32 w) (fun w => Tryz.sizeOf32 w) rfl rfl rfl rfl Tryz.underlying32 YS (.int rfl (fun w => Tryz.isAgg3 w) ⟨_, Tryz.underlying3⟩ rfl rfl (.int rfl (fun w => Tryz.isAgg3 w) ⟨_, Tryz.underlying3⟩ rfl rfl .nil)) (.sub (us := [_, _]) (vs := [_, _]) rfl (fun w => Tryz.isAgg32 w) (fun w => Tryz.sizeOf32 w) rfl rfl rfl rfl Tryz.underlying32 YS (.int rfl (fun w => Tryz.isAgg3 w) ⟨_, Tryz.underlying3⟩ rfl rfl (.int rfl (fun w => Tryz.isAgg3 w) ⟨_, Tryz.underlying3⟩ rfl rfl .nil)) (.sub (us := [_, _]) (vs := [_, _]) rfl (fun w => Tryz.isAgg32 w) (fun w => Tryz.sizeOf32 w) rfl rfl rfl rfl Tryz.underlying32 YS (.int rfl (fun w => Tryz.isAgg3 w) ⟨_, Tryz.underlying3⟩ rfl rfl (.int rfl (fun w => Tryz.isAgg3 w) ⟨_, Tryz.underlying3⟩ rfl rfl .nil)) .nil)))) w
  rw [h]
  congr 1
  obtain ⟨x0, ⟨x1_0, x1_1⟩, ⟨x2_0, x2_1⟩, ⟨x3_0, x3_1⟩⟩ := x
  obtain ⟨y0, ⟨y1_0, y1_1⟩, ⟨y2_0, y2_1⟩, ⟨y3_0, y3_1⟩⟩ := y
  rw [Bool.eq_iff_iff]
  simp only [Bool.and_eq_true, decide_eq_true_eq, Strip.mk.injEq, Span.mk.injEq, and_true]
def K8 (s0 : Scalps) : Option Bool :=
 (if 12 < (s0.strips.length : Int) then
 (some true) else
 (some (decide (10 < (s0.carried.length : Int))))).bind fun o =>
 some o
theorem jaa (s0 : Scalps) (qa0 : Option Addr) (na0 ca0 : Nat) (qa1 : Option Addr) (na1 ca1 : Nat) (w : World) (hw : HV w (keys [] []) [] [] [(aB qa0, aO qa0, RSt.enc s0.strips), (aB qa1, aO qa1, RSp.enc s0.carried)] w) (hna0 : s0.strips.length = na0) (hqa0 : AOK na0 qa0) (hla0 : na0 ≤ ca0) (hna1 : s0.carried.length = na1) (hqa1 : AOK na1 qa1) (hla1 : na1 ≤ ca1) {res : Bool} (hm : K8 s0 = some res) :
    Calls Tryz.prog 30 #[.agg #[.slice qa0 na0 ca0, .slice qa1 na1 ca1]] w (fun en w' => ∃ l : Unit, en = .returned (.bool res) ∧ (True) ∧ HV w (keys [] []) [] [] [] w') := by
  unfold K8 at hm
  refine j5 Tryz.func30 rfl Tryz.ntmps30 rfl (e := [(0, _)]) rfl hw (jq ?_)
  refine jC rfl rfl (fun b h1 => ?_)
  refine jk rfl rfl (jp (jj ?_))
  obtain ⟨o, h2, h3⟩ := bindO hm
  refine jF (ι := Unit) (fun l => True) (fun l => [(2, .bool o)]) (fun l => [(b, .cells #[.slice qa0 na0 ca0, .slice qa1 na1 ca1] 25 (0, 0))]) (fun l => []) ?_ ?_
  ·replace hm := h2
   refine jh (jP 0 Tryz.runUnderlying25 rfl Tryz.sizeOf22 rfl rfl (jY 0 Tryz.isAgg22 rfl rfl rfl rfl (jc rfl rfl rfl (fun w _ => jI hna0 (Tryz.runUnderlying22 w) rfl) (jc rfl rfl rfl (fun _ _ => Qy rfl rfl) (je rfl rfl ?_)))))
   refine jJ 7 rfl (fun h4 => ?_) (fun h4 => ?_)
   ·replace hm := ifD h4 hm
    refine g_k rfl rfl rfl rfl (g_k rfl rfl rfl rfl (g_k rfl rfl rfl rfl (g_k rfl rfl rfl rfl (kx rfl rfl rfl (jk rfl rfl (jv ?_))))))
    obtain rfl := sj hm
    exact jg () (trivial) (sE rfl) (fun w hh => hh)
   ·replace hm := ifE h4 hm
    refine jb rfl rfl (jP 1 Tryz.runUnderlying25 rfl Tryz.sizeOf23 rfl rfl (jb rfl rfl (jY 0 Tryz.isAgg23 rfl rfl rfl rfl (jb rfl rfl (jc rfl rfl rfl (fun w _ => jI hna1 (Tryz.runUnderlying23 w) rfl) (jb rfl rfl (jc rfl rfl rfl (fun _ _ => Qy rfl rfl) ?_)))))))
    refine j3 rfl rfl rfl (jk rfl rfl (jv ?_))
    obtain rfl := sj hm
    exact jg () (trivial) (sE rfl) (fun w hh => hh)
  ·intro l hj
   replace hm := h3
   refine ja (jw ?_)
   obtain rfl := sj hm
   refine jm rfl (fun w hh => (.tmp rfl .nil)) (fun w hh => ⟨(), rfl, trivial, hh.se [] [] 2 rfl rfl rfl rfl⟩)
structure Kt where
  n3 : Int
  t9 : Int
def Jv (s0 : Scalps) (s : Kt) : Option (Kt ⊕ Int) :=
 if s.t9 < (s0.carried.length : Int) then
 (((ix s0.carried s.t9).bind fun t11 =>
 (if 0 ≤ t11.hi then
 (if t11.hi ≤ 30 then
 (some (decide (s.n3 < 1000))) else
 (some false)) else
 (some false)).bind fun o_2 =>
 if o_2 = true then
 ((addc t11.hi 1).bind fun t28 =>
 (mulc s.n3 t28).bind fun t29 =>
 some t29) else
 (some s.n3)).bind fun o_1 =>
 (addc s.t9 1).bind fun t30 =>
 some (.inl (⟨o_1, t30⟩ : Kt))) else
 (some (.inr s.n3))
def QD (s0 : Scalps) : Option Bool :=
 (iterM FU (Jv s0) (⟨1, 0⟩ : Kt)).bind fun o =>
 ((K8 s0).bind fun t32 =>
 if t32 = true then
 (some true) else
 (if 500 < o then
 (some (decide ((s0.carried.length : Int) ≤ 5))) else
 (some false))).bind fun o_3 =>
 some o_3
theorem jaE (s0 : Scalps) (qa0 : Option Addr) (na0 ca0 : Nat) (qa1 : Option Addr) (na1 ca1 : Nat) (w : World) (hw : HV w (keys [] []) [] [] [(aB qa0, aO qa0, RSt.enc s0.strips), (aB qa1, aO qa1, RSp.enc s0.carried)] w) (hna0 : s0.strips.length = na0) (hqa0 : AOK na0 qa0) (hla0 : na0 ≤ ca0) (hna1 : s0.carried.length = na1) (hqa1 : AOK na1 qa1) (hla1 : na1 ≤ ca1) {res : Bool} (hm : QD s0 = some res) :
    Calls Tryz.prog 7 #[.agg #[.slice qa0 na0 ca0, .slice qa1 na1 ca1]] w (fun en w' => ∃ l : Unit, en = .returned (.bool res) ∧ (True) ∧ HV w (keys [] []) [] [] [] w') := by
  unfold QD at hm
  refine j5 Tryz.func7 rfl Tryz.ntmps7 rfl (e := [(0, _)]) rfl hw (jq ?_)
  refine jC rfl rfl (fun b h1 => ?_)
  refine jk rfl rfl (j0 (jk rfl rfl (jp (jj (jq (jP 1 Tryz.runUnderlying25 rfl Tryz.sizeOf23 rfl rfl (jY 0 Tryz.isAgg23 rfl rfl rfl rfl ?_)))))))
  refine jc rfl rfl rfl (fun w _ => jI hna1 (Tryz.runUnderlying23 w) rfl) (je rfl rfl (jp ?_))
  obtain ⟨o, h2, h3⟩ := bindO hm
  refine jF (ι := Unit) (fun l => True) (fun l => [(1, ptr b 0), (3, .int .i64 o)]) (fun l => [(b, .cells #[.slice qa0 na0 ca0, .slice qa1 na1 ca1] 25 (0, 0))]) (fun l => []) ?_ ?_
  ·replace hm := h2
   refine jn ?_
   refine jL (ι := Unit) hm (fun s l_1 => True) (fun s l_1 => [(1, ptr b 0), (3, .int .i64 s.n3), (7, .slice qa1 na1 ca1), (8, .int .i64 (s0.carried.length : Int)), (9, .int .i64 s.t9)]) (fun s l_1 => [(b, .cells #[.slice qa0 na0 ca0, .slice qa1 na1 ca1] 25 (0, 0))]) (fun s l_1 => []) () (trivial) (sE rfl) (fun w hh => hh) (fun s l_1 r hpl hm h4 => ?_)
   unfold Jv at hm
   refine jq (yY rfl rfl rfl (jp (jj ?_)))
   refine js rfl (fun h5 => ?_) (fun h5 => ?_)
   ·replace hm := ifD h5 hm
    refine ju (ja (jj ?_))
    obtain ⟨o_1, h6, h7⟩ := bindO hm
    refine jF (ι := Unit) (fun l_2 => True) (fun l_2 => [(1, ptr b 0), (3, .int .i64 o_1), (7, .slice qa1 na1 ca1), (8, .int .i64 (s0.carried.length : Int)), (9, .int .i64 s.t9)]) (fun l_2 => [(b, .cells #[.slice qa0 na0 ca0, .slice qa1 na1 ca1] 25 (0, 0))]) (fun l_2 => []) ?_ ?_
    ·replace hm := h6
     refine jn (jq ?_)
     obtain ⟨t11, h8, hm⟩ := bindO hm
     refine jc rfl rfl rfl (fun w _ => ki h8 (Tryz.runUnderlying23 w) (Tryz.sizeOf32 w) rfl rfl hna1 hqa1) ?_
     refine jc rfl rfl rfl (fun w hh => kt RSp 0 [.int .i64 t11.lo, .int .i64 t11.hi] h8 (Tryz.isAgg32 w) (Tryz.sizeOf32 w) rfl (hh.seg 1 rfl) rfl (Nat.add_zero _).symm) ?_
     refine jo (fun w => Tryz.zeroValue32 w) rfl (fun b_1 h9 => ?_)
     refine jy (us := #[_, _]) (cs' := [_, _]) (S' := [_, _]) 0 (fun w => Tryz.sizeOf32 w) rfl rfl rfl rfl rfl rfl rfl (jp (jj ?_))
     obtain ⟨o_2, h10, h11⟩ := bindO hm
     refine jF (ι := Unit) (fun l_3 => True) (fun l_3 => [(1, ptr b 0), (3, .int .i64 s.n3), (5, ptr b_1 0), (7, .slice qa1 na1 ca1), (8, .int .i64 (s0.carried.length : Int)), (9, .int .i64 s.t9), (24, .bool o_2)]) (fun l_3 => [(b_1, .cells #[.int .i64 t11.lo, .int .i64 t11.hi] 32 (0, 0)), (b, .cells #[.slice qa0 na0 ca0, .slice qa1 na1 ca1] 25 (0, 0))]) (fun l_3 => []) ?_ ?_
     ·replace hm := h10
      refine jh (jP 1 Tryz.runUnderlying32 rfl Tryz.sizeOf3 rfl rfl (jY 0 Tryz.isAgg3 rfl rfl rfl rfl (jc rfl rfl rfl (fun _ _ => K1 rfl rfl) (je rfl rfl ?_))))
      refine jJ 16 rfl (fun h12 => ?_) (fun h12 => ?_)
      ·replace hm := ifD h12 hm
       refine jb rfl rfl (jP 1 Tryz.runUnderlying32 rfl Tryz.sizeOf3 rfl rfl (jb rfl rfl (jY 0 Tryz.isAgg3 rfl rfl rfl rfl (jb rfl rfl (jc rfl rfl rfl (fun _ _ => ZF rfl rfl) (kx rfl rfl rfl (je rfl rfl ?_)))))))
       refine jJ 21 rfl (fun h13 => ?_) (fun h13 => ?_)
       ·replace hm := ifD h13 hm
        refine jb rfl rfl (je rfl rfl (jb rfl rfl (yY rfl rfl rfl (kx rfl rfl rfl (jv ?_)))))
        obtain rfl := sj hm
        exact jg () (trivial) (sE rfl) (fun w hh => hh)
       ·replace hm := ifE h13 hm
        refine g_k rfl rfl rfl rfl (g_k rfl rfl rfl rfl (j3 rfl rfl rfl (jv ?_)))
        obtain rfl := sj hm
        exact jg () (trivial) (sE rfl) (fun w hh => hh)
      ·replace hm := ifE h12 hm
       refine g_k rfl rfl rfl rfl (g_k rfl rfl rfl rfl (g_k rfl rfl rfl rfl (j3 rfl rfl rfl (je rfl rfl (g_k rfl rfl rfl rfl (g_k rfl rfl rfl rfl (j3 rfl rfl rfl ?_)))))))
       refine jv ?_
       obtain rfl := sj hm
       exact jg () (trivial) (sE rfl) (fun w hh => hh)
     ·intro l_3 hj
      replace hm := h11
      refine ja ?_
      refine js rfl (fun h14 => ?_) (fun h14 => ?_)
      ·replace hm := ifT (h14) hm
       refine jh (je rfl rfl (jP 1 Tryz.runUnderlying32 rfl Tryz.sizeOf3 rfl rfl (jY 0 Tryz.isAgg3 rfl rfl rfl rfl ?_)))
       obtain ⟨t28, h15, hm⟩ := bindO hm
       refine qs h15 rfl rfl rfl ?_
       obtain ⟨t29, h16, hm⟩ := bindO hm
       refine jc rfl rfl rfl (fun _ _ => Yn h16 rfl rfl) (jk rfl rfl (jv (jt ?_)))
       obtain rfl := sj hm
       exact jg () (trivial) (sE rfl) (hsE [1] [] 0 rfl rfl rfl rfl)
      ·replace hm := ifN h14 hm
       refine ju (jt ?_)
       obtain rfl := sj hm
       exact jg () (trivial) (sE rfl) (hsE [1] [] 0 rfl rfl rfl rfl)
    ·intro l_2 hj
     replace hm := h7
     refine ja (jh ?_)
     obtain ⟨t30, h17, hm⟩ := bindO hm
     refine qs h17 rfl rfl rfl (je rfl rfl (jv ?_))
     obtain rfl := sj hm
     refine ja ?_
     exact jA _ () rfl (trivial) (sE rfl) (fun w hh => hh)
   ·replace hm := ifE h5 hm
    refine jS (jl (jl (jG ?_)))
    obtain rfl := sj hm
    have hbo := h4 _ rfl
    subst hbo
    exact jg () (trivial) (sE rfl) (fun w hh => hh)
  ·intro l hj
   replace hm := h3
   refine ja (jj ?_)
   obtain ⟨o_3, h18, h19⟩ := bindO hm
   refine jF (ι := Unit) (fun l_4 => True) (fun l_4 => [(2, .bool o_3)]) (fun l_4 => [(b, .cells #[.slice qa0 na0 ca0, .slice qa1 na1 ca1] 25 (0, 0))]) (fun l_4 => []) ?_ ?_
   ·replace hm := h18
    refine jh (kD [_, _] 0 Tryz.isAgg25 Tryz.sizeOf25 rfl rfl rfl rfl ?_)
    obtain ⟨t32, h20, hm⟩ := bindO hm
    refine jd [] [] rfl rfl rfl rfl rfl rfl rfl Tryz.call30 (fun w hh => jaa s0 qa0 na0 ca0 qa1 na1 ca1 w (HV.callee (S0 := []) (vs0 := []) hh (roR hh 0 rfl (roR hh 1 rfl roN))) hna0 hqa0 hla0 hna1 hqa1 hla1 h20) (fun l_5 h21 => ?_)
    refine je rfl rfl ?_
    refine jJ 33 rfl (fun h22 => ?_) (fun h22 => ?_)
    ·replace hm := ifT (h22) hm
     refine g_k rfl rfl rfl rfl (g_k rfl rfl rfl rfl (g_k rfl rfl rfl rfl ?_))
     refine kM rfl rfl rfl rfl rfl ?_
     refine kM rfl rfl rfl rfl rfl ?_
     refine kM rfl rfl rfl rfl rfl ?_
     refine kM rfl rfl rfl rfl rfl ?_
     refine g_k rfl rfl rfl rfl (kx rfl rfl rfl (jk rfl rfl (jv ?_)))
     obtain rfl := sj hm
     exact jg () (trivial) (sE rfl) (fun w hh => hh)
    ·replace hm := ifN h22 hm
     refine jb rfl rfl (je rfl rfl (jb rfl rfl (jc rfl rfl rfl (fun _ _ => Qy rfl rfl) (jb rfl rfl (je rfl rfl ?_)))))
     refine jJ 36 rfl (fun h23 => ?_) (fun h23 => ?_)
     ·replace hm := ifD h23 hm
      refine jb rfl rfl (jP 1 Tryz.runUnderlying25 rfl Tryz.sizeOf23 rfl rfl (jb rfl rfl (jY 0 Tryz.isAgg23 rfl rfl rfl rfl (jb rfl rfl (jc rfl rfl rfl (fun w _ => jI hna1 (Tryz.runUnderlying23 w) rfl) (jb rfl rfl (jc rfl rfl rfl (fun _ _ => ZF rfl rfl) ?_)))))))
      refine jb rfl rfl (kx rfl rfl rfl (j3 rfl rfl rfl (jk rfl rfl (jv ?_))))
      obtain rfl := sj hm
      exact jg () (trivial) (sE rfl) (fun w hh => hh)
     ·replace hm := ifE h23 hm
      refine g_k rfl rfl rfl rfl (g_k rfl rfl rfl rfl (g_k rfl rfl rfl rfl (g_k rfl rfl rfl rfl (jb rfl rfl (j3 rfl rfl rfl (j3 rfl rfl rfl (jk rfl rfl ?_)))))))
      refine jv ?_
      obtain rfl := sj hm
      exact jg () (trivial) (sE rfl) (fun w hh => hh)
   ·intro l_4 hj
    replace hm := h19
    refine ja (jw ?_)
    obtain rfl := sj hm
    refine jm rfl (fun w hh => (.tmp rfl .nil)) (fun w hh => ⟨(), rfl, trivial, hh.se [] [] 2 rfl rfl rfl rfl⟩)
def qZ (l0 : (List Strip)) : Option (List Strip) :=
 (makec 56 (⟨0, (⟨0, 0⟩ : Span), (⟨0, 0⟩ : Span), (⟨0, 0⟩ : Span)⟩ : Strip) 0 (l0.length : Int)).bind fun t5 =>
 (appc 56 t5 l0).bind fun t7 =>
 some t7
theorem QF (l0 : (List Strip)) (qa0 : Option Addr) (na0 ca0 : Nat) (w : World) (hw : HV w (keys [] []) [] [] [(aB qa0, aO qa0, RSt.enc l0)] w) (hna0 : l0.length = na0) (hqa0 : AOK na0 qa0) (hla0 : na0 ≤ ca0) {res : (List Strip)} (hm : qZ l0 = some res) :
    Calls Tryz.prog 48 #[.slice qa0 na0 ca0] w (fun en w' => ∃ l : VL, en = .returned (slv l.q l.n l.cap) ∧ (VOK 7 l.n l.cap (RSt.enc res) l.sp l.q) ∧ HV w (keys [] []) [] [⟨85, RSt.enc res, l.sp, l.q, []⟩] [] w') := by
  unfold qZ at hm
  refine j5 Tryz.func48 rfl Tryz.ntmps48 rfl (e := [(0, _)]) rfl hw (jq (jc rfl rfl rfl (fun _ _ => kX rfl) (j0 (je rfl rfl (jc rfl rfl rfl (fun w _ => jI hna0 (Tryz.runUnderlying22 w) rfl) ?_)))))
  obtain ⟨t5, h2, hm⟩ := bindO hm
  refine ks RSt (⟨0, (⟨0, 0⟩ : Span), (⟨0, 0⟩ : Span), (⟨0, 0⟩ : Span)⟩ : Strip) h2 Tryz.underlying22 Zz rfl rfl rfl rfl rfl (fun L h3 => ?_)
  refine je rfl rfl ?_
  obtain ⟨t7, h4, hm⟩ := bindO hm
  refine yh RSt 0 h4 Tryz.underlying22 Zz rfl rfl rfl rfl rfl h3 rfl rfl hna0 hqa0 (fun w hh => (hh.seg 0 rfl)) rfl (fun L_1 h5 h5n => ?_)
  refine jT (S' := []) (vs' := [_]) [] [0] 0 rfl rfl rfl rfl (jk rfl rfl (jp (jw ?_)))
  obtain rfl := sj hm
  refine jm rfl (fun w hh => (.tmp rfl .nil)) (fun w hh => ⟨L_1, rfl, h5, hh.se [] [0] 1 rfl rfl rfl rfl⟩)
def qg (l0 : (List Span)) : Option (List Span) :=
 (makec 16 (⟨0, 0⟩ : Span) 0 (l0.length : Int)).bind fun t5 =>
 (appc 16 t5 l0).bind fun t7 =>
 some t7
theorem KS (l0 : (List Span)) (qa0 : Option Addr) (na0 ca0 : Nat) (w : World) (hw : HV w (keys [] []) [] [] [(aB qa0, aO qa0, RSp.enc l0)] w) (hna0 : l0.length = na0) (hqa0 : AOK na0 qa0) (hla0 : na0 ≤ ca0) {res : (List Span)} (hm : qg l0 = some res) :
    Calls Tryz.prog 49 #[.slice qa0 na0 ca0] w (fun en w' => ∃ l : VL, en = .returned (slv l.q l.n l.cap) ∧ (VOK 2 l.n l.cap (RSp.enc res) l.sp l.q) ∧ HV w (keys [] []) [] [⟨32, RSp.enc res, l.sp, l.q, []⟩] [] w') := by
  unfold qg at hm
  refine j5 Tryz.func49 rfl Tryz.ntmps49 rfl (e := [(0, _)]) rfl hw (jq (jc rfl rfl rfl (fun _ _ => kX rfl) (j0 (je rfl rfl (jc rfl rfl rfl (fun w _ => jI hna0 (Tryz.runUnderlying23 w) rfl) ?_)))))
  obtain ⟨t5, h2, hm⟩ := bindO hm
  refine ks RSp (⟨0, 0⟩ : Span) h2 Tryz.underlying23 Kw rfl rfl rfl rfl rfl (fun L h3 => ?_)
  refine je rfl rfl ?_
  obtain ⟨t7, h4, hm⟩ := bindO hm
  refine yh RSp 0 h4 Tryz.underlying23 Kw rfl rfl rfl rfl rfl h3 rfl rfl hna0 hqa0 (fun w hh => (hh.seg 0 rfl)) rfl (fun L_1 h5 h5n => ?_)
  refine jT (S' := []) (vs' := [_]) [] [0] 0 rfl rfl rfl rfl (jk rfl rfl (jp (jw ?_)))
  obtain rfl := sj hm
  refine jm rfl (fun w hh => (.tmp rfl .nil)) (fun w hh => ⟨L_1, rfl, h5, hh.se [] [0] 1 rfl rfl rfl rfl⟩)
def Yl (s0 : Scalps) : Option Scalps :=
 (qZ s0.strips).bind fun t5 =>
 (qg s0.carried).bind fun t8 =>
 some (⟨t5, t8⟩ : Scalps)
theorem YR (s0 : Scalps) (qa0 : Option Addr) (na0 ca0 : Nat) (qa1 : Option Addr) (na1 ca1 : Nat) (w : World) (hw : HV w (keys [] []) [] [] [(aB qa0, aO qa0, RSt.enc s0.strips), (aB qa1, aO qa1, RSp.enc s0.carried)] w) (hna0 : s0.strips.length = na0) (hqa0 : AOK na0 qa0) (hla0 : na0 ≤ ca0) (hna1 : s0.carried.length = na1) (hqa1 : AOK na1 qa1) (hla1 : na1 ≤ ca1) {res : Scalps} (hm : Yl s0 = some res) :
    Calls Tryz.prog 9 #[.agg #[.slice qa0 na0 ca0, .slice qa1 na1 ca1]] w (fun en w' => ∃ l : VL × VL, en = .returned (.agg #[slv l.1.q l.1.n l.1.cap, slv l.2.q l.2.n l.2.cap]) ∧ (VOK 7 l.1.n l.1.cap (RSt.enc res.strips) l.1.sp l.1.q ∧ VOK 2 l.2.n l.2.cap (RSp.enc res.carried) l.2.sp l.2.q) ∧ HV w (keys [] []) [] [⟨85, RSt.enc res.strips, l.1.sp, l.1.q, []⟩, ⟨32, RSp.enc res.carried, l.2.sp, l.2.q, []⟩] [] w') := by
  unfold Yl at hm
  refine j5 Tryz.func9 rfl Tryz.ntmps9 rfl (e := [(0, _)]) rfl hw (jq ?_)
  refine jC rfl rfl (fun b h3 => ?_)
  refine jo (fun w => Tryz.zeroValue25 w) rfl (fun b_1 h4 => ?_)
  refine jp (jj ?_)
  refine jX none (.free 0 (.hoist 1 (.free 3 (.hoist 4 (.one 2 (.one 5 (.free 6 (.one 7 .done)))))))) (HV _ _ [(b, .cells #[.slice qa0 na0 ca0, .slice qa1 na1 ca1] 25 (0, 0))] [] _) rfl (by decide +kernel) (fun w k hh => hh.draw k) (hsE [1] [] 0 rfl rfl rfl rfl) ?_
  refine k5 0 Tryz.runUnderlying25 Tryz.sizeOf22 rfl rfl rfl rfl (qY 0 Tryz.isAgg22 rfl rfl rfl rfl rfl (k5 1 Tryz.runUnderlying25 Tryz.sizeOf23 rfl rfl rfl rfl (qY 0 Tryz.isAgg23 rfl rfl rfl rfl rfl (jE rfl ?_))))
  obtain ⟨t5, h5, hm⟩ := bindO hm
  refine jd [] [] rfl rfl rfl rfl rfl rfl rfl Tryz.call48 (fun w hh => QF s0.strips qa0 na0 ca0 w (HV.callee (S0 := []) (vs0 := []) hh (roR hh 0 rfl roN)) hna0 hqa0 hla0 h5) (fun l h6 => ?_)
  have h7 := h6
  refine jT (S' := [_, _]) (vs' := [_]) [0, 1] [0] 0 rfl rfl rfl rfl (jr (hsE [1] [] 0 rfl rfl rfl rfl) (jE rfl ?_))
  obtain ⟨t8, h8, hm⟩ := bindO hm
  refine jd [] [] rfl rfl rfl rfl rfl rfl rfl Tryz.call49 (fun w hh => KS s0.carried qa1 na1 ca1 w (HV.callee (S0 := []) (vs0 := []) hh (roR hh 1 rfl roN)) hna1 hqa1 hla1 h8) (fun l_1 h9 => ?_)
  have h10 := h9
  refine jT (S' := [_, _]) (vs' := [_, _]) [0, 1] [0, 1] 0 rfl rfl rfl rfl (jr (hsE [1] [] 0 rfl rfl rfl rfl) (ji rfl rfl rfl rfl (fun _ _ => jz (vs := [(0, _), (1, _)]) (cells := [_, _]) rfl rfl) (jE rfl (jy (us := #[_, _]) (cs' := [_, _]) (S' := [_, _]) 0 (fun w => Tryz.sizeOf25 w) rfl rfl rfl rfl rfl rfl rfl (jr (hsE [1] [] 0 rfl rfl rfl rfl) (jM (ja ?_)))))))
  refine jw ?_
  obtain rfl := sj hm
  refine jm rfl (fun w hh => (.cell rfl (loadVar_agg (vs := [_, _]) (Tryz.isAgg25 _) (Tryz.sizeOf25 _) (hh.cells 0 rfl rfl)) .nil)) (fun w hh => ⟨(l, l_1), rfl, ⟨h7, h10⟩, hh.se [] [1, 0] 2 rfl rfl rfl rfl⟩)
structure y9 where
  t13 : Int
  out3_strips : (List Strip)
def y4 (s0 : Scalps) (s : y9) : Option (y9 ⊕ (List Strip)) :=
 if s.t13 < (s0.strips.length : Int) then
 ((ix s0.strips s.t13).bind fun t15 =>
 (appc 56 s.out3_strips [(⟨t15.tenant, (⟨t15.lay.lo, t15.lay.hi⟩ : Span), (⟨t15.seeded.lo, t15.seeded.hi⟩ : Span), (⟨t15.left.lo, t15.left.hi⟩ : Span)⟩ : Strip)]).bind fun t21 =>
 (addc s.t13 1).bind fun t23 =>
 some (.inl (⟨t23, t21⟩ : y9))) else
 (some (.inr s.out3_strips))
def Kn (s0 : Scalps) : Option Scalps :=
 (qg s0.carried).bind fun t8 =>
 (iterM FU (y4 s0) (⟨0, []⟩ : y9)).bind fun o =>
 some (⟨o, t8⟩ : Scalps)
theorem Qh (s0 : Scalps) (qa0 : Option Addr) (na0 ca0 : Nat) (qa1 : Option Addr) (na1 ca1 : Nat) (w : World) (hw : HV w (keys [] []) [] [] [(aB qa0, aO qa0, RSt.enc s0.strips), (aB qa1, aO qa1, RSp.enc s0.carried)] w) (hna0 : s0.strips.length = na0) (hqa0 : AOK na0 qa0) (hla0 : na0 ≤ ca0) (hna1 : s0.carried.length = na1) (hqa1 : AOK na1 qa1) (hla1 : na1 ≤ ca1) {res : Scalps} (hm : Kn s0 = some res) :
    Calls Tryz.prog 10 #[.agg #[.slice qa0 na0 ca0, .slice qa1 na1 ca1]] w (fun en w' => ∃ l : VL × VL, en = .returned (.agg #[slv l.1.q l.1.n l.1.cap, slv l.2.q l.2.n l.2.cap]) ∧ (VOK 7 l.1.n l.1.cap (RSt.enc res.strips) l.1.sp l.1.q ∧ VOK 2 l.2.n l.2.cap (RSp.enc res.carried) l.2.sp l.2.q) ∧ HV w (keys [] []) [] [⟨98, RSt.enc res.strips, l.1.sp, l.1.q, []⟩, ⟨32, RSp.enc res.carried, l.2.sp, l.2.q, []⟩] [] w') := by
  unfold Kn at hm
  refine j5 Tryz.func10 rfl Tryz.ntmps10 rfl (e := [(0, _)]) rfl hw (jq ?_)
  refine jC rfl rfl (fun b h3 => ?_)
  refine jo (fun w => Tryz.zeroValue38 w) rfl (fun b_1 h4 => ?_)
  refine j0 (jP 1 Tryz.runUnderlying25 rfl Tryz.sizeOf23 rfl rfl (jY 1 Tryz.isAgg23 rfl rfl rfl rfl ?_))
  obtain ⟨t8, h5, hm⟩ := bindO hm
  refine jd [] [] rfl rfl rfl rfl rfl rfl rfl Tryz.call49 (fun w hh => KS s0.carried qa1 na1 ca1 w (HV.callee (S0 := []) (vs0 := []) hh (roR hh 1 rfl roN)) hna1 hqa1 hla1 h5) (fun l h6 => ?_)
  have h7 := h6
  refine jT (S' := [_, _]) (vs' := [_]) [0, 1] [0] 0 rfl rfl rfl rfl (jc rfl rfl rfl (fun _ _ => jz (vs := [(1, _)]) (cells := [_, _]) rfl rfl) ?_)
  refine jo (fun w => Tryz.zeroValue38 w) rfl (fun b_2 h8 => ?_)
  refine jy (us := #[_, _]) (cs' := [_, _]) (S' := [_, _, _]) 0 (fun w => Tryz.sizeOf38 w) rfl rfl rfl rfl rfl rfl rfl (jp (jj (jq (jP 0 Tryz.runUnderlying25 rfl Tryz.sizeOf22 rfl rfl (jY 2 Tryz.isAgg22 rfl rfl rfl rfl (jc rfl rfl rfl (fun w _ => jI hna0 (Tryz.runUnderlying22 w) rfl) (je rfl rfl ?_)))))))
  refine jp (kC 98 ?_)
  obtain ⟨o, h9, h10⟩ := bindO hm
  refine jF (ι := VL) (fun l_1 => VOK 7 l_1.n l_1.cap (RSt.enc o) l_1.sp l_1.q) (fun l_1 => [(2, ptr b_1 0), (3, ptr b_2 0)]) (fun l_1 => [(b_2, .cells #[slv l_1.q l_1.n l_1.cap, slv l.q l.n l.cap] 38 (0, 0)), (b_1, .cells #[slv none 0 0, slv none 0 0] 38 (0, 0)), (b, .cells #[.slice qa0 na0 ca0, .slice qa1 na1 ca1] 25 (0, 0))]) (fun l_1 => [⟨98, RSt.enc o, l_1.sp, l_1.q, []⟩, ⟨32, RSp.enc t8, l.sp, l.q, []⟩]) ?_ ?_
  ·replace hm := h9
   refine jn ?_
   refine jL (ι := VL) hm (fun s l_2 => VOK 7 l_2.n l_2.cap (RSt.enc s.out3_strips) l_2.sp l_2.q) (fun s l_2 => [(2, ptr b_1 0), (3, ptr b_2 0), (11, .slice qa0 na0 ca0), (12, .int .i64 (s0.strips.length : Int)), (13, .int .i64 s.t13)]) (fun s l_2 => [(b_2, .cells #[slv l_2.q l_2.n l_2.cap, slv l.q l.n l.cap] 38 (0, 0)), (b_1, .cells #[slv none 0 0, slv none 0 0] 38 (0, 0)), (b, .cells #[.slice qa0 na0 ca0, .slice qa1 na1 ca1] 25 (0, 0))]) (fun s l_2 => [⟨98, RSt.enc s.out3_strips, l_2.sp, l_2.q, []⟩, ⟨32, RSp.enc t8, l.sp, l.q, []⟩]) ⟨none, 0, 0, []⟩ (VOK.nil) (sE rfl) (fun w hh => hh) (fun s l_2 r hpl hm h13 => ?_)
   have h12 := hpl
   unfold y4 at hm
   refine jq (yY rfl rfl rfl (jp (jj ?_)))
   refine js rfl (fun h14 => ?_) (fun h14 => ?_)
   ·replace hm := ifD h14 hm
    refine ju (ja (jj (jn (jq ?_))))
    obtain ⟨t15, h15, hm⟩ := bindO hm
    refine jc rfl rfl rfl (fun w _ => ki h15 (Tryz.runUnderlying22 w) (Tryz.sizeOf85 w) rfl rfl hna0 hqa0) ?_
    refine jc rfl rfl rfl (fun w hh => kt RSt 0 [.int .i64 t15.tenant, .int .i64 t15.lay.lo, .int .i64 t15.lay.hi, .int .i64 t15.seeded.lo, .int .i64 t15.seeded.hi, .int .i64 t15.left.lo, .int .i64 t15.left.hi] h15 (Tryz.isAgg85 w) (Tryz.sizeOf85 w) rfl (hh.seg 0 rfl) rfl (Nat.add_zero _).symm) ?_
    refine jo (fun w => Tryz.zeroValue85 w) rfl (fun b_3 h16 => ?_)
    refine jy (us := #[_, _, _, _, _, _, _]) (cs' := [_, _, _, _, _, _, _]) (S' := [_, _, _, _]) 0 (fun w => Tryz.sizeOf85 w) rfl rfl rfl rfl rfl rfl rfl (jp (jh (jP 0 Tryz.runUnderlying38 rfl Tryz.sizeOf36 rfl rfl (jY 1 Tryz.isAgg36 rfl rfl rfl rfl (kD [_, _, _, _, _, _, _] 0 Tryz.isAgg85 Tryz.sizeOf85 rfl rfl rfl rfl ?_)))))
    refine kG RSt [(⟨t15.tenant, (⟨t15.lay.lo, t15.lay.hi⟩ : Span), (⟨t15.seeded.lo, t15.seeded.hi⟩ : Span), (⟨t15.left.lo, t15.left.hi⟩ : Span)⟩ : Strip)] (ps := [(0, _)]) (cells := [_, _, _, _, _, _, _]) (fun w => Tryz.runUnderlying36 w) (fun w => Tryz.sizeOf98 w) (fun w => Tryz.zeroValue98 w) rfl rfl rfl rfl rfl rfl rfl rfl (fun L h17 => ?_)
    obtain ⟨t21, h18, hm⟩ := bindO hm
    refine yh RSt 1 h18 Tryz.underlying36 ja1 rfl rfl rfl rfl rfl h12 rfl rfl (vlen RSt h17 rfl) (AOK.q (vne h17)) (fun w hh => (hh.vsegA 0 rfl h17)) rfl (fun L_1 h19 h19n => ?_)
    refine jT (S' := [_, _, _, _]) (vs' := [_, _, _]) [0, 1, 2, 3] [0, 1, 2] 0 rfl rfl rfl rfl (jP 0 Tryz.runUnderlying38 rfl Tryz.sizeOf36 rfl rfl (kY (cs' := #[_, _]) (S' := [_, _, _, _]) 1 (fun w => Tryz.sizeOf36 w) rfl rfl rfl rfl rfl rfl rfl (jv (jt (ja (jh ?_))))))
    obtain ⟨t23, h20, hm⟩ := bindO hm
    refine qs h20 rfl rfl rfl (je rfl rfl (jv ?_))
    obtain rfl := sj hm
    refine ja ?_
    exact jA _ L_1 rfl (h19) (sE rfl) (hsE [1, 2, 3] [1, 2] 0 rfl rfl rfl rfl)
   ·replace hm := ifE h14 hm
    refine jS (jl (jl (jG ?_)))
    obtain rfl := sj hm
    have hbo := h13 _ rfl
    subst hbo
    exact jg l_2 (h12) (sE rfl) (fun w hh => hh)
  ·intro l_1 hj
   have h11 := hj
   replace hm := h10
   refine ja (jq (kD [_, _] 0 Tryz.isAgg38 Tryz.sizeOf38 rfl rfl rfl rfl (jy (us := #[_, _]) (cs' := [_, _]) (S' := [_, _, _]) 1 (fun w => Tryz.sizeOf38 w) rfl rfl rfl rfl rfl rfl rfl (jp (jw ?_)))))
   obtain rfl := sj hm
   refine jm rfl (fun w hh => (.cell rfl (loadVar_agg (vs := [_, _]) (Tryz.isAgg38 _) (Tryz.sizeOf38 _) (hh.cells 1 rfl rfl)) .nil)) (fun w hh => ⟨(l_1, l), rfl, ⟨h11, h7⟩, hh.se [] [0, 1] 2 rfl rfl rfl rfl⟩)
def KA (n0 : Int) (lo1 : Int) (hi2 : Int) : Option Bool :=
 (if n0 < lo1 then
 (some true) else
 (some (decide (hi2 < n0)))).bind fun o =>
 some o
theorem Yi (n0 : Int) (lo1 : Int) (hi2 : Int)  (w : World) (hw : HV w (keys [] []) [] [] [] w)  {res : Bool} (hm : KA n0 lo1 hi2 = some res) :
    Calls Tryz.prog 50 #[.int .i64 n0, .int .i64 lo1, .int .i64 hi2] w (fun en w' => ∃ l : Unit, en = .returned (.bool res) ∧ (True) ∧ HV w (keys [] []) [] [] [] w') := by
  unfold KA at hm
  refine j5 Tryz.func50 rfl Tryz.ntmps50 rfl (e := [(0, _), (1, _), (2, _)]) rfl hw (jq (jk rfl rfl (jp (jj ?_))))
  obtain ⟨o, h1, h2⟩ := bindO hm
  refine jF (ι := Unit) (fun l => True) (fun l => [(6, .bool o)]) (fun l => []) (fun l => []) ?_ ?_
  ·replace hm := h1
   refine jh (je rfl rfl (je rfl rfl (yY rfl rfl rfl (je rfl rfl ?_))))
   refine jJ 10 rfl (fun h3 => ?_) (fun h3 => ?_)
   ·replace hm := ifD h3 hm
    refine g_k rfl rfl rfl rfl (g_k rfl rfl rfl rfl (g_k rfl rfl rfl rfl (kx rfl rfl rfl (jk rfl rfl (jv ?_)))))
    obtain rfl := sj hm
    exact jg () (trivial) (sE rfl) (fun w hh => hh)
   ·replace hm := ifE h3 hm
    refine jb rfl rfl (je rfl rfl (jb rfl rfl (je rfl rfl (jb rfl rfl (jc rfl rfl rfl (fun _ _ => Qy rfl rfl) (j3 rfl rfl rfl (jk rfl rfl ?_)))))))
    refine jv ?_
    obtain rfl := sj hm
    exact jg () (trivial) (sE rfl) (fun w hh => hh)
  ·intro l hj
   replace hm := h2
   refine ja (jw ?_)
   obtain rfl := sj hm
   refine jm rfl (fun w hh => (.tmp rfl .nil)) (fun w hh => ⟨(), rfl, trivial, hh⟩)
def q5 (x0 : Span) : Option Bool :=
 ((KA x0.lo 0 30).bind fun t5 =>
 if t5 = true then
 (some true) else
 ((KA x0.hi 0 30).bind fun t9 =>
 some t9)).bind fun o =>
 some o
theorem KH (x0 : Span)  (w : World) (hw : HV w (keys [] []) [] [] [] w)  {res : Bool} (hm : q5 x0 = some res) :
    Calls Tryz.prog 51 #[.agg #[.int .i64 x0.lo, .int .i64 x0.hi]] w (fun en w' => ∃ l : Unit, en = .returned (.bool res) ∧ (True) ∧ HV w (keys [] []) [] [] [] w') := by
  unfold q5 at hm
  refine j5 Tryz.func51 rfl Tryz.ntmps51 rfl (e := [(0, _)]) rfl hw (jq ?_)
  refine jC rfl rfl (fun b h1 => ?_)
  refine jk rfl rfl (jp (jj ?_))
  obtain ⟨o, h2, h3⟩ := bindO hm
  refine jF (ι := Unit) (fun l => True) (fun l => [(2, .bool o)]) (fun l => [(b, .cells #[.int .i64 x0.lo, .int .i64 x0.hi] 32 (0, 0))]) (fun l => []) ?_ ?_
  ·replace hm := h2
   refine jh (jP 0 Tryz.runUnderlying32 rfl Tryz.sizeOf3 rfl rfl (jY 0 Tryz.isAgg3 rfl rfl rfl rfl ?_))
   obtain ⟨t5, h4, hm⟩ := bindO hm
   refine jd [] [] rfl rfl rfl rfl rfl rfl rfl Tryz.call50 (fun w hh => Yi x0.lo 0 30 w (HV.callee (S0 := []) (vs0 := []) hh roN)  h4) (fun l_1 h5 => ?_)
   refine je rfl rfl ?_
   refine jJ 6 rfl (fun h6 => ?_) (fun h6 => ?_)
   ·replace hm := ifT (h6) hm
    refine g_k rfl rfl rfl rfl (g_k rfl rfl rfl rfl (g_k rfl rfl rfl rfl (kx rfl rfl rfl (jk rfl rfl (jv ?_)))))
    obtain rfl := sj hm
    exact jg () (trivial) (sE rfl) (fun w hh => hh)
   ·replace hm := ifN h6 hm
    refine jb rfl rfl (jP 1 Tryz.runUnderlying32 rfl Tryz.sizeOf3 rfl rfl (jb rfl rfl (jY 0 Tryz.isAgg3 rfl rfl rfl rfl (jb rfl rfl ?_))))
    obtain ⟨t9, h7, hm⟩ := bindO hm
    refine jd [] [] rfl rfl rfl rfl rfl rfl rfl Tryz.call50 (fun w hh => Yi x0.hi 0 30 w (HV.callee (S0 := []) (vs0 := []) hh roN)  h7) (fun l_2 h8 => ?_)
    refine j3 rfl rfl rfl (jk rfl rfl (jv ?_))
    obtain rfl := sj hm
    exact jg () (trivial) (sE rfl) (fun w hh => hh)
  ·intro l hj
   replace hm := h3
   refine ja (jw ?_)
   obtain rfl := sj hm
   refine jm rfl (fun w hh => (.tmp rfl .nil)) (fun w hh => ⟨(), rfl, trivial, hh.se [] [] 0 rfl rfl rfl rfl⟩)
def zA (x0 : Span) : Option Bool :=
 some (decide (x0.hi < x0.lo))
theorem Qf (x0 : Span)  (w : World) (hw : HV w (keys [] []) [] [] [] w)  {res : Bool} (hm : zA x0 = some res) :
    Calls Tryz.prog 52 #[.agg #[.int .i64 x0.lo, .int .i64 x0.hi]] w (fun en w' => ∃ l : Unit, en = .returned (.bool res) ∧ (True) ∧ HV w (keys [] []) [] [] [] w') := by
  unfold zA at hm
  refine j5 Tryz.func52 rfl Tryz.ntmps52 rfl (e := [(0, _)]) rfl hw (jq ?_)
  refine jC rfl rfl (fun b h1 => ?_)
  refine jk rfl rfl (j0 (jP 0 Tryz.runUnderlying32 rfl Tryz.sizeOf3 rfl rfl (jY 0 Tryz.isAgg3 rfl rfl rfl rfl (jP 1 Tryz.runUnderlying32 rfl Tryz.sizeOf3 rfl rfl (jY 0 Tryz.isAgg3 rfl rfl rfl rfl (jc rfl rfl rfl (fun _ _ => Qy rfl rfl) (jk rfl rfl ?_)))))))
  refine jp (jw ?_)
  obtain rfl := sj hm
  refine jm rfl (fun w hh => (.tmp rfl .nil)) (fun w hh => ⟨(), rfl, trivial, hh.se [] [] 0 rfl rfl rfl rfl⟩)
structure Q4 where
  limit3 : Bool
  order4 : Bool
structure JO where
  limit3 : Bool
  order4 : Bool
  t7 : Int
structure Q6 where
  limit3 : Bool
  order4 : Bool
def yR (s0 : Scalps) (s : JO) : Option (JO ⊕ Q4) :=
 if s.t7 < (s0.carried.length : Int) then
 (((if s.limit3 = true then
 (some true) else
 ((ix s0.carried s.t7).bind fun t32 =>
 (q5 (⟨t32.lo, t32.hi⟩ : Span)).bind fun t34 =>
 some t34)).bind fun o_3 =>
 if s.order4 = true then
 (some (⟨o_3, true⟩ : Q6)) else
 ((ix s0.carried s.t7).bind fun t41 =>
 (zA t41).bind fun t43 =>
 some (⟨o_3, t43⟩ : Q6))).bind fun o_2 =>
 (addc s.t7 1).bind fun t26 =>
 some (.inl (⟨o_2.limit3, o_2.order4, t26⟩ : JO))) else
 (some (.inr (⟨s.limit3, s.order4⟩ : Q4)))
structure KY where
  limit3 : Bool
  order4 : Bool
  missing5 : Bool
  wrong6 : Bool
structure qu where
  limit3 : Bool
  order4 : Bool
  missing5 : Bool
  wrong6 : Bool
  k8 : Int
structure zP where
  limit3 : Bool
  order4 : Bool
  missing5 : Bool
  wrong6 : Bool
def yW (s0 : Scalps) (s_1 : qu) : Option (qu ⊕ KY) :=
 if s_1.k8 < (s0.strips.length : Int) then
 (((ix s0.strips s_1.k8).bind fun t55 =>
 (if s_1.limit3 = true then
 (some true) else
 ((q5 (⟨t55.lay.lo, t55.lay.hi⟩ : Span)).bind fun t61 =>
 if t61 = true then
 (some true) else
 ((q5 (⟨t55.seeded.lo, t55.seeded.hi⟩ : Span)).bind fun t66 =>
 if t66 = true then
 (some true) else
 ((q5 (⟨t55.left.lo, t55.left.hi⟩ : Span)).bind fun t71 =>
 some t71)))).bind fun o_6 =>
 (if s_1.order4 = true then
 (some true) else
 ((zA (⟨t55.lay.lo, t55.lay.hi⟩ : Span)).bind fun t77 =>
 if t77 = true then
 (some true) else
 ((zA (⟨t55.seeded.lo, t55.seeded.hi⟩ : Span)).bind fun t82 =>
 if t82 = true then
 (some true) else
 ((zA (⟨t55.left.lo, t55.left.hi⟩ : Span)).bind fun t87 =>
 some t87)))).bind fun o_7 =>
 (if s_1.missing5 = true then
 (some true) else
 ((subc (s0.carried.length : Int) 1).bind fun t96 =>
 (KA t55.tenant 0 t96).bind fun t97 =>
 some t97)).bind fun o_8 =>
 if s_1.wrong6 = true then
 (some (⟨o_6, o_7, o_8, true⟩ : zP)) else
 (if (!o_6) = true then
 ((addc t55.lay.hi t55.seeded.hi).bind fun t110 =>
 some (⟨o_6, o_7, o_8, (decide (t110 < t55.left.lo))⟩ : zP)) else
 (some (⟨o_6, o_7, o_8, false⟩ : zP)))).bind fun o_5 =>
 (addc s_1.k8 1).bind fun t51 =>
 some (.inl (⟨o_5.limit3, o_5.order4, o_5.missing5, o_5.wrong6, t51⟩ : qu))) else
 (some (.inr (⟨s_1.limit3, s_1.order4, s_1.missing5, s_1.wrong6⟩ : KY)))
def K6 (s0 : Scalps) : Option Int :=
 ((KA (s0.strips.length : Int) 1 6).bind fun t13 =>
 if t13 = true then
 (some true) else
 ((KA (s0.carried.length : Int) 1 5).bind fun t18 =>
 some t18)).bind fun o =>
 if o = true then
 (some 2) else
 ((iterM FU (yR s0) (⟨false, false, 0⟩ : JO)).bind fun o_1 =>
 (iterM FU (yW s0) (⟨o_1.limit3, o_1.order4, false, false, 0⟩ : qu)).bind fun o_4 =>
 if o_4.limit3 = true then
 (some 3) else
 (if o_4.missing5 = true then
 (some 1) else
 (if o_4.order4 = true then
 (some 4) else
 (if o_4.wrong6 = true then
 (some 8) else
 (some 0)))))
theorem jaf (s0 : Scalps) (qa0 : Option Addr) (na0 ca0 : Nat) (qa1 : Option Addr) (na1 ca1 : Nat) (w : World) (hw : HV w (keys [] []) [] [] [(aB qa0, aO qa0, RSt.enc s0.strips), (aB qa1, aO qa1, RSp.enc s0.carried)] w) (hna0 : s0.strips.length = na0) (hqa0 : AOK na0 qa0) (hla0 : na0 ≤ ca0) (hna1 : s0.carried.length = na1) (hqa1 : AOK na1 qa1) (hla1 : na1 ≤ ca1) {res : Int} (hm : K6 s0 = some res) :
    Calls Tryz.prog 12 #[.agg #[.slice qa0 na0 ca0, .slice qa1 na1 ca1]] w (fun en w' => ∃ l : Unit, en = .returned (.int .i64 res) ∧ (True) ∧ HV w (keys [] []) [] [] [] w') := by
  unfold K6 at hm
  refine j5 Tryz.func12 rfl Tryz.ntmps12 rfl (e := [(0, _)]) rfl hw (jq ?_)
  refine jC rfl rfl (fun b h1 => ?_)
  refine jk rfl rfl (jp (jj (jj ?_)))
  obtain ⟨o, h2, h3⟩ := bindO hm
  refine jF (ι := Unit) (fun l => True) (fun l => [(1, ptr b 0), (19, .bool o)]) (fun l => [(b, .cells #[.slice qa0 na0 ca0, .slice qa1 na1 ca1] 38 (0, 0))]) (fun l => []) ?_ ?_
  ·replace hm := h2
   refine jh (jP 0 Tryz.runUnderlying38 rfl Tryz.sizeOf36 rfl rfl (jY 0 Tryz.isAgg36 rfl rfl rfl rfl (jc rfl rfl rfl (fun w _ => jI hna0 (Tryz.runUnderlying36 w) rfl) ?_)))
   obtain ⟨t13, h4, hm⟩ := bindO hm
   refine jd [] [] rfl rfl rfl rfl rfl rfl rfl Tryz.call50 (fun w hh => Yi (s0.strips.length : Int) 1 6 w (HV.callee (S0 := []) (vs0 := []) hh roN)  h4) (fun l_1 h5 => ?_)
   refine je rfl rfl ?_
   refine jJ 14 rfl (fun h6 => ?_) (fun h6 => ?_)
   ·replace hm := ifT (h6) hm
    refine g_k rfl rfl rfl rfl (g_k rfl rfl rfl rfl (g_k rfl rfl rfl rfl (g_k rfl rfl rfl rfl (kx rfl rfl rfl (jv ?_)))))
    obtain rfl := sj hm
    exact jg () (trivial) (sE rfl) (fun w hh => hh)
   ·replace hm := ifN h6 hm
    refine jb rfl rfl (jP 1 Tryz.runUnderlying38 rfl Tryz.sizeOf23 rfl rfl (jb rfl rfl (jY 0 Tryz.isAgg23 rfl rfl rfl rfl (jb rfl rfl (jc rfl rfl rfl (fun w _ => jI hna1 (Tryz.runUnderlying23 w) rfl) (jb rfl rfl ?_))))))
    obtain ⟨t18, h7, hm⟩ := bindO hm
    refine jd [] [] rfl rfl rfl rfl rfl rfl rfl Tryz.call50 (fun w hh => Yi (s0.carried.length : Int) 1 5 w (HV.callee (S0 := []) (vs0 := []) hh roN)  h7) (fun l_2 h8 => ?_)
    refine j3 rfl rfl rfl (jv ?_)
    obtain rfl := sj hm
    exact jg () (trivial) (sE rfl) (fun w hh => hh)
  ·intro l hj
   replace hm := h3
   refine ja ?_
   refine js rfl (fun h9 => ?_) (fun h9 => ?_)
   ·replace hm := ifT (h9) hm
    refine jq (jk rfl rfl (jp (jw (jf ?_))))
    obtain rfl := sj hm
    refine jm rfl (fun w hh => (.tmp rfl .nil)) (fun w hh => ⟨(), rfl, trivial, hh.se [] [] 2 rfl rfl rfl rfl⟩)
   ·replace hm := ifN h9 hm
    refine ju (ja (jq (jk rfl rfl (jk rfl rfl (jk rfl rfl (jk rfl rfl (jp ?_)))))))
    refine jj (jq (jk rfl rfl (jp ?_)))
    obtain ⟨o_1, h10, h11⟩ := bindO hm
    refine jF (ι := Unit) (fun l_3 => True) (fun l_3 => [(1, ptr b 0), (3, .bool o_1.limit3), (4, .bool o_1.order4), (5, .bool false), (6, .bool false)]) (fun l_3 => [(b, .cells #[.slice qa0 na0 ca0, .slice qa1 na1 ca1] 38 (0, 0))]) (fun l_3 => []) ?_ ?_
    ·replace hm := h10
     refine jn ?_
     refine jL (ι := Unit) hm (fun s l_4 => True) (fun s l_4 => [(1, ptr b 0), (3, .bool s.limit3), (4, .bool s.order4), (5, .bool false), (6, .bool false), (7, .int .i64 s.t7)]) (fun s l_4 => [(b, .cells #[.slice qa0 na0 ca0, .slice qa1 na1 ca1] 38 (0, 0))]) (fun s l_4 => []) () (trivial) (sE rfl) (fun w hh => hh) (fun s l_4 r hpl hm h12 => ?_)
     unfold yR at hm
     refine jj (jq (je rfl rfl (jP 1 Tryz.runUnderlying38 rfl Tryz.sizeOf23 rfl rfl (jY 0 Tryz.isAgg23 rfl rfl rfl rfl (jc rfl rfl rfl (fun w _ => jI hna1 (Tryz.runUnderlying23 w) rfl) (yY rfl rfl rfl (jp ?_)))))))
     refine js rfl (fun h13 => ?_) (fun h13 => ?_)
     ·replace hm := ifD h13 hm
      refine ju (ja (jj ?_))
      obtain ⟨o_2, h14, h15⟩ := bindO hm
      refine jF (ι := Unit) (fun l_5 => True) (fun l_5 => [(1, ptr b 0), (3, .bool o_2.limit3), (4, .bool o_2.order4), (5, .bool false), (6, .bool false), (7, .int .i64 s.t7)]) (fun l_5 => [(b, .cells #[.slice qa0 na0 ca0, .slice qa1 na1 ca1] 38 (0, 0))]) (fun l_5 => []) ?_ ?_
      ·replace hm := h14
       refine jn (jj ?_)
       obtain ⟨o_3, h16, h17⟩ := bindO hm
       refine jF (ι := Unit) (fun l_6 => True) (fun l_6 => [(1, ptr b 0), (3, .bool o_3), (4, .bool s.order4), (5, .bool false), (6, .bool false), (7, .int .i64 s.t7)]) (fun l_6 => [(b, .cells #[.slice qa0 na0 ca0, .slice qa1 na1 ca1] 38 (0, 0))]) (fun l_6 => []) ?_ ?_
       ·replace hm := h16
        refine jh (je rfl rfl (je rfl rfl ?_))
        refine jJ 28 rfl (fun h18 => ?_) (fun h18 => ?_)
        ·replace hm := ifT (h18) hm
         refine g_k rfl rfl rfl rfl (g_k rfl rfl rfl rfl (g_k rfl rfl rfl rfl (g_k rfl rfl rfl rfl (g_k rfl rfl rfl rfl (g_k rfl rfl rfl rfl (kx rfl rfl rfl (jk rfl rfl ?_)))))))
         refine jv ?_
         obtain rfl := sj hm
         exact jg () (trivial) (sE rfl) (fun w hh => hh)
        ·replace hm := ifN h18 hm
         refine jb rfl rfl (jP 1 Tryz.runUnderlying38 rfl Tryz.sizeOf23 rfl rfl (jb rfl rfl (jY 0 Tryz.isAgg23 rfl rfl rfl rfl (jb rfl rfl (je rfl rfl (jb rfl rfl ?_))))))
         obtain ⟨t32, h19, hm⟩ := bindO hm
         refine jc rfl rfl rfl (fun w _ => ki h19 (Tryz.runUnderlying23 w) (Tryz.sizeOf32 w) rfl rfl hna1 hqa1) (jb rfl rfl ?_)
         refine jc rfl rfl rfl (fun w hh => kt RSp 0 [.int .i64 t32.lo, .int .i64 t32.hi] h19 (Tryz.isAgg32 w) (Tryz.sizeOf32 w) rfl (hh.seg 1 rfl) rfl (Nat.add_zero _).symm) ?_
         refine jb rfl rfl ?_
         obtain ⟨t34, h20, hm⟩ := bindO hm
         refine jd [] [] rfl rfl rfl rfl rfl rfl rfl Tryz.call51 (fun w hh => KH (⟨t32.lo, t32.hi⟩ : Span) w (HV.callee (S0 := []) (vs0 := []) hh roN)  h20) (fun l_7 h21 => ?_)
         refine j3 rfl rfl rfl (jk rfl rfl (jv ?_))
         obtain rfl := sj hm
         exact jg () (trivial) (sE rfl) (fun w hh => hh)
       ·intro l_6 hj
        replace hm := h17
        refine ja (jh (je rfl rfl (je rfl rfl ?_)))
        refine jJ 37 rfl (fun h22 => ?_) (fun h22 => ?_)
        ·replace hm := ifT (h22) hm
         refine g_k rfl rfl rfl rfl (g_k rfl rfl rfl rfl (g_k rfl rfl rfl rfl (g_k rfl rfl rfl rfl (g_k rfl rfl rfl rfl (g_k rfl rfl rfl rfl (kx rfl rfl rfl (jk rfl rfl ?_)))))))
         refine jv (jt ?_)
         obtain rfl := sj hm
         exact jg () (trivial) (sE rfl) (fun w hh => hh)
        ·replace hm := ifN h22 hm
         refine jb rfl rfl (jP 1 Tryz.runUnderlying38 rfl Tryz.sizeOf23 rfl rfl (jb rfl rfl (jY 0 Tryz.isAgg23 rfl rfl rfl rfl (jb rfl rfl (je rfl rfl (jb rfl rfl ?_))))))
         obtain ⟨t41, h23, hm⟩ := bindO hm
         refine jc rfl rfl rfl (fun w _ => ki h23 (Tryz.runUnderlying23 w) (Tryz.sizeOf32 w) rfl rfl hna1 hqa1) (jb rfl rfl ?_)
         refine jc rfl rfl rfl (fun w hh => kt RSp 0 [.int .i64 t41.lo, .int .i64 t41.hi] h23 (Tryz.isAgg32 w) (Tryz.sizeOf32 w) rfl (hh.seg 1 rfl) rfl (Nat.add_zero _).symm) ?_
         refine jb rfl rfl ?_
         obtain ⟨t43, h24, hm⟩ := bindO hm
         refine jd [] [] rfl rfl rfl rfl rfl rfl rfl Tryz.call52 (fun w hh => Qf t41 w (HV.callee (S0 := []) (vs0 := []) hh roN)  h24) (fun l_8 h25 => ?_)
         refine j3 rfl rfl rfl (jk rfl rfl (jv (jt ?_)))
         obtain rfl := sj hm
         exact jg () (trivial) (sE rfl) (fun w hh => hh)
      ·intro l_5 hj
       replace hm := h15
       refine ja (jh (je rfl rfl ?_))
       obtain ⟨t26, h26, hm⟩ := bindO hm
       refine qs h26 rfl rfl rfl (jk rfl rfl (jv ?_))
       obtain rfl := sj hm
       refine ja ?_
       exact jA _ () rfl (trivial) (sE rfl) (fun w hh => hh)
     ·replace hm := ifE h13 hm
      refine jS (jl (jl (jG ?_)))
      obtain rfl := sj hm
      have hbo := h12 _ rfl
      subst hbo
      exact jg () (trivial) (sE rfl) (fun w hh => hh)
    ·intro l_3 hj
     replace hm := h11
     refine ja (jj (jq (jk rfl rfl (jp ?_))))
     obtain ⟨o_4, h27, h28⟩ := bindO hm
     refine jF (ι := Unit) (fun l_9 => True) (fun l_9 => [(3, .bool o_4.limit3), (4, .bool o_4.order4), (5, .bool o_4.missing5), (6, .bool o_4.wrong6)]) (fun l_9 => [(b, .cells #[.slice qa0 na0 ca0, .slice qa1 na1 ca1] 38 (0, 0))]) (fun l_9 => []) ?_ ?_
     ·replace hm := h27
      refine jn ?_
      refine jL (ι := Unit) hm (fun s_1 l_10 => True) (fun s_1 l_10 => [(1, ptr b 0), (3, .bool s_1.limit3), (4, .bool s_1.order4), (5, .bool s_1.missing5), (6, .bool s_1.wrong6), (8, .int .i64 s_1.k8)]) (fun s_1 l_10 => [(b, .cells #[.slice qa0 na0 ca0, .slice qa1 na1 ca1] 38 (0, 0))]) (fun s_1 l_10 => []) () (trivial) (sE rfl) (fun w hh => hh) (fun s_1 l_10 r_1 hpl hm h29 => ?_)
      unfold yW at hm
      refine jj (jq (je rfl rfl (jP 0 Tryz.runUnderlying38 rfl Tryz.sizeOf36 rfl rfl (jY 0 Tryz.isAgg36 rfl rfl rfl rfl (jc rfl rfl rfl (fun w _ => jI hna0 (Tryz.runUnderlying36 w) rfl) (yY rfl rfl rfl (jp ?_)))))))
      refine js rfl (fun h30 => ?_) (fun h30 => ?_)
      ·replace hm := ifD h30 hm
       refine ju (ja (jj ?_))
       obtain ⟨o_5, h31, h32⟩ := bindO hm
       refine jF (ι := Unit) (fun l_11 => True) (fun l_11 => [(1, ptr b 0), (3, .bool o_5.limit3), (4, .bool o_5.order4), (5, .bool o_5.missing5), (6, .bool o_5.wrong6), (8, .int .i64 s_1.k8)]) (fun l_11 => [(b, .cells #[.slice qa0 na0 ca0, .slice qa1 na1 ca1] 38 (0, 0))]) (fun l_11 => []) ?_ ?_
       ·replace hm := h31
        refine jn (jq (jP 0 Tryz.runUnderlying38 rfl Tryz.sizeOf36 rfl rfl (jY 0 Tryz.isAgg36 rfl rfl rfl rfl (je rfl rfl ?_))))
        obtain ⟨t55, h33, hm⟩ := bindO hm
        refine jc rfl rfl rfl (fun w _ => ki h33 (Tryz.runUnderlying36 w) (Tryz.sizeOf98 w) rfl rfl hna0 hqa0) ?_
        refine jc rfl rfl rfl (fun w hh => kt RSt 0 [.int .i64 t55.tenant, .int .i64 t55.lay.lo, .int .i64 t55.lay.hi, .int .i64 t55.seeded.lo, .int .i64 t55.seeded.hi, .int .i64 t55.left.lo, .int .i64 t55.left.hi] h33 (Tryz.isAgg98 w) (Tryz.sizeOf98 w) rfl (hh.seg 0 rfl) rfl (Nat.add_zero _).symm) ?_
        refine jo (fun w => Tryz.zeroValue98 w) rfl (fun b_1 h34 => ?_)
        refine jy (us := #[_, _, _, _, _, _, _]) (cs' := [_, _, _, _, _, _, _]) (S' := [_, _]) 0 (fun w => Tryz.sizeOf98 w) rfl rfl rfl rfl rfl rfl rfl (jp (jj ?_))
        obtain ⟨o_6, h35, h36⟩ := bindO hm
        refine jF (ι := Unit) (fun l_12 => True) (fun l_12 => [(1, ptr b 0), (3, .bool o_6), (4, .bool s_1.order4), (5, .bool s_1.missing5), (6, .bool s_1.wrong6), (8, .int .i64 s_1.k8), (9, ptr b_1 0)]) (fun l_12 => [(b_1, .cells #[.int .i64 t55.tenant, .int .i64 t55.lay.lo, .int .i64 t55.lay.hi, .int .i64 t55.seeded.lo, .int .i64 t55.seeded.hi, .int .i64 t55.left.lo, .int .i64 t55.left.hi] 98 (0, 0)), (b, .cells #[.slice qa0 na0 ca0, .slice qa1 na1 ca1] 38 (0, 0))]) (fun l_12 => []) ?_ ?_
        ·replace hm := h35
         refine jh (je rfl rfl (je rfl rfl ?_))
         refine jJ 58 rfl (fun h37 => ?_) (fun h37 => ?_)
         ·replace hm := ifT (h37) hm
          refine g_k rfl rfl rfl rfl (g_k rfl rfl rfl rfl (g_k rfl rfl rfl rfl (kx rfl rfl rfl (je rfl rfl (g_k rfl rfl rfl rfl (g_k rfl rfl rfl rfl (g_k rfl rfl rfl rfl ?_)))))))
          refine kx rfl rfl rfl (je rfl rfl (g_k rfl rfl rfl rfl (g_k rfl rfl rfl rfl (g_k rfl rfl rfl rfl (kx rfl rfl rfl (jk rfl rfl (jv ?_)))))))
          obtain rfl := sj hm
          exact jg () (trivial) (sE rfl) (fun w hh => hh)
         ·replace hm := ifN h37 hm
          refine jb rfl rfl (jP 1 Tryz.runUnderlying98 rfl Tryz.sizeOf32 rfl rfl (jb rfl rfl (kD [_, _] 0 Tryz.isAgg32 Tryz.sizeOf32 rfl rfl rfl rfl (jb rfl rfl ?_))))
          obtain ⟨t61, h38, hm⟩ := bindO hm
          refine jd [] [] rfl rfl rfl rfl rfl rfl rfl Tryz.call51 (fun w hh => KH (⟨t55.lay.lo, t55.lay.hi⟩ : Span) w (HV.callee (S0 := []) (vs0 := []) hh roN)  h38) (fun l_13 h39 => ?_)
          refine j3 rfl rfl rfl (je rfl rfl ?_)
          refine jJ 63 rfl (fun h40 => ?_) (fun h40 => ?_)
          ·replace hm := ifT (h40) hm
           refine g_k rfl rfl rfl rfl (g_k rfl rfl rfl rfl (g_k rfl rfl rfl rfl (kx rfl rfl rfl (je rfl rfl (g_k rfl rfl rfl rfl (g_k rfl rfl rfl rfl (g_k rfl rfl rfl rfl ?_)))))))
           refine kx rfl rfl rfl (jk rfl rfl (jv ?_))
           obtain rfl := sj hm
           exact jg () (trivial) (sE rfl) (fun w hh => hh)
          ·replace hm := ifN h40 hm
           refine jb rfl rfl (jP 3 Tryz.runUnderlying98 rfl Tryz.sizeOf32 rfl rfl (jb rfl rfl (kD [_, _] 0 Tryz.isAgg32 Tryz.sizeOf32 rfl rfl rfl rfl (jb rfl rfl ?_))))
           obtain ⟨t66, h41, hm⟩ := bindO hm
           refine jd [] [] rfl rfl rfl rfl rfl rfl rfl Tryz.call51 (fun w hh => KH (⟨t55.seeded.lo, t55.seeded.hi⟩ : Span) w (HV.callee (S0 := []) (vs0 := []) hh roN)  h41) (fun l_14 h42 => ?_)
           refine j3 rfl rfl rfl (je rfl rfl ?_)
           refine jJ 68 rfl (fun h43 => ?_) (fun h43 => ?_)
           ·replace hm := ifT (h43) hm
            refine g_k rfl rfl rfl rfl (g_k rfl rfl rfl rfl (g_k rfl rfl rfl rfl (kx rfl rfl rfl (jk rfl rfl (jv ?_)))))
            obtain rfl := sj hm
            exact jg () (trivial) (sE rfl) (fun w hh => hh)
           ·replace hm := ifN h43 hm
            refine jb rfl rfl (jP 5 Tryz.runUnderlying98 rfl Tryz.sizeOf32 rfl rfl (jb rfl rfl (kD [_, _] 0 Tryz.isAgg32 Tryz.sizeOf32 rfl rfl rfl rfl (jb rfl rfl ?_))))
            obtain ⟨t71, h44, hm⟩ := bindO hm
            refine jd [] [] rfl rfl rfl rfl rfl rfl rfl Tryz.call51 (fun w hh => KH (⟨t55.left.lo, t55.left.hi⟩ : Span) w (HV.callee (S0 := []) (vs0 := []) hh roN)  h44) (fun l_15 h45 => ?_)
            refine j3 rfl rfl rfl (jk rfl rfl (jv ?_))
            obtain rfl := sj hm
            exact jg () (trivial) (sE rfl) (fun w hh => hh)
        ·intro l_12 hj
         replace hm := h36
         refine ja (jj ?_)
         obtain ⟨o_7, h46, h47⟩ := bindO hm
         refine jF (ι := Unit) (fun l_16 => True) (fun l_16 => [(1, ptr b 0), (3, .bool o_6), (4, .bool o_7), (5, .bool s_1.missing5), (6, .bool s_1.wrong6), (8, .int .i64 s_1.k8), (9, ptr b_1 0)]) (fun l_16 => [(b_1, .cells #[.int .i64 t55.tenant, .int .i64 t55.lay.lo, .int .i64 t55.lay.hi, .int .i64 t55.seeded.lo, .int .i64 t55.seeded.hi, .int .i64 t55.left.lo, .int .i64 t55.left.hi] 98 (0, 0)), (b, .cells #[.slice qa0 na0 ca0, .slice qa1 na1 ca1] 38 (0, 0))]) (fun l_16 => []) ?_ ?_
         ·replace hm := h46
          refine jh (je rfl rfl (je rfl rfl ?_))
          refine jJ 74 rfl (fun h48 => ?_) (fun h48 => ?_)
          ·replace hm := ifT (h48) hm
           refine g_k rfl rfl rfl rfl (g_k rfl rfl rfl rfl (g_k rfl rfl rfl rfl (kx rfl rfl rfl (je rfl rfl (g_k rfl rfl rfl rfl (g_k rfl rfl rfl rfl (g_k rfl rfl rfl rfl ?_)))))))
           refine kx rfl rfl rfl (je rfl rfl (g_k rfl rfl rfl rfl (g_k rfl rfl rfl rfl (g_k rfl rfl rfl rfl (kx rfl rfl rfl (jk rfl rfl (jv ?_)))))))
           obtain rfl := sj hm
           exact jg () (trivial) (sE rfl) (fun w hh => hh)
          ·replace hm := ifN h48 hm
           refine jb rfl rfl (jP 1 Tryz.runUnderlying98 rfl Tryz.sizeOf32 rfl rfl (jb rfl rfl (kD [_, _] 0 Tryz.isAgg32 Tryz.sizeOf32 rfl rfl rfl rfl (jb rfl rfl ?_))))
           obtain ⟨t77, h49, hm⟩ := bindO hm
           refine jd [] [] rfl rfl rfl rfl rfl rfl rfl Tryz.call52 (fun w hh => Qf (⟨t55.lay.lo, t55.lay.hi⟩ : Span) w (HV.callee (S0 := []) (vs0 := []) hh roN)  h49) (fun l_17 h50 => ?_)
           refine j3 rfl rfl rfl (je rfl rfl ?_)
           refine jJ 79 rfl (fun h51 => ?_) (fun h51 => ?_)
           ·replace hm := ifT (h51) hm
            refine g_k rfl rfl rfl rfl (g_k rfl rfl rfl rfl (g_k rfl rfl rfl rfl (kx rfl rfl rfl (je rfl rfl (g_k rfl rfl rfl rfl (g_k rfl rfl rfl rfl (g_k rfl rfl rfl rfl ?_)))))))
            refine kx rfl rfl rfl (jk rfl rfl (jv ?_))
            obtain rfl := sj hm
            exact jg () (trivial) (sE rfl) (fun w hh => hh)
           ·replace hm := ifN h51 hm
            refine jb rfl rfl (jP 3 Tryz.runUnderlying98 rfl Tryz.sizeOf32 rfl rfl (jb rfl rfl (kD [_, _] 0 Tryz.isAgg32 Tryz.sizeOf32 rfl rfl rfl rfl (jb rfl rfl ?_))))
            obtain ⟨t82, h52, hm⟩ := bindO hm
            refine jd [] [] rfl rfl rfl rfl rfl rfl rfl Tryz.call52 (fun w hh => Qf (⟨t55.seeded.lo, t55.seeded.hi⟩ : Span) w (HV.callee (S0 := []) (vs0 := []) hh roN)  h52) (fun l_18 h53 => ?_)
            refine j3 rfl rfl rfl (je rfl rfl ?_)
            refine jJ 84 rfl (fun h54 => ?_) (fun h54 => ?_)
            ·replace hm := ifT (h54) hm
             refine g_k rfl rfl rfl rfl (g_k rfl rfl rfl rfl (g_k rfl rfl rfl rfl (kx rfl rfl rfl (jk rfl rfl (jv ?_)))))
             obtain rfl := sj hm
             exact jg () (trivial) (sE rfl) (fun w hh => hh)
            ·replace hm := ifN h54 hm
             refine jb rfl rfl (jP 5 Tryz.runUnderlying98 rfl Tryz.sizeOf32 rfl rfl (jb rfl rfl (kD [_, _] 0 Tryz.isAgg32 Tryz.sizeOf32 rfl rfl rfl rfl (jb rfl rfl ?_))))
             obtain ⟨t87, h55, hm⟩ := bindO hm
             refine jd [] [] rfl rfl rfl rfl rfl rfl rfl Tryz.call52 (fun w hh => Qf (⟨t55.left.lo, t55.left.hi⟩ : Span) w (HV.callee (S0 := []) (vs0 := []) hh roN)  h55) (fun l_19 h56 => ?_)
             refine j3 rfl rfl rfl (jk rfl rfl (jv ?_))
             obtain rfl := sj hm
             exact jg () (trivial) (sE rfl) (fun w hh => hh)
         ·intro l_16 hj
          replace hm := h47
          refine ja (jj ?_)
          obtain ⟨o_8, h57, h58⟩ := bindO hm
          refine jF (ι := Unit) (fun l_20 => True) (fun l_20 => [(1, ptr b 0), (3, .bool o_6), (4, .bool o_7), (5, .bool o_8), (6, .bool s_1.wrong6), (8, .int .i64 s_1.k8), (9, ptr b_1 0)]) (fun l_20 => [(b_1, .cells #[.int .i64 t55.tenant, .int .i64 t55.lay.lo, .int .i64 t55.lay.hi, .int .i64 t55.seeded.lo, .int .i64 t55.seeded.hi, .int .i64 t55.left.lo, .int .i64 t55.left.hi] 98 (0, 0)), (b, .cells #[.slice qa0 na0 ca0, .slice qa1 na1 ca1] 38 (0, 0))]) (fun l_20 => []) ?_ ?_
          ·replace hm := h57
           refine jh (je rfl rfl (je rfl rfl ?_))
           refine jJ 90 rfl (fun h59 => ?_) (fun h59 => ?_)
           ·replace hm := ifT (h59) hm
            refine g_k rfl rfl rfl rfl (g_k rfl rfl rfl rfl (g_k rfl rfl rfl rfl (g_k rfl rfl rfl rfl (g_k rfl rfl rfl rfl (g_k rfl rfl rfl rfl (g_k rfl rfl rfl rfl (kx rfl rfl rfl ?_)))))))
            refine jk rfl rfl (jv ?_)
            obtain rfl := sj hm
            exact jg () (trivial) (sE rfl) (fun w hh => hh)
           ·replace hm := ifN h59 hm
            refine jb rfl rfl (jP 0 Tryz.runUnderlying98 rfl Tryz.sizeOf3 rfl rfl (jb rfl rfl (jY 0 Tryz.isAgg3 rfl rfl rfl rfl (jb rfl rfl (jP 1 Tryz.runUnderlying38 rfl Tryz.sizeOf23 rfl rfl (jb rfl rfl (jY 1 Tryz.isAgg23 rfl rfl rfl rfl ?_)))))))
            refine jb rfl rfl (jc rfl rfl rfl (fun w _ => jI hna1 (Tryz.runUnderlying23 w) rfl) (jb rfl rfl ?_))
            obtain ⟨t96, h60, hm⟩ := bindO hm
            refine jc rfl rfl rfl (fun _ _ => yb h60 rfl rfl) (jb rfl rfl ?_)
            obtain ⟨t97, h61, hm⟩ := bindO hm
            refine jd [] [] rfl rfl rfl rfl rfl rfl rfl Tryz.call50 (fun w hh => Yi t55.tenant 0 t96 w (HV.callee (S0 := []) (vs0 := []) hh roN)  h61) (fun l_21 h62 => ?_)
            refine j3 rfl rfl rfl (jk rfl rfl (jv ?_))
            obtain rfl := sj hm
            exact jg () (trivial) (sE rfl) (fun w hh => hh)
          ·intro l_20 hj
           replace hm := h58
           refine ja (jh (je rfl rfl (je rfl rfl ?_)))
           refine jJ 100 rfl (fun h63 => ?_) (fun h63 => ?_)
           ·replace hm := ifT (h63) hm
            refine g_k rfl rfl rfl rfl (g_k rfl rfl rfl rfl (g_k rfl rfl rfl rfl ?_))
            refine kM rfl rfl rfl rfl rfl ?_
            refine kM rfl rfl rfl rfl rfl ?_
            refine kM rfl rfl rfl rfl rfl ?_
            refine kM rfl rfl rfl rfl rfl ?_
            refine kM rfl rfl rfl rfl rfl ?_
            refine kM rfl rfl rfl rfl rfl ?_
            refine kM rfl rfl rfl rfl rfl ?_
            refine kM rfl rfl rfl rfl rfl ?_
            refine kM rfl rfl rfl rfl rfl ?_
            refine kM rfl rfl rfl rfl rfl ?_
            refine kM rfl rfl rfl rfl rfl ?_
            refine g_k rfl rfl rfl rfl (kx rfl rfl rfl (jk rfl rfl (jv (jt ?_))))
            obtain rfl := sj hm
            exact jg () (trivial) (sE rfl) (hsE [1] [] 0 rfl rfl rfl rfl)
           ·replace hm := ifN h63 hm
            refine jb rfl rfl (je rfl rfl (jb rfl rfl (jc rfl rfl rfl (fun _ _ => kE rfl) (jb rfl rfl (je rfl rfl ?_)))))
            refine jJ 103 rfl (fun h64 => ?_) (fun h64 => ?_)
            ·replace hm := ifT (h64) hm
             refine jb rfl rfl (jP 1 Tryz.runUnderlying98 rfl Tryz.sizeOf32 rfl rfl (jb rfl rfl (jP 1 Tryz.runUnderlying32 rfl Tryz.sizeOf3 rfl rfl (jb rfl rfl (jY 0 Tryz.isAgg3 rfl rfl rfl rfl (jb rfl rfl (jP 3 Tryz.runUnderlying98 rfl Tryz.sizeOf32 rfl rfl ?_)))))))
             refine jb rfl rfl (jP 1 Tryz.runUnderlying32 rfl Tryz.sizeOf3 rfl rfl (jb rfl rfl (jY 0 Tryz.isAgg3 rfl rfl rfl rfl (jb rfl rfl ?_))))
             obtain ⟨t110, h65, hm⟩ := bindO hm
             refine qs h65 rfl rfl rfl (jb rfl rfl (jP 5 Tryz.runUnderlying98 rfl Tryz.sizeOf32 rfl rfl (jb rfl rfl (jP 0 Tryz.runUnderlying32 rfl Tryz.sizeOf3 rfl rfl (jb rfl rfl (jY 0 Tryz.isAgg3 rfl rfl rfl rfl (jb rfl rfl ?_)))))))
             refine yY rfl rfl rfl (jb rfl rfl (kx rfl rfl rfl (j3 rfl rfl rfl (jk rfl rfl (jv (jt ?_))))))
             obtain rfl := sj hm
             exact jg () (trivial) (sE rfl) (hsE [1] [] 0 rfl rfl rfl rfl)
            ·replace hm := ifN h64 hm
             refine g_k rfl rfl rfl rfl (g_k rfl rfl rfl rfl (g_k rfl rfl rfl rfl (g_k rfl rfl rfl rfl (g_k rfl rfl rfl rfl (g_k rfl rfl rfl rfl (g_k rfl rfl rfl rfl (g_k rfl rfl rfl rfl ?_)))))))
             refine g_k rfl rfl rfl rfl (g_k rfl rfl rfl rfl (g_k rfl rfl rfl rfl (jb rfl rfl (j3 rfl rfl rfl (j3 rfl rfl rfl (jk rfl rfl (jv ?_)))))))
             refine jt ?_
             obtain rfl := sj hm
             exact jg () (trivial) (sE rfl) (hsE [1] [] 0 rfl rfl rfl rfl)
       ·intro l_11 hj
        replace hm := h32
        refine ja (jh (je rfl rfl ?_))
        obtain ⟨t51, h66, hm⟩ := bindO hm
        refine qs h66 rfl rfl rfl (jk rfl rfl (jv ?_))
        obtain rfl := sj hm
        refine ja ?_
        exact jA _ () rfl (trivial) (sE rfl) (fun w hh => hh)
      ·replace hm := ifE h30 hm
       refine jS (jl (jl (jG ?_)))
       obtain rfl := sj hm
       have hbo := h29 _ rfl
       subst hbo
       exact jg () (trivial) (sE rfl) (fun w hh => hh)
     ·intro l_9 hj
      replace hm := h28
      refine ja (jj (jq (je rfl rfl (jp ?_))))
      refine js rfl (fun h67 => ?_) (fun h67 => ?_)
      ·replace hm := ifT (h67) hm
       refine jq (jk rfl rfl (jp (jw (jf ?_))))
       obtain rfl := sj hm
       refine jm rfl (fun w hh => (.tmp rfl .nil)) (fun w hh => ⟨(), rfl, trivial, hh.se [] [] 2 rfl rfl rfl rfl⟩)
      ·replace hm := ifN h67 hm
       refine ju (ja (jj (jq (je rfl rfl (jp ?_)))))
       refine js rfl (fun h68 => ?_) (fun h68 => ?_)
       ·replace hm := ifT (h68) hm
        refine jq (jk rfl rfl (jp (jw (jf ?_))))
        obtain rfl := sj hm
        refine jm rfl (fun w hh => (.tmp rfl .nil)) (fun w hh => ⟨(), rfl, trivial, hh.se [] [] 2 rfl rfl rfl rfl⟩)
       ·replace hm := ifN h68 hm
        refine ju (ja (jj (jq (je rfl rfl (jp ?_)))))
        refine js rfl (fun h69 => ?_) (fun h69 => ?_)
        ·replace hm := ifT (h69) hm
         refine jq (jk rfl rfl (jp (jw (jf ?_))))
         obtain rfl := sj hm
         refine jm rfl (fun w hh => (.tmp rfl .nil)) (fun w hh => ⟨(), rfl, trivial, hh.se [] [] 2 rfl rfl rfl rfl⟩)
        ·replace hm := ifN h69 hm
         refine ju (ja (jj (jq (je rfl rfl (jp ?_)))))
         refine js rfl (fun h70 => ?_) (fun h70 => ?_)
         ·replace hm := ifT (h70) hm
          refine jq (jk rfl rfl (jp (jw (jf ?_))))
          obtain rfl := sj hm
          refine jm rfl (fun w hh => (.tmp rfl .nil)) (fun w hh => ⟨(), rfl, trivial, hh.se [] [] 2 rfl rfl rfl rfl⟩)
         ·replace hm := ifN h70 hm
          refine ju (ja (jq (jk rfl rfl (jp (jw ?_)))))
          obtain rfl := sj hm
          refine jm rfl (fun w hh => (.tmp rfl .nil)) (fun w hh => ⟨(), rfl, trivial, hh.se [] [] 2 rfl rfl rfl rfl⟩)
structure qy where
  t8 : Int
  out7 : (List (List Bool))
structure ze where
  k10 : Int
  t21 : (List Bool)
def yv (tenant1 : Int) (strip2 : Int) (s0 : Scalps) (s : qy) (s_1 : ze) : Option (ze ⊕ (List Bool)) :=
 if s_1.k10 < (s_1.t21.length : Int) then
 ((if tenant1 < 0 then
 (if strip2 < 0 then
 ((ix s0.strips s_1.k10).bind fun t50 =>
 (ix s_1.t21 s_1.k10).bind fun t56 =>
 (some (s_1.t21.set (Int.toNat s_1.k10) (!decide (t50.tenant = s.t8)))).bind fun t21_1 =>
 some t21_1) else
 (if s_1.k10 = strip2 then
 ((ix s0.strips s_1.k10).bind fun t50_1 =>
 (ix s_1.t21 s_1.k10).bind fun t56_1 =>
 (some (s_1.t21.set (Int.toNat s_1.k10) (!decide (t50_1.tenant = s.t8)))).bind fun t21_2 =>
 some t21_2) else
 ((ix s_1.t21 s_1.k10).bind fun t56_2 =>
 (some (s_1.t21.set (Int.toNat s_1.k10) false)).bind fun t21_3 =>
 some t21_3))) else
 (if s.t8 = tenant1 then
 (if strip2 < 0 then
 ((ix s0.strips s_1.k10).bind fun t50_2 =>
 (ix s_1.t21 s_1.k10).bind fun t56_3 =>
 (some (s_1.t21.set (Int.toNat s_1.k10) (!decide (t50_2.tenant = s.t8)))).bind fun t21_4 =>
 some t21_4) else
 (if s_1.k10 = strip2 then
 ((ix s0.strips s_1.k10).bind fun t50_3 =>
 (ix s_1.t21 s_1.k10).bind fun t56_4 =>
 (some (s_1.t21.set (Int.toNat s_1.k10) (!decide (t50_3.tenant = s.t8)))).bind fun t21_5 =>
 some t21_5) else
 ((ix s_1.t21 s_1.k10).bind fun t56_5 =>
 (some (s_1.t21.set (Int.toNat s_1.k10) false)).bind fun t21_6 =>
 some t21_6))) else
 ((ix s_1.t21 s_1.k10).bind fun t56_6 =>
 (some (s_1.t21.set (Int.toNat s_1.k10) false)).bind fun t21_7 =>
 some t21_7))).bind fun o_2 =>
 (addc s_1.k10 1).bind fun t27 =>
 some (.inl (⟨t27, o_2⟩ : ze))) else
 (some (.inr s_1.t21))
def zc (s0 : Scalps) (tenant1 : Int) (strip2 : Int) (s : qy) : Option (qy ⊕ (List (List Bool))) :=
 if s.t8 < (s0.carried.length : Int) then
 ((makec 1 false (s0.strips.length : Int) (s0.strips.length : Int)).bind fun t21 =>
 (iterM FU (yv tenant1 strip2 s0 s) (⟨0, t21⟩ : ze)).bind fun o_1 =>
 (appc 24 s.out7 [o_1]).bind fun t60 =>
 (addc s.t8 1).bind fun t17 =>
 some (.inl (⟨t17, t60⟩ : qy))) else
 (some (.inr s.out7))
def qm (s0 : Scalps) (tenant1 : Int) (strip2 : Int) : Option (List (List Bool)) :=
 (iterM FU (zc s0 tenant1 strip2) (⟨0, ([] : List (List Bool))⟩ : qy)).bind fun o =>
 some o
theorem Kf (s0 : Scalps) (tenant1 : Int) (strip2 : Int) (qa0 : Option Addr) (na0 ca0 : Nat) (qa1 : Option Addr) (na1 ca1 : Nat) (w : World) (hw : HV w (keys [] []) [] [] [(aB qa0, aO qa0, RSt.enc s0.strips), (aB qa1, aO qa1, RSp.enc s0.carried)] w) (hna0 : s0.strips.length = na0) (hqa0 : AOK na0 qa0) (hla0 : na0 ≤ ca0) (hna1 : s0.carried.length = na1) (hqa1 : AOK na1 qa1) (hla1 : na1 ≤ ca1) {res : (List (List Bool))} (hm : qm s0 tenant1 strip2 = some res) :
    Calls Tryz.prog 14 #[.agg #[.slice qa0 na0 ca0, .slice qa1 na1 ca1], .int .i64 tenant1, .int .i64 strip2] w (fun en w' => ∃ l : DL, en = .returned (slv l.v.q l.v.n l.v.cap) ∧ (VOK 1 l.v.n l.v.cap (RwH.enc l.rs) l.v.sp l.v.q ∧ DOK RB res l.rs) ∧ HV w (keys [] []) [] [⟨93, RwH.enc l.rs, l.v.sp, l.v.q, dbl 4 RB res l.rs⟩] [] w') := by
  unfold qm at hm
  refine j5 Tryz.func14 rfl Tryz.ntmps14 rfl (e := [(0, _), (1, _), (2, _)]) rfl hw (jq ?_)
  refine jC rfl rfl (fun b h3 => ?_)
  refine jc rfl rfl rfl (fun _ _ => kX rfl) (j0 (jc rfl rfl rfl (fun _ _ => kX rfl) (jp (jj (jq (jk rfl rfl (jp ?_)))))))
  refine kC 93 ?_
  obtain ⟨o, h4, h5⟩ := bindO hm
  refine jF (ι := DL) (fun l => VOK 1 l.v.n l.v.cap (RwH.enc l.rs) l.v.sp l.v.q ∧ DOK RB o l.rs) (fun l => [(7, slv l.v.q l.v.n l.v.cap)]) (fun l => [(b, .cells #[.slice qa0 na0 ca0, .slice qa1 na1 ca1] 38 (0, 0))]) (fun l => [⟨93, RwH.enc l.rs, l.v.sp, l.v.q, dbl 4 RB o l.rs⟩]) ?_ ?_
  ·replace hm := h4
   refine jn ?_
   refine jL (ι := DL) hm (fun s l_1 => VOK 1 l_1.v.n l_1.v.cap (RwH.enc l_1.rs) l_1.v.sp l_1.v.q ∧ DOK RB s.out7 l_1.rs) (fun s l_1 => [(1, .int .i64 tenant1), (2, .int .i64 strip2), (3, ptr b 0), (7, slv l_1.v.q l_1.v.n l_1.v.cap), (8, .int .i64 s.t8)]) (fun s l_1 => [(b, .cells #[.slice qa0 na0 ca0, .slice qa1 na1 ca1] 38 (0, 0))]) (fun s l_1 => [⟨93, RwH.enc l_1.rs, l_1.v.sp, l_1.v.q, dbl 4 RB s.out7 l_1.rs⟩]) (⟨⟨none, 0, 0, []⟩, []⟩) (⟨VOK.nil, DOK.nil⟩) (sE rfl) (fun w hh => hh) (fun s l_1 r hpl hm h10 => ?_)
   obtain ⟨h8, h9⟩ := hpl
   unfold zc at hm
   refine jj (jq (je rfl rfl (jP 1 Tryz.runUnderlying38 rfl Tryz.sizeOf23 rfl rfl (jY 0 Tryz.isAgg23 rfl rfl rfl rfl (jc rfl rfl rfl (fun w _ => jI hna1 (Tryz.runUnderlying23 w) rfl) (yY rfl rfl rfl (jp ?_)))))))
   refine js rfl (fun h11 => ?_) (fun h11 => ?_)
   ·replace hm := ifD h11 hm
    refine ju (ja (jj (jn (jq (jP 0 Tryz.runUnderlying38 rfl Tryz.sizeOf36 rfl rfl (jY 0 Tryz.isAgg36 rfl rfl rfl rfl (jc rfl rfl rfl (fun w _ => jI hna0 (Tryz.runUnderlying36 w) rfl) ?_)))))))
    obtain ⟨t21, h12, hm⟩ := bindO hm
    refine ks RB false h12 Tryz.underlying93 Yg rfl rfl rfl rfl rfl (fun L h13 => ?_)
    refine jk rfl rfl (jp (jj (jq (jk rfl rfl (jp ?_)))))
    obtain ⟨o_1, h14, h15⟩ := bindO hm
    refine jF (ι := Unit) (fun l_2 => VOK 1 L.n L.cap (RB.enc o_1) L.sp L.q) (fun l_2 => [(1, .int .i64 tenant1), (2, .int .i64 strip2), (3, ptr b 0), (7, slv l_1.v.q l_1.v.n l_1.v.cap), (8, .int .i64 s.t8), (9, slv L.q L.n L.cap)]) (fun l_2 => [(b, .cells #[.slice qa0 na0 ca0, .slice qa1 na1 ca1] 38 (0, 0))]) (fun l_2 => [⟨93, RwH.enc l_1.rs, l_1.v.sp, l_1.v.q, dbl 4 RB s.out7 l_1.rs⟩, ⟨4, RB.enc o_1, L.sp, L.q, []⟩]) ?_ ?_
    ·replace hm := h14
     refine jn ?_
     refine jL (ι := Unit) hm (fun s_1 l_3 => VOK 1 L.n L.cap (RB.enc s_1.t21) L.sp L.q) (fun s_1 l_3 => [(1, .int .i64 tenant1), (2, .int .i64 strip2), (3, ptr b 0), (7, slv l_1.v.q l_1.v.n l_1.v.cap), (8, .int .i64 s.t8), (9, slv L.q L.n L.cap), (10, .int .i64 s_1.k10)]) (fun s_1 l_3 => [(b, .cells #[.slice qa0 na0 ca0, .slice qa1 na1 ca1] 38 (0, 0))]) (fun s_1 l_3 => [⟨93, RwH.enc l_1.rs, l_1.v.sp, l_1.v.q, dbl 4 RB s.out7 l_1.rs⟩, ⟨4, RB.enc s_1.t21, L.sp, L.q, []⟩]) () (h13) (sE rfl) (hsE [0] [1, 0] 0 rfl rfl rfl rfl) (fun s_1 l_3 r_1 hpl hm h18 => ?_)
     have h17 := hpl
     unfold yv at hm
     refine jj (jq (je rfl rfl (je rfl rfl (jc rfl rfl rfl (fun w _ => Q1 (vlen RB h17 rfl) (Tryz.runUnderlying93 w) rfl) (yY rfl rfl rfl (jp ?_))))))
     refine js rfl (fun h19 => ?_) (fun h19 => ?_)
     ·replace hm := ifD h19 hm
      refine ju (ja (jj ?_))
      obtain ⟨o_2, h20, h21⟩ := bindO hm
      refine jF (ι := Unit) (fun l_4 => VOK 1 L.n L.cap (RB.enc o_2) L.sp L.q) (fun l_4 => [(1, .int .i64 tenant1), (2, .int .i64 strip2), (3, ptr b 0), (7, slv l_1.v.q l_1.v.n l_1.v.cap), (8, .int .i64 s.t8), (9, slv L.q L.n L.cap), (10, .int .i64 s_1.k10)]) (fun l_4 => [(b, .cells #[.slice qa0 na0 ca0, .slice qa1 na1 ca1] 38 (0, 0))]) (fun l_4 => [⟨93, RwH.enc l_1.rs, l_1.v.sp, l_1.v.q, dbl 4 RB s.out7 l_1.rs⟩, ⟨4, RB.enc o_2, L.sp, L.q, []⟩]) ?_ ?_
      ·replace hm := h20
       refine jn (jh (je rfl rfl (je rfl rfl (je rfl rfl (yY rfl rfl rfl (je rfl rfl ?_))))))
       refine jJ 32 rfl (fun h23 => ?_) (fun h23 => ?_)
       ·replace hm := ifD h23 hm
        refine g_k rfl rfl rfl rfl (g_k rfl rfl rfl rfl (g_k rfl rfl rfl rfl (kx rfl rfl rfl (je rfl rfl (jb rfl rfl (je rfl rfl (jb rfl rfl ?_)))))))
        refine yY rfl rfl rfl (jb rfl rfl (je rfl rfl ?_))
        refine jJ 40 rfl (fun h24 => ?_) (fun h24 => ?_)
        ·replace hm := ifD h24 hm
         refine g_k rfl rfl rfl rfl (g_k rfl rfl rfl rfl (g_k rfl rfl rfl rfl (jb rfl rfl (kx rfl rfl rfl (kx rfl rfl rfl (je rfl rfl (jb rfl rfl ?_)))))))
         refine jP 0 Tryz.runUnderlying38 rfl Tryz.sizeOf36 rfl rfl (jb rfl rfl (jY 0 Tryz.isAgg36 rfl rfl rfl rfl (jb rfl rfl (je rfl rfl (jb rfl rfl ?_)))))
         obtain ⟨t50, h25, hm⟩ := bindO hm
         refine jc rfl rfl rfl (fun w _ => ki h25 (Tryz.runUnderlying36 w) (Tryz.sizeOf98 w) rfl rfl hna0 hqa0) (jb rfl rfl (jP 0 Tryz.runUnderlying98 rfl Tryz.sizeOf3 rfl rfl (jb rfl rfl (jc rfl rfl rfl (fun w hh => kl RSt 0 h25 (Tryz.isAgg3 w) rfl (hh.seg 0 rfl) rfl rfl) (jb rfl rfl (je rfl rfl (jb rfl rfl ?_)))))))
         refine jc rfl rfl rfl (fun _ _ => q8 rfl rfl) (kx rfl rfl rfl ?_)
         obtain ⟨t56, h26, hm⟩ := bindO hm
         refine jc rfl rfl rfl (fun w _ => qx h26 (Tryz.runUnderlying93 w) (Tryz.sizeOf4 w) rfl rfl (vlen RB h17 rfl) (vne h17)) ?_
         obtain ⟨t21_1, ht21_1, hm⟩ := bindO hm
         refine KO RB 1 0 (!decide (t50.tenant = s.t8)) (fun w => Tryz.sizeOf4 w) rfl rfl rfl rfl h17 rfl (Nat.add_zero _).symm rfl h26 rfl rfl (Option.some.inj ht21_1) (fun h27 => ?_)
         refine jT (S' := [_]) (vs' := [_, _]) [0] [0, 1] 0 rfl rfl rfl rfl (jv (jt ?_))
         obtain rfl := sj hm
         exact jg () (h27) (sE rfl) (fun w hh => hh)
        ·replace hm := ifE h24 hm
         refine jb rfl rfl (je rfl rfl (jb rfl rfl (je rfl rfl (jb rfl rfl (jc rfl rfl rfl (fun _ _ => yD rfl rfl) (jb rfl rfl (j3 rfl rfl rfl ?_)))))))
         refine kx rfl rfl rfl (je rfl rfl ?_)
         refine jJ 46 rfl (fun h28 => ?_) (fun h28 => ?_)
         ·replace hm := ifD h28 hm
          refine jb rfl rfl (jP 0 Tryz.runUnderlying38 rfl Tryz.sizeOf36 rfl rfl (jb rfl rfl (jY 0 Tryz.isAgg36 rfl rfl rfl rfl (jb rfl rfl (je rfl rfl (jb rfl rfl ?_))))))
          obtain ⟨t50_1, h29, hm⟩ := bindO hm
          refine jc rfl rfl rfl (fun w _ => ki h29 (Tryz.runUnderlying36 w) (Tryz.sizeOf98 w) rfl rfl hna0 hqa0) (jb rfl rfl (jP 0 Tryz.runUnderlying98 rfl Tryz.sizeOf3 rfl rfl (jb rfl rfl (jc rfl rfl rfl (fun w hh => kl RSt 0 h29 (Tryz.isAgg3 w) rfl (hh.seg 0 rfl) rfl rfl) (jb rfl rfl (je rfl rfl (jb rfl rfl ?_)))))))
          refine jc rfl rfl rfl (fun _ _ => q8 rfl rfl) (kx rfl rfl rfl ?_)
          obtain ⟨t56_1, h30, hm⟩ := bindO hm
          refine jc rfl rfl rfl (fun w _ => qx h30 (Tryz.runUnderlying93 w) (Tryz.sizeOf4 w) rfl rfl (vlen RB h17 rfl) (vne h17)) ?_
          obtain ⟨t21_2, ht21_2, hm⟩ := bindO hm
          refine KO RB 1 0 (!decide (t50_1.tenant = s.t8)) (fun w => Tryz.sizeOf4 w) rfl rfl rfl rfl h17 rfl (Nat.add_zero _).symm rfl h30 rfl rfl (Option.some.inj ht21_2) (fun h31 => ?_)
          refine jT (S' := [_]) (vs' := [_, _]) [0] [0, 1] 0 rfl rfl rfl rfl (jv (jt ?_))
          obtain rfl := sj hm
          exact jg () (h31) (sE rfl) (fun w hh => hh)
         ·replace hm := ifE h28 hm
          refine g_k rfl rfl rfl rfl (g_k rfl rfl rfl rfl (g_k rfl rfl rfl rfl (g_k rfl rfl rfl rfl (g_k rfl rfl rfl rfl (g_k rfl rfl rfl rfl (g_k rfl rfl rfl rfl (g_k rfl rfl rfl rfl ?_)))))))
          refine j3 rfl rfl rfl ?_
          obtain ⟨t56_2, h32, hm⟩ := bindO hm
          refine jc rfl rfl rfl (fun w _ => qx h32 (Tryz.runUnderlying93 w) (Tryz.sizeOf4 w) rfl rfl (vlen RB h17 rfl) (vne h17)) ?_
          obtain ⟨t21_3, ht21_3, hm⟩ := bindO hm
          refine KO RB 1 0 false (fun w => Tryz.sizeOf4 w) rfl rfl rfl rfl h17 rfl (Nat.add_zero _).symm rfl h32 rfl rfl (Option.some.inj ht21_3) (fun h33 => ?_)
          refine jT (S' := [_]) (vs' := [_, _]) [0] [0, 1] 0 rfl rfl rfl rfl (jv (jt ?_))
          obtain rfl := sj hm
          exact jg () (h33) (sE rfl) (fun w hh => hh)
       ·replace hm := ifE h23 hm
        refine jb rfl rfl (je rfl rfl (jb rfl rfl (je rfl rfl (jb rfl rfl (jc rfl rfl rfl (fun _ _ => yD rfl rfl) (j3 rfl rfl rfl (je rfl rfl ?_)))))))
        refine jJ 37 rfl (fun h34 => ?_) (fun h34 => ?_)
        ·replace hm := ifD h34 hm
         refine jb rfl rfl (je rfl rfl (jb rfl rfl (yY rfl rfl rfl (jb rfl rfl (je rfl rfl ?_)))))
         refine jJ 40 rfl (fun h35 => ?_) (fun h35 => ?_)
         ·replace hm := ifD h35 hm
          refine g_k rfl rfl rfl rfl (g_k rfl rfl rfl rfl (g_k rfl rfl rfl rfl (jb rfl rfl (kx rfl rfl rfl (kx rfl rfl rfl (je rfl rfl (jb rfl rfl ?_)))))))
          refine jP 0 Tryz.runUnderlying38 rfl Tryz.sizeOf36 rfl rfl (jb rfl rfl (jY 0 Tryz.isAgg36 rfl rfl rfl rfl (jb rfl rfl (je rfl rfl (jb rfl rfl ?_)))))
          obtain ⟨t50_2, h36, hm⟩ := bindO hm
          refine jc rfl rfl rfl (fun w _ => ki h36 (Tryz.runUnderlying36 w) (Tryz.sizeOf98 w) rfl rfl hna0 hqa0) (jb rfl rfl (jP 0 Tryz.runUnderlying98 rfl Tryz.sizeOf3 rfl rfl (jb rfl rfl (jc rfl rfl rfl (fun w hh => kl RSt 0 h36 (Tryz.isAgg3 w) rfl (hh.seg 0 rfl) rfl rfl) (jb rfl rfl (je rfl rfl (jb rfl rfl ?_)))))))
          refine jc rfl rfl rfl (fun _ _ => q8 rfl rfl) (kx rfl rfl rfl ?_)
          obtain ⟨t56_3, h37, hm⟩ := bindO hm
          refine jc rfl rfl rfl (fun w _ => qx h37 (Tryz.runUnderlying93 w) (Tryz.sizeOf4 w) rfl rfl (vlen RB h17 rfl) (vne h17)) ?_
          obtain ⟨t21_4, ht21_4, hm⟩ := bindO hm
          refine KO RB 1 0 (!decide (t50_2.tenant = s.t8)) (fun w => Tryz.sizeOf4 w) rfl rfl rfl rfl h17 rfl (Nat.add_zero _).symm rfl h37 rfl rfl (Option.some.inj ht21_4) (fun h38 => ?_)
          refine jT (S' := [_]) (vs' := [_, _]) [0] [0, 1] 0 rfl rfl rfl rfl (jv (jt ?_))
          obtain rfl := sj hm
          exact jg () (h38) (sE rfl) (fun w hh => hh)
         ·replace hm := ifE h35 hm
          refine jb rfl rfl (je rfl rfl (jb rfl rfl (je rfl rfl (jb rfl rfl (jc rfl rfl rfl (fun _ _ => yD rfl rfl) (jb rfl rfl (j3 rfl rfl rfl ?_)))))))
          refine kx rfl rfl rfl (je rfl rfl ?_)
          refine jJ 46 rfl (fun h39 => ?_) (fun h39 => ?_)
          ·replace hm := ifD h39 hm
           refine jb rfl rfl (jP 0 Tryz.runUnderlying38 rfl Tryz.sizeOf36 rfl rfl (jb rfl rfl (jY 0 Tryz.isAgg36 rfl rfl rfl rfl (jb rfl rfl (je rfl rfl (jb rfl rfl ?_))))))
           obtain ⟨t50_3, h40, hm⟩ := bindO hm
           refine jc rfl rfl rfl (fun w _ => ki h40 (Tryz.runUnderlying36 w) (Tryz.sizeOf98 w) rfl rfl hna0 hqa0) (jb rfl rfl (jP 0 Tryz.runUnderlying98 rfl Tryz.sizeOf3 rfl rfl (jb rfl rfl (jc rfl rfl rfl (fun w hh => kl RSt 0 h40 (Tryz.isAgg3 w) rfl (hh.seg 0 rfl) rfl rfl) (jb rfl rfl (je rfl rfl (jb rfl rfl ?_)))))))
           refine jc rfl rfl rfl (fun _ _ => q8 rfl rfl) (kx rfl rfl rfl ?_)
           obtain ⟨t56_4, h41, hm⟩ := bindO hm
           refine jc rfl rfl rfl (fun w _ => qx h41 (Tryz.runUnderlying93 w) (Tryz.sizeOf4 w) rfl rfl (vlen RB h17 rfl) (vne h17)) ?_
           obtain ⟨t21_5, ht21_5, hm⟩ := bindO hm
           refine KO RB 1 0 (!decide (t50_3.tenant = s.t8)) (fun w => Tryz.sizeOf4 w) rfl rfl rfl rfl h17 rfl (Nat.add_zero _).symm rfl h41 rfl rfl (Option.some.inj ht21_5) (fun h42 => ?_)
           refine jT (S' := [_]) (vs' := [_, _]) [0] [0, 1] 0 rfl rfl rfl rfl (jv (jt ?_))
           obtain rfl := sj hm
           exact jg () (h42) (sE rfl) (fun w hh => hh)
          ·replace hm := ifE h39 hm
           refine g_k rfl rfl rfl rfl (g_k rfl rfl rfl rfl (g_k rfl rfl rfl rfl (g_k rfl rfl rfl rfl (g_k rfl rfl rfl rfl (g_k rfl rfl rfl rfl (g_k rfl rfl rfl rfl (g_k rfl rfl rfl rfl ?_)))))))
           refine j3 rfl rfl rfl ?_
           obtain ⟨t56_5, h43, hm⟩ := bindO hm
           refine jc rfl rfl rfl (fun w _ => qx h43 (Tryz.runUnderlying93 w) (Tryz.sizeOf4 w) rfl rfl (vlen RB h17 rfl) (vne h17)) ?_
           obtain ⟨t21_6, ht21_6, hm⟩ := bindO hm
           refine KO RB 1 0 false (fun w => Tryz.sizeOf4 w) rfl rfl rfl rfl h17 rfl (Nat.add_zero _).symm rfl h43 rfl rfl (Option.some.inj ht21_6) (fun h44 => ?_)
           refine jT (S' := [_]) (vs' := [_, _]) [0] [0, 1] 0 rfl rfl rfl rfl (jv (jt ?_))
           obtain rfl := sj hm
           exact jg () (h44) (sE rfl) (fun w hh => hh)
        ·replace hm := ifE h34 hm
         refine g_k rfl rfl rfl rfl (g_k rfl rfl rfl rfl (g_k rfl rfl rfl rfl ?_))
         refine kM rfl rfl rfl rfl rfl ?_
         refine kM rfl rfl rfl rfl rfl ?_
         refine kM rfl rfl rfl rfl rfl ?_
         refine g_k rfl rfl rfl rfl (j3 rfl rfl rfl (je rfl rfl (g_k rfl rfl rfl rfl (g_k rfl rfl rfl rfl (g_k rfl rfl rfl rfl (g_k rfl rfl rfl rfl (g_k rfl rfl rfl rfl ?_)))))))
         refine g_k rfl rfl rfl rfl (g_k rfl rfl rfl rfl (g_k rfl rfl rfl rfl (j3 rfl rfl rfl ?_)))
         obtain ⟨t56_6, h45, hm⟩ := bindO hm
         refine jc rfl rfl rfl (fun w _ => qx h45 (Tryz.runUnderlying93 w) (Tryz.sizeOf4 w) rfl rfl (vlen RB h17 rfl) (vne h17)) ?_
         obtain ⟨t21_7, ht21_7, hm⟩ := bindO hm
         refine KO RB 1 0 false (fun w => Tryz.sizeOf4 w) rfl rfl rfl rfl h17 rfl (Nat.add_zero _).symm rfl h45 rfl rfl (Option.some.inj ht21_7) (fun h46 => ?_)
         refine jT (S' := [_]) (vs' := [_, _]) [0] [0, 1] 0 rfl rfl rfl rfl (jv (jt ?_))
         obtain rfl := sj hm
         exact jg () (h46) (sE rfl) (fun w hh => hh)
      ·intro l_4 hj
       have h22 := hj
       replace hm := h21
       refine ja (jh (je rfl rfl ?_))
       obtain ⟨t27, h47, hm⟩ := bindO hm
       refine qs h47 rfl rfl rfl (jk rfl rfl (jv ?_))
       obtain rfl := sj hm
       refine ja ?_
       exact jA _ () rfl (h22) (sE rfl) (fun w hh => hh)
     ·replace hm := ifE h19 hm
      refine jS (jl (jl (jG ?_)))
      obtain rfl := sj hm
      have hbo := h18 _ rfl
      subst hbo
      exact jg () (h17) (sE rfl) (fun w hh => hh)
    ·intro l_2 hj
     have h16 := hj
     replace hm := h15
     refine ja (jh (je rfl rfl (je rfl rfl ?_)))
     refine kG RwH [(⟨L.q, L.n, L.cap, L.sp⟩ : VL)] (ps := [(0, _)]) (cells := [_]) (fun w => Tryz.runUnderlying46 w) (fun w => Tryz.sizeOf93 w) (fun w => Tryz.zeroValue93 w) rfl rfl rfl rfl rfl rfl rfl rfl (fun L_1 h48 => ?_)
     refine jal (E2 := 4) RB 1 (rfl : _ = ([[]] : List (List Bool))) (fun h49 => ?_)
     refine jT (S' := [_]) (vs' := [_, _, _]) [0] [0, 2, 1] 0 rfl rfl rfl rfl ?_
     refine jah RB (l' := [o_1]) 0 L.n L.cap h49 h16 rfl rfl (fun h50 => ?_)
     have h51 : DOK RB [o_1] [(⟨L.q, L.n, L.cap, L.sp⟩ : VL)] := h50
     refine jbb (S' := [_]) (vs' := [⟨93, RwH.enc [(⟨L.q, L.n, L.cap, L.sp⟩ : VL)], L_1.sp, L_1.q, dbl 4 RB [o_1] [(⟨L.q, L.n, L.cap, L.sp⟩ : VL)]⟩, ⟨93, RwH.enc l_1.rs, l_1.v.sp, l_1.v.q, dbl 4 RB s.out7 l_1.rs⟩]) [0] [0, 1] 0 (by decide) (by decide) rfl rfl rfl ?_
     obtain ⟨t60, h52, hm⟩ := bindO hm
     refine yh RwH 1 (appcL h52 (h9).len (h51).len) Tryz.underlying46 jac rfl rfl rfl rfl rfl h8 rfl rfl (vlen RwH h48 rfl) (AOK.q (vne h48)) (fun w hh => (hh.vsegA 0 rfl h48)) rfl (fun L_2 h53 _ => ?_)
     refine jT (S' := [_]) (vs' := [_, _]) [0] [0, 1] 0 rfl rfl rfl rfl (jT (S' := [_]) (vs' := [_, _]) [0] [1, 0] 0 rfl rfl rfl rfl ?_)
     refine Z8 RB h9 h51 (appcO h52).1.symm (fun h54 => ?_)
     refine jk rfl rfl (jv (jt (ja (jh (je rfl rfl ?_)))))
     obtain ⟨t17, h55, hm⟩ := bindO hm
     refine qs h55 rfl rfl rfl (jk rfl rfl (jv ?_))
     obtain rfl := sj hm
     refine ja ?_
     exact jA _ (⟨⟨L_2.q, L_2.n, L_2.cap, L_2.sp⟩, (l_1.rs ++ [(⟨L.q, L.n, L.cap, L.sp⟩ : VL)])⟩) rfl (⟨h53, h54⟩) (sE rfl) (fun w hh => hh)
   ·replace hm := ifE h11 hm
    refine jS (jl (jl (jG ?_)))
    obtain rfl := sj hm
    have hbo := h10 _ rfl
    subst hbo
    exact jg l_1 (⟨h8, h9⟩) (sE rfl) (fun w hh => hh)
  ·intro l hj
   obtain ⟨h6, h7⟩ := hj
   replace hm := h5
   refine ja (jq (je rfl rfl (jk rfl rfl (jp (jw ?_)))))
   obtain rfl := sj hm
   refine jm rfl (fun w hh => (.tmp rfl .nil)) (fun w hh => ⟨l, rfl, ⟨h6, h7⟩, hh.se [] [0] 2 rfl rfl rfl rfl⟩)
structure Zu where
  t2_can : (List Bool)
  t2_least : (List Int)
  t2_most : (List Int)
def J6 (n0 : Int) : Option Book :=
 ((makec 1 false n0 n0).bind fun t4 =>
 (makec 8 0 n0 n0).bind fun t6 =>
 (makec 8 0 n0 n0).bind fun t8 =>
 some (⟨t4, t6, t8⟩ : Zu)).bind fun o =>
 some (⟨o.t2_can, o.t2_least, o.t2_most⟩ : Book)
theorem Zq (n0 : Int)  (w : World) (hw : HV w (keys [] []) [] [] [] w)  {res : Book} (hm : J6 n0 = some res) :
    Calls Tryz.prog 53 #[.int .i64 n0] w (fun en w' => ∃ l : VL × VL × VL, en = .returned (.agg #[slv l.1.q l.1.n l.1.cap, slv l.2.1.q l.2.1.n l.2.1.cap, slv l.2.2.q l.2.2.n l.2.2.cap]) ∧ (VOK 1 l.1.n l.1.cap (RB.enc res.can) l.1.sp l.1.q ∧ VOK 1 l.2.1.n l.2.1.cap (RI.enc res.least) l.2.1.sp l.2.1.q ∧ VOK 1 l.2.2.n l.2.2.cap (RI.enc res.most) l.2.2.sp l.2.2.q) ∧ HV w (keys [] []) [] [⟨4, RB.enc res.can, l.1.sp, l.1.q, []⟩, ⟨3, RI.enc res.least, l.2.1.sp, l.2.1.q, []⟩, ⟨3, RI.enc res.most, l.2.2.sp, l.2.2.q, []⟩] [] w') := by
  unfold J6 at hm
  refine j5 Tryz.func53 rfl Tryz.ntmps53 rfl (e := [(0, _)]) rfl hw (jq ?_)
  refine jo (fun w => Tryz.zeroValue102 w) rfl (fun b h4 => ?_)
  refine jp (jj (kC 4 (kC 3 (kC 3 ?_))))
  obtain ⟨o, h5, h6⟩ := bindO hm
  refine jF (ι := VL × VL × VL) (fun l => VOK 1 l.1.n l.1.cap (RB.enc o.t2_can) l.1.sp l.1.q ∧ VOK 1 l.2.1.n l.2.1.cap (RI.enc o.t2_least) l.2.1.sp l.2.1.q ∧ VOK 1 l.2.2.n l.2.2.cap (RI.enc o.t2_most) l.2.2.sp l.2.2.q) (fun l => [(2, ptr b 0)]) (fun l => [(b, .cells #[slv l.1.q l.1.n l.1.cap, slv l.2.1.q l.2.1.n l.2.1.cap, slv l.2.2.q l.2.2.n l.2.2.cap] 102 (0, 0))]) (fun l => [⟨4, RB.enc o.t2_can, l.1.sp, l.1.q, []⟩, ⟨3, RI.enc o.t2_least, l.2.1.sp, l.2.1.q, []⟩, ⟨3, RI.enc o.t2_most, l.2.2.sp, l.2.2.q, []⟩]) ?_ ?_
  ·replace hm := h5
   obtain ⟨t4, h10, hm⟩ := bindO hm
   obtain ⟨t6, h11, hm⟩ := bindO hm
   obtain ⟨t8, h12, hm⟩ := bindO hm
   refine jX none (.free 0 (.free 2 (.free 4 (.br (.alt 1 (.br (.alt 3 (.one 5 (.free 6 (.one 7 .done))) (.alt 5 (.one 3 (.free 6 (.one 7 .done))) .nil))) (.alt 3 (.br (.alt 1 (.one 5 (.free 6 (.one 7 .done))) (.alt 5 (.one 1 (.free 6 (.one 7 .done))) .nil))) (.alt 5 (.br (.alt 1 (.one 3 (.free 6 (.one 7 .done))) (.alt 3 (.one 1 (.free 6 (.one 7 .done))) .nil))) .nil))))))) (HV _ _ [] [⟨3, RI.enc [], [], none, []⟩, ⟨3, RI.enc [], [], none, []⟩, ⟨4, RB.enc [], [], none, []⟩] _) rfl (by decide +kernel) (fun w k hh => hh.draw k) (hsE [] [0, 1, 2] 0 rfl rfl rfl rfl) ?_
   refine ku rfl rfl rfl (ku rfl rfl rfl (ku rfl rfl rfl (YH ?_)))
   refine kN rfl ?_ ?_
   ·refine ks RB false h10 Tryz.underlying93 Yg rfl rfl rfl rfl rfl (fun L h13 => ?_)
    refine jr (hsE [] [1, 2, 3] 0 rfl rfl rfl rfl) (YH ?_)
    refine kN rfl ?_ ?_
    ·refine ks RI 0 h11 Tryz.underlying26 JM rfl rfl rfl rfl rfl (fun L_1 h14 => ?_)
     refine jr (hsE [] [2, 3, 4] 0 rfl rfl rfl rfl) (jE rfl ?_)
     refine ks RI 0 h12 Tryz.underlying26 JM rfl rfl rfl rfl rfl (fun L_2 h15 => ?_)
     refine jr (hsE [] [3, 4, 5] 0 rfl rfl rfl rfl) (ji rfl rfl rfl rfl (fun _ _ => jz (vs := [(0, _), (1, _), (2, _)]) (cells := [_, _, _]) rfl rfl) (jE rfl (jy (us := #[_, _, _]) (cs' := [_, _, _]) (S' := [_]) 0 (fun w => Tryz.sizeOf102 w) rfl rfl rfl rfl rfl rfl rfl (jr (hsE [] [3, 4, 5] 0 rfl rfl rfl rfl) (jM ?_)))))
     obtain rfl := sj hm
     exact jg (L, L_1, L_2) (⟨h13, h14, h15⟩) (sE rfl) (hsE [0] [2, 1, 0] 0 rfl rfl rfl rfl)
    refine kN rfl ?_ ?_
    ·refine ks RI 0 h12 Tryz.underlying26 JM rfl rfl rfl rfl rfl (fun L_3 h16 => ?_)
     refine jr (hsE [] [2, 3, 4] 0 rfl rfl rfl rfl) (jE rfl ?_)
     refine ks RI 0 h11 Tryz.underlying26 JM rfl rfl rfl rfl rfl (fun L_4 h17 => ?_)
     refine jr (hsE [] [3, 4, 5] 0 rfl rfl rfl rfl) (ji rfl rfl rfl rfl (fun _ _ => jz (vs := [(0, _), (1, _), (2, _)]) (cells := [_, _, _]) rfl rfl) (jE rfl (jy (us := #[_, _, _]) (cs' := [_, _, _]) (S' := [_]) 0 (fun w => Tryz.sizeOf102 w) rfl rfl rfl rfl rfl rfl rfl (jr (hsE [] [3, 4, 5] 0 rfl rfl rfl rfl) (jM ?_)))))
     obtain rfl := sj hm
     exact jg (L, L_4, L_3) (⟨h13, h17, h16⟩) (sE rfl) (hsE [0] [2, 0, 1] 0 rfl rfl rfl rfl)
    exact JU
   refine kN rfl ?_ ?_
   ·refine ks RI 0 h11 Tryz.underlying26 JM rfl rfl rfl rfl rfl (fun L_5 h18 => ?_)
    refine jr (hsE [] [1, 2, 3] 0 rfl rfl rfl rfl) (YH ?_)
    refine kN rfl ?_ ?_
    ·refine ks RB false h10 Tryz.underlying93 Yg rfl rfl rfl rfl rfl (fun L_6 h19 => ?_)
     refine jr (hsE [] [2, 3, 4] 0 rfl rfl rfl rfl) (jE rfl ?_)
     refine ks RI 0 h12 Tryz.underlying26 JM rfl rfl rfl rfl rfl (fun L_7 h20 => ?_)
     refine jr (hsE [] [3, 4, 5] 0 rfl rfl rfl rfl) (ji rfl rfl rfl rfl (fun _ _ => jz (vs := [(0, _), (1, _), (2, _)]) (cells := [_, _, _]) rfl rfl) (jE rfl (jy (us := #[_, _, _]) (cs' := [_, _, _]) (S' := [_]) 0 (fun w => Tryz.sizeOf102 w) rfl rfl rfl rfl rfl rfl rfl (jr (hsE [] [3, 4, 5] 0 rfl rfl rfl rfl) (jM ?_)))))
     obtain rfl := sj hm
     exact jg (L_6, L_5, L_7) (⟨h19, h18, h20⟩) (sE rfl) (hsE [0] [1, 2, 0] 0 rfl rfl rfl rfl)
    refine kN rfl ?_ ?_
    ·refine ks RI 0 h12 Tryz.underlying26 JM rfl rfl rfl rfl rfl (fun L_8 h21 => ?_)
     refine jr (hsE [] [2, 3, 4] 0 rfl rfl rfl rfl) (jE rfl ?_)
     refine ks RB false h10 Tryz.underlying93 Yg rfl rfl rfl rfl rfl (fun L_9 h22 => ?_)
     refine jr (hsE [] [3, 4, 5] 0 rfl rfl rfl rfl) (ji rfl rfl rfl rfl (fun _ _ => jz (vs := [(0, _), (1, _), (2, _)]) (cells := [_, _, _]) rfl rfl) (jE rfl (jy (us := #[_, _, _]) (cs' := [_, _, _]) (S' := [_]) 0 (fun w => Tryz.sizeOf102 w) rfl rfl rfl rfl rfl rfl rfl (jr (hsE [] [3, 4, 5] 0 rfl rfl rfl rfl) (jM ?_)))))
     obtain rfl := sj hm
     exact jg (L_9, L_5, L_8) (⟨h22, h18, h21⟩) (sE rfl) (hsE [0] [0, 2, 1] 0 rfl rfl rfl rfl)
    exact JU
   refine kN rfl ?_ ?_
   ·refine ks RI 0 h12 Tryz.underlying26 JM rfl rfl rfl rfl rfl (fun L_10 h23 => ?_)
    refine jr (hsE [] [1, 2, 3] 0 rfl rfl rfl rfl) (YH ?_)
    refine kN rfl ?_ ?_
    ·refine ks RB false h10 Tryz.underlying93 Yg rfl rfl rfl rfl rfl (fun L_11 h24 => ?_)
     refine jr (hsE [] [2, 3, 4] 0 rfl rfl rfl rfl) (jE rfl ?_)
     refine ks RI 0 h11 Tryz.underlying26 JM rfl rfl rfl rfl rfl (fun L_12 h25 => ?_)
     refine jr (hsE [] [3, 4, 5] 0 rfl rfl rfl rfl) (ji rfl rfl rfl rfl (fun _ _ => jz (vs := [(0, _), (1, _), (2, _)]) (cells := [_, _, _]) rfl rfl) (jE rfl (jy (us := #[_, _, _]) (cs' := [_, _, _]) (S' := [_]) 0 (fun w => Tryz.sizeOf102 w) rfl rfl rfl rfl rfl rfl rfl (jr (hsE [] [3, 4, 5] 0 rfl rfl rfl rfl) (jM ?_)))))
     obtain rfl := sj hm
     exact jg (L_11, L_12, L_10) (⟨h24, h25, h23⟩) (sE rfl) (hsE [0] [1, 0, 2] 0 rfl rfl rfl rfl)
    refine kN rfl ?_ ?_
    ·refine ks RI 0 h11 Tryz.underlying26 JM rfl rfl rfl rfl rfl (fun L_13 h26 => ?_)
     refine jr (hsE [] [2, 3, 4] 0 rfl rfl rfl rfl) (jE rfl ?_)
     refine ks RB false h10 Tryz.underlying93 Yg rfl rfl rfl rfl rfl (fun L_14 h27 => ?_)
     refine jr (hsE [] [3, 4, 5] 0 rfl rfl rfl rfl) (ji rfl rfl rfl rfl (fun _ _ => jz (vs := [(0, _), (1, _), (2, _)]) (cells := [_, _, _]) rfl rfl) (jE rfl (jy (us := #[_, _, _]) (cs' := [_, _, _]) (S' := [_]) 0 (fun w => Tryz.sizeOf102 w) rfl rfl rfl rfl rfl rfl rfl (jr (hsE [] [3, 4, 5] 0 rfl rfl rfl rfl) (jM ?_)))))
     obtain rfl := sj hm
     exact jg (L_14, L_13, L_10) (⟨h27, h26, h23⟩) (sE rfl) (hsE [0] [0, 1, 2] 0 rfl rfl rfl rfl)
    exact JU
   exact JU
  ·intro l hj
   obtain ⟨h7, h8, h9⟩ := hj
   replace hm := h6
   refine ja (jw ?_)
   obtain rfl := sj hm
   refine jm rfl (fun w hh => (.cell rfl (loadVar_agg (vs := [_, _, _]) (Tryz.isAgg102 _) (Tryz.sizeOf102 _) (hh.cells 0 rfl rfl)) .nil)) (fun w hh => ⟨(l.1, l.2.1, l.2.2), rfl, ⟨h7, h8, h9⟩, hh.se [] [0, 1, 2] 0 rfl rfl rfl rfl⟩)
def QA (s0 : Scalps) (strip1 : Int) : Option Span :=
 (ix s0.strips strip1).bind fun t9 =>
 (addc t9.lay.lo t9.seeded.lo).bind fun t17 =>
 (subc t17 t9.left.hi).bind fun t21 =>
 (addc t9.lay.hi t9.seeded.hi).bind fun t29 =>
 (subc t29 t9.left.lo).bind fun t33 =>
 some (⟨(max 0 t21), t33⟩ : Span)
theorem jav (s0 : Scalps) (strip1 : Int) (qa0 : Option Addr) (na0 ca0 : Nat) (qa1 : Option Addr) (na1 ca1 : Nat) (w : World) (hw : HV w (keys [] []) [] [] [(aB qa0, aO qa0, RSt.enc s0.strips), (aB qa1, aO qa1, RSp.enc s0.carried)] w) (hna0 : s0.strips.length = na0) (hqa0 : AOK na0 qa0) (hla0 : na0 ≤ ca0) (hna1 : s0.carried.length = na1) (hqa1 : AOK na1 qa1) (hla1 : na1 ≤ ca1) {res : Span} (hm : QA s0 strip1 = some res) :
    Calls Tryz.prog 35 #[.agg #[.slice qa0 na0 ca0, .slice qa1 na1 ca1], .int .i64 strip1] w (fun en w' => ∃ l : Unit, en = .returned (.agg #[.int .i64 res.lo, .int .i64 res.hi]) ∧ (True) ∧ HV w (keys [] []) [] [] [] w') := by
  unfold QA at hm
  refine j5 Tryz.func35 rfl Tryz.ntmps35 rfl (e := [(0, _), (1, _)]) rfl hw (jq ?_)
  refine jC rfl rfl (fun b h1 => ?_)
  refine jo (fun w => Tryz.zeroValue32 w) rfl (fun b_1 h2 => ?_)
  refine j0 (jP 0 Tryz.runUnderlying38 rfl Tryz.sizeOf36 rfl rfl (jY 1 Tryz.isAgg36 rfl rfl rfl rfl (je rfl rfl ?_)))
  obtain ⟨t9, h3, hm⟩ := bindO hm
  refine jc rfl rfl rfl (fun w _ => ki h3 (Tryz.runUnderlying36 w) (Tryz.sizeOf98 w) rfl rfl hna0 hqa0) ?_
  refine jc rfl rfl rfl (fun w hh => kt RSt 0 [.int .i64 t9.tenant, .int .i64 t9.lay.lo, .int .i64 t9.lay.hi, .int .i64 t9.seeded.lo, .int .i64 t9.seeded.hi, .int .i64 t9.left.lo, .int .i64 t9.left.hi] h3 (Tryz.isAgg98 w) (Tryz.sizeOf98 w) rfl (hh.seg 0 rfl) rfl (Nat.add_zero _).symm) ?_
  refine jo (fun w => Tryz.zeroValue98 w) rfl (fun b_2 h4 => ?_)
  refine jy (us := #[_, _, _, _, _, _, _]) (cs' := [_, _, _, _, _, _, _]) (S' := [_, _, _]) 0 (fun w => Tryz.sizeOf98 w) rfl rfl rfl rfl rfl rfl rfl (j0 (jP 1 Tryz.runUnderlying98 rfl Tryz.sizeOf32 rfl rfl (jP 0 Tryz.runUnderlying32 rfl Tryz.sizeOf3 rfl rfl (jY 0 Tryz.isAgg3 rfl rfl rfl rfl (jP 3 Tryz.runUnderlying98 rfl Tryz.sizeOf32 rfl rfl (jP 0 Tryz.runUnderlying32 rfl Tryz.sizeOf3 rfl rfl (jY 0 Tryz.isAgg3 rfl rfl rfl rfl ?_)))))))
  obtain ⟨t17, h5, hm⟩ := bindO hm
  refine qs h5 rfl rfl rfl (jP 5 Tryz.runUnderlying98 rfl Tryz.sizeOf32 rfl rfl (jP 1 Tryz.runUnderlying32 rfl Tryz.sizeOf3 rfl rfl (jY 0 Tryz.isAgg3 rfl rfl rfl rfl ?_)))
  obtain ⟨t21, h6, hm⟩ := bindO hm
  refine jc rfl rfl rfl (fun _ _ => yb h6 rfl rfl) (jc rfl rfl rfl (fun _ _ => Z5 rfl rfl) (jP 1 Tryz.runUnderlying98 rfl Tryz.sizeOf32 rfl rfl (jP 1 Tryz.runUnderlying32 rfl Tryz.sizeOf3 rfl rfl (jY 0 Tryz.isAgg3 rfl rfl rfl rfl (jP 3 Tryz.runUnderlying98 rfl Tryz.sizeOf32 rfl rfl (jP 1 Tryz.runUnderlying32 rfl Tryz.sizeOf3 rfl rfl (jY 0 Tryz.isAgg3 rfl rfl rfl rfl ?_)))))))
  obtain ⟨t29, h7, hm⟩ := bindO hm
  refine qs h7 rfl rfl rfl (jP 5 Tryz.runUnderlying98 rfl Tryz.sizeOf32 rfl rfl (jP 0 Tryz.runUnderlying32 rfl Tryz.sizeOf3 rfl rfl (jY 0 Tryz.isAgg3 rfl rfl rfl rfl ?_)))
  obtain ⟨t33, h8, hm⟩ := bindO hm
  refine jc rfl rfl rfl (fun _ _ => yb h8 rfl rfl) (jc rfl rfl rfl (fun _ _ => jz (vs := [(0, _), (1, _)]) (cells := [_, _]) rfl rfl) (jy (us := #[_, _]) (cs' := [_, _]) (S' := [_, _, _]) 1 (fun w => Tryz.sizeOf32 w) rfl rfl rfl rfl rfl rfl rfl (jp (jw ?_))))
  obtain rfl := sj hm
  refine jm rfl (fun w hh => (.cell rfl (loadVar_agg (vs := [_, _]) (Tryz.isAgg32 _) (Tryz.sizeOf32 _) (hh.cells 1 rfl rfl)) .nil)) (fun w hh => ⟨(), rfl, trivial, hh.se [] [] 2 rfl rfl rfl rfl⟩)
structure KC where
  b0_can : (List Bool)
  b0_least : (List Int)
  b0_most : (List Int)
structure Qs where
  b0_can : (List Bool)
  b0_least : (List Int)
  b0_most : (List Int)
def Jt (b0 : Book) (at1 : Int) (least2 : Int) (most3 : Int) : Option KC :=
 ((ix b0.can at1).bind fun t11 =>
 if (!t11) = true then
 ((ix b0.can at1).bind fun t25 =>
 (some (b0.can.set (Int.toNat at1) true)).bind fun b0_can =>
 (ix b0.least at1).bind fun t26 =>
 (some (b0.least.set (Int.toNat at1) least2)).bind fun b0_least =>
 (ix b0.most at1).bind fun t27 =>
 (some (b0.most.set (Int.toNat at1) most3)).bind fun b0_most =>
 some (⟨b0_can, b0_least, b0_most⟩ : Qs)) else
 (some (⟨b0.can, b0.least, b0.most⟩ : Qs))).bind fun o =>
 (ix o.b0_least at1).bind fun t34 =>
 (ix o.b0_least at1).bind fun t38 =>
 (some (o.b0_least.set (Int.toNat at1) (min t34 least2))).bind fun b0_least_1 =>
 (ix o.b0_most at1).bind fun t45 =>
 (ix o.b0_most at1).bind fun t49 =>
 (some (o.b0_most.set (Int.toNat at1) (max t45 most3))).bind fun b0_most_1 =>
 some (⟨o.b0_can, b0_least_1, b0_most_1⟩ : KC)
theorem ZD (b0 : Book) (at1 : Int) (least2 : Int) (most3 : Int) (V_b0_can : VL) (V_b0_least : VL) (V_b0_most : VL) (w : World) (hw : HV w (keys [] [⟨4, RB.enc b0.can, V_b0_can.sp, V_b0_can.q, []⟩, ⟨3, RI.enc b0.least, V_b0_least.sp, V_b0_least.q, []⟩, ⟨3, RI.enc b0.most, V_b0_most.sp, V_b0_most.q, []⟩]) [] [⟨4, RB.enc b0.can, V_b0_can.sp, V_b0_can.q, []⟩, ⟨3, RI.enc b0.least, V_b0_least.sp, V_b0_least.q, []⟩, ⟨3, RI.enc b0.most, V_b0_most.sp, V_b0_most.q, []⟩] [] w) (hv_b0_can : VOK 1 V_b0_can.n V_b0_can.cap (RB.enc b0.can) V_b0_can.sp V_b0_can.q) (hv_b0_least : VOK 1 V_b0_least.n V_b0_least.cap (RI.enc b0.least) V_b0_least.sp V_b0_least.q) (hv_b0_most : VOK 1 V_b0_most.n V_b0_most.cap (RI.enc b0.most) V_b0_most.sp V_b0_most.q) {res : KC} (hm : Jt b0 at1 least2 most3 = some res) :
    Calls Tryz.prog 102 #[.agg #[slv V_b0_can.q V_b0_can.n V_b0_can.cap, slv V_b0_least.q V_b0_least.n V_b0_least.cap, slv V_b0_most.q V_b0_most.n V_b0_most.cap], .int .i64 at1, .int .i64 least2, .int .i64 most3] w (fun en w' => ∃ l : Unit, en = .returned (.tuple #[]) ∧ (VOK 1 V_b0_can.n V_b0_can.cap (RB.enc res.b0_can) V_b0_can.sp V_b0_can.q ∧ VOK 1 V_b0_least.n V_b0_least.cap (RI.enc res.b0_least) V_b0_least.sp V_b0_least.q ∧ VOK 1 V_b0_most.n V_b0_most.cap (RI.enc res.b0_most) V_b0_most.sp V_b0_most.q) ∧ HV w (keys [] [⟨4, RB.enc b0.can, V_b0_can.sp, V_b0_can.q, []⟩, ⟨3, RI.enc b0.least, V_b0_least.sp, V_b0_least.q, []⟩, ⟨3, RI.enc b0.most, V_b0_most.sp, V_b0_most.q, []⟩]) [] [⟨4, RB.enc res.b0_can, V_b0_can.sp, V_b0_can.q, []⟩, ⟨3, RI.enc res.b0_least, V_b0_least.sp, V_b0_least.q, []⟩, ⟨3, RI.enc res.b0_most, V_b0_most.sp, V_b0_most.q, []⟩] [] w') := by
  unfold Jt at hm
  refine j5 Tryz.func102 rfl Tryz.ntmps102 rfl (e := [(0, _), (1, _), (2, _), (3, _)]) rfl hw (jq ?_)
  refine jC rfl rfl (fun b h4 => ?_)
  refine jp (jj ?_)
  obtain ⟨o, h5, h6⟩ := bindO hm
  refine jF (ι := Unit) (fun l => VOK 1 V_b0_can.n V_b0_can.cap (RB.enc o.b0_can) V_b0_can.sp V_b0_can.q ∧ VOK 1 V_b0_least.n V_b0_least.cap (RI.enc o.b0_least) V_b0_least.sp V_b0_least.q ∧ VOK 1 V_b0_most.n V_b0_most.cap (RI.enc o.b0_most) V_b0_most.sp V_b0_most.q) (fun l => [(1, .int .i64 at1), (2, .int .i64 least2), (3, .int .i64 most3), (4, ptr b 0)]) (fun l => [(b, .cells #[slv V_b0_can.q V_b0_can.n V_b0_can.cap, slv V_b0_least.q V_b0_least.n V_b0_least.cap, slv V_b0_most.q V_b0_most.n V_b0_most.cap] 102 (0, 0))]) (fun l => [⟨4, RB.enc o.b0_can, V_b0_can.sp, V_b0_can.q, []⟩, ⟨3, RI.enc o.b0_least, V_b0_least.sp, V_b0_least.q, []⟩, ⟨3, RI.enc o.b0_most, V_b0_most.sp, V_b0_most.q, []⟩]) ?_ ?_
  ·replace hm := h5
   refine jq (jP 0 Tryz.runUnderlying102 rfl Tryz.sizeOf93 rfl rfl (jY 0 Tryz.isAgg93 rfl rfl rfl rfl (je rfl rfl ?_)))
   obtain ⟨t11, h10, hm⟩ := bindO hm
   refine jc rfl rfl rfl (fun w _ => qx h10 (Tryz.runUnderlying93 w) (Tryz.sizeOf4 w) rfl rfl (vlen RB hv_b0_can rfl) (vne hv_b0_can)) (jc rfl rfl rfl (fun w hh => kl RB 0 h10 (Tryz.isAgg4 w) rfl (hh.vseg 0 rfl hv_b0_can) rfl (Nat.add_zero _).symm) (jc rfl rfl rfl (fun _ _ => kE rfl) (jp ?_)))
   refine js rfl (fun h11 => ?_) (fun h11 => ?_)
   ·replace hm := ifT (h11) hm
    refine jX none (.free 0 (.hoist 1 (.free 2 (.free 3 (.hoist 4 (.free 5 (.free 6 (.hoist 7 (.free 8 (.free 9 (.free 10 (.free 11 (.one 12 (.free 13 (.one 14 (.free 15 (.one 16 .done))))))))))))))))) (HV _ _ [(b, .cells #[slv V_b0_can.q V_b0_can.n V_b0_can.cap, slv V_b0_least.q V_b0_least.n V_b0_least.cap, slv V_b0_most.q V_b0_most.n V_b0_most.cap] 102 (0, 0))] [] _) rfl (by decide +kernel) (fun w k hh => hh.draw k) (hsE [0] [] 0 rfl rfl rfl rfl) ?_
    refine k5 0 Tryz.runUnderlying102 Tryz.sizeOf93 rfl rfl rfl rfl (qY 0 Tryz.isAgg93 rfl rfl rfl rfl rfl (ku rfl rfl rfl (k5 1 Tryz.runUnderlying102 Tryz.sizeOf26 rfl rfl rfl rfl (qY 0 Tryz.isAgg26 rfl rfl rfl rfl rfl (ku rfl rfl rfl (k5 2 Tryz.runUnderlying102 Tryz.sizeOf26 rfl rfl rfl rfl (qY 0 Tryz.isAgg26 rfl rfl rfl rfl rfl ?_)))))))
    refine ku rfl rfl rfl (ku rfl rfl rfl (ku rfl rfl rfl ?_))
    obtain ⟨t25, h12, hm⟩ := bindO hm
    refine ji rfl rfl rfl rfl (fun w _ => qx h12 (Tryz.runUnderlying93 w) (Tryz.sizeOf4 w) rfl rfl (vlen RB hv_b0_can rfl) (vne hv_b0_can)) (jE rfl ?_)
    obtain ⟨b0_can, hb0_can, hm⟩ := bindO hm
    refine KO RB 0 0 true (fun w => Tryz.sizeOf4 w) rfl rfl rfl rfl hv_b0_can rfl (Nat.add_zero _).symm rfl h12 rfl rfl (Option.some.inj hb0_can) (fun h13 => ?_)
    refine jT (S' := [_]) (vs' := [_, _, _]) [0] [0, 1, 2] 0 rfl rfl rfl rfl (jr (hsE [0] [] 0 rfl rfl rfl rfl) ?_)
    obtain ⟨t26, h14, hm⟩ := bindO hm
    refine ji rfl rfl rfl rfl (fun w _ => qx h14 (Tryz.runUnderlying26 w) (Tryz.sizeOf3 w) rfl rfl (vlen RI hv_b0_least rfl) (vne hv_b0_least)) (jE rfl ?_)
    obtain ⟨b0_least, hb0_least, hm⟩ := bindO hm
    refine KO RI 1 0 least2 (fun w => Tryz.sizeOf3 w) rfl rfl rfl rfl hv_b0_least rfl (Nat.add_zero _).symm rfl h14 rfl rfl (Option.some.inj hb0_least) (fun h15 => ?_)
    refine jT (S' := [_]) (vs' := [_, _, _]) [0] [0, 1, 2] 0 rfl rfl rfl rfl (jr (hsE [0] [] 0 rfl rfl rfl rfl) ?_)
    obtain ⟨t27, h16, hm⟩ := bindO hm
    refine ji rfl rfl rfl rfl (fun w _ => qx h16 (Tryz.runUnderlying26 w) (Tryz.sizeOf3 w) rfl rfl (vlen RI hv_b0_most rfl) (vne hv_b0_most)) (jE rfl ?_)
    obtain ⟨b0_most, hb0_most, hm⟩ := bindO hm
    refine KO RI 2 0 most3 (fun w => Tryz.sizeOf3 w) rfl rfl rfl rfl hv_b0_most rfl (Nat.add_zero _).symm rfl h16 rfl rfl (Option.some.inj hb0_most) (fun h17 => ?_)
    refine jT (S' := [_]) (vs' := [_, _, _]) [0] [0, 1, 2] 0 rfl rfl rfl rfl (jr (hsE [0] [] 0 rfl rfl rfl rfl) (jM ?_))
    obtain rfl := sj hm
    exact jg () (⟨h13, h15, h17⟩) (sE rfl) (fun w hh => hh)
   ·replace hm := ifN h11 hm
    refine ju ?_
    obtain rfl := sj hm
    exact jg () (⟨hv_b0_can, hv_b0_least, hv_b0_most⟩) (sE rfl) (fun w hh => hh)
  ·intro l hj
   obtain ⟨h7, h8, h9⟩ := hj
   replace hm := h6
   refine ja (jj ?_)
   refine jX (some 11) (.free 0 (.hoist 1 (.free 2 (.free 3 (.hoist 4 (.free 5 (.free 6 (.hoist 7 (.free 8 (.free 9 (.free 10 (.last 11 .done)))))))))))) _ rfl (by decide +kernel) (fun w k hh => hh.draw k) (fun w hh => hh) ?_
   refine k5 1 Tryz.runUnderlying102 Tryz.sizeOf26 rfl rfl rfl rfl (qY 0 Tryz.isAgg26 rfl rfl rfl rfl rfl (ku rfl rfl rfl (k5 1 Tryz.runUnderlying102 Tryz.sizeOf26 rfl rfl rfl rfl (qY 0 Tryz.isAgg26 rfl rfl rfl rfl rfl (ku rfl rfl rfl ?_)))))
   obtain ⟨t34, h18, hm⟩ := bindO hm
   refine ji rfl rfl rfl rfl (fun w _ => qx h18 (Tryz.runUnderlying26 w) (Tryz.sizeOf3 w) rfl rfl (vlen RI h8 rfl) (vne h8)) (jD rfl rfl rfl rfl (fun w hh => kl RI 0 h18 (Tryz.isAgg3 w) rfl (hh.vseg 1 rfl h8) rfl (Nat.add_zero _).symm) (ku rfl rfl rfl (ji rfl rfl rfl rfl (fun _ _ => jas rfl rfl) ?_)))
   obtain ⟨t38, h19, hm⟩ := bindO hm
   refine ji rfl rfl rfl rfl (fun w _ => qx h19 (Tryz.runUnderlying26 w) (Tryz.sizeOf3 w) rfl rfl (vlen RI h8 rfl) (vne h8)) (Q2 rfl ?_)
   obtain ⟨b0_least_1, hb0_least_1, hm⟩ := bindO hm
   refine KO RI 1 0 (min t34 least2) (fun w => Tryz.sizeOf3 w) rfl rfl rfl rfl h8 rfl (Nat.add_zero _).symm rfl h19 rfl rfl (Option.some.inj hb0_least_1) (fun h20 => ?_)
   refine jT (S' := [_]) (vs' := [_, _, _]) [0] [0, 1, 2] 0 rfl rfl rfl rfl (K0 (jM (ja ?_)))
   refine jX (some 11) (.free 0 (.hoist 1 (.free 2 (.free 3 (.hoist 4 (.free 5 (.free 6 (.hoist 7 (.free 8 (.free 9 (.free 10 (.last 11 .done)))))))))))) _ rfl (by decide +kernel) (fun w k hh => hh.draw k) (fun w hh => hh) ?_
   refine k5 2 Tryz.runUnderlying102 Tryz.sizeOf26 rfl rfl rfl rfl (qY 0 Tryz.isAgg26 rfl rfl rfl rfl rfl (ku rfl rfl rfl (k5 2 Tryz.runUnderlying102 Tryz.sizeOf26 rfl rfl rfl rfl (qY 0 Tryz.isAgg26 rfl rfl rfl rfl rfl (ku rfl rfl rfl ?_)))))
   obtain ⟨t45, h21, hm⟩ := bindO hm
   refine ji rfl rfl rfl rfl (fun w _ => qx h21 (Tryz.runUnderlying26 w) (Tryz.sizeOf3 w) rfl rfl (vlen RI h9 rfl) (vne h9)) (jD rfl rfl rfl rfl (fun w hh => kl RI 0 h21 (Tryz.isAgg3 w) rfl (hh.vseg 2 rfl h9) rfl (Nat.add_zero _).symm) (ku rfl rfl rfl (ji rfl rfl rfl rfl (fun _ _ => Z5 rfl rfl) ?_)))
   obtain ⟨t49, h22, hm⟩ := bindO hm
   refine ji rfl rfl rfl rfl (fun w _ => qx h22 (Tryz.runUnderlying26 w) (Tryz.sizeOf3 w) rfl rfl (vlen RI h9 rfl) (vne h9)) (Q2 rfl ?_)
   obtain ⟨b0_most_1, hb0_most_1, hm⟩ := bindO hm
   refine KO RI 2 0 (max t45 most3) (fun w => Tryz.sizeOf3 w) rfl rfl rfl rfl h9 rfl (Nat.add_zero _).symm rfl h22 rfl rfl (Option.some.inj hb0_most_1) (fun h23 => ?_)
   refine jT (S' := [_]) (vs' := [_, _, _]) [0] [0, 1, 2] 0 rfl rfl rfl rfl (K0 (jM ?_))
   obtain rfl := sj hm
   refine JX rfl (fun w hh => .nil) (fun w hh => ⟨(), rfl, ⟨h7, h20, h23⟩, hh.se [] [0, 1, 2] 0 rfl rfl rfl rfl⟩)
def yL (strip2 : Int) (s0 : Scalps) (tenant1 : Int) (s : Int) : Option (Int ⊕ (Unit ⊕ Bool)) :=
 (addc strip2 1).bind fun t13 =>
 (subc (s0.strips.length : Int) 1).bind fun t17 =>
 if s ≤ (min t13 t17) then
 ((ix s0.strips s).bind fun t25 =>
 if t25.tenant = tenant1 then
 (some (.inr (.inr true))) else
 ((addc s 1).bind fun t21 =>
 some (.inl t21))) else
 (some (.inr (.inl ())))
def JC (s0 : Scalps) (tenant1 : Int) (strip2 : Int) : Option Bool :=
 (subc strip2 1).bind fun t9 =>
 (iterM FU (yL strip2 s0 tenant1) (max 0 t9)).bind fun o =>
 oc o (fun j => some false) (fun r_1 => some r_1)
theorem Zx (s0 : Scalps) (tenant1 : Int) (strip2 : Int) (qa0 : Option Addr) (na0 ca0 : Nat) (qa1 : Option Addr) (na1 ca1 : Nat) (w : World) (hw : HV w (keys [] []) [] [] [(aB qa0, aO qa0, RSt.enc s0.strips), (aB qa1, aO qa1, RSp.enc s0.carried)] w) (hna0 : s0.strips.length = na0) (hqa0 : AOK na0 qa0) (hla0 : na0 ≤ ca0) (hna1 : s0.carried.length = na1) (hqa1 : AOK na1 qa1) (hla1 : na1 ≤ ca1) {res : Bool} (hm : JC s0 tenant1 strip2 = some res) :
    Calls Tryz.prog 34 #[.agg #[.slice qa0 na0 ca0, .slice qa1 na1 ca1], .int .i64 tenant1, .int .i64 strip2] w (fun en w' => ∃ l : Unit, en = .returned (.bool res) ∧ (True) ∧ HV w (keys [] []) [] [] [] w') := by
  unfold JC at hm
  refine j5 Tryz.func34 rfl Tryz.ntmps34 rfl (e := [(0, _), (1, _), (2, _)]) rfl hw (jq ?_)
  refine jC rfl rfl (fun b h1 => ?_)
  refine jk rfl rfl (jp (jj (jq (je rfl rfl ?_))))
  obtain ⟨t9, h2, hm⟩ := bindO hm
  refine jc rfl rfl rfl (fun _ _ => yb h2 rfl rfl) (jc rfl rfl rfl (fun _ _ => Z5 rfl rfl) (jk rfl rfl (jp ?_)))
  obtain ⟨o, h3, h4⟩ := bindO hm
  refine jF (ι := Unit) (fun j => o = .inl j) (fun j => []) (fun j => [(b, .cells #[.slice qa0 na0 ca0, .slice qa1 na1 ca1] 38 (0, 0))]) (fun j => []) ?_ ?_
  ·replace hm := h3
   refine jn ?_
   refine jL (ι := Unit) hm (fun s l => True) (fun s l => [(1, .int .i64 tenant1), (2, .int .i64 strip2), (3, ptr b 0), (7, .int .i64 s)]) (fun s l => [(b, .cells #[.slice qa0 na0 ca0, .slice qa1 na1 ca1] 38 (0, 0))]) (fun s l => []) () (trivial) (sE rfl) (fun w hh => hh) (fun s l r hpl hm h5 => ?_)
   unfold yL at hm
   refine jj (jq (je rfl rfl (je rfl rfl ?_)))
   obtain ⟨t13, h6, hm⟩ := bindO hm
   refine qs h6 rfl rfl rfl (jP 0 Tryz.runUnderlying38 rfl Tryz.sizeOf36 rfl rfl (jY 0 Tryz.isAgg36 rfl rfl rfl rfl (jc rfl rfl rfl (fun w _ => jI hna0 (Tryz.runUnderlying36 w) rfl) ?_)))
   obtain ⟨t17, h7, hm⟩ := bindO hm
   refine jc rfl rfl rfl (fun _ _ => yb h7 rfl rfl) (jc rfl rfl rfl (fun _ _ => jas rfl rfl) (jc rfl rfl rfl (fun _ _ => ZF rfl rfl) (jp ?_)))
   refine js rfl (fun h8 => ?_) (fun h8 => ?_)
   ·replace hm := ifD h8 hm
    refine ju (ja (jj (jn (jq (jP 0 Tryz.runUnderlying38 rfl Tryz.sizeOf36 rfl rfl (jY 0 Tryz.isAgg36 rfl rfl rfl rfl (je rfl rfl ?_)))))))
    obtain ⟨t25, h9, hm⟩ := bindO hm
    refine jc rfl rfl rfl (fun w _ => ki h9 (Tryz.runUnderlying36 w) (Tryz.sizeOf98 w) rfl rfl hna0 hqa0) (jP 0 Tryz.runUnderlying98 rfl Tryz.sizeOf3 rfl rfl (jc rfl rfl rfl (fun w hh => kl RSt 0 h9 (Tryz.isAgg3 w) rfl (hh.seg 0 rfl) rfl rfl) (je rfl rfl (jc rfl rfl rfl (fun _ _ => yD rfl rfl) (jp ?_)))))
    refine js rfl (fun h10 => ?_) (fun h10 => ?_)
    ·replace hm := ifD h10 hm
     refine jq (jk rfl rfl (jp (jw (jx (jf (jf (jx ?_)))))))
     obtain rfl := sj hm
     have hbo := h5 _ rfl
     subst hbo
     refine jf ?_
     replace hm := ocR h4
     refine jf ?_
     obtain rfl := sj hm
     refine jm rfl (fun w hh => (.tmp rfl .nil)) (fun w hh => ⟨(), rfl, trivial, hh.se [] [] 2 rfl rfl rfl rfl⟩)
    ·replace hm := ifE h10 hm
     refine ju (jt (ja (jh (je rfl rfl ?_))))
     obtain ⟨t21, h11, hm⟩ := bindO hm
     refine qs h11 rfl rfl rfl (jk rfl rfl (jv ?_))
     obtain rfl := sj hm
     refine ja ?_
     exact jA _ () rfl (trivial) (sE rfl) (fun w hh => hh)
   ·replace hm := ifE h8 hm
    refine jS (jl (jl (jG ?_)))
    obtain rfl := sj hm
    have hbo := h5 _ rfl
    subst hbo
    exact jg () (rfl) (.nil) (fun w hh => hh)
  ·intro j hj
   have h12 := hj
   subst h12
   replace hm := ocL h4
   refine ja (jq (jk rfl rfl (jp (jw ?_))))
   obtain rfl := sj hm
   refine jm rfl (fun w hh => (.tmp rfl .nil)) (fun w hh => ⟨(), rfl, trivial, hh.se [] [] 2 rfl rfl rfl rfl⟩)
end Go.Proofs.Ws

namespace Go.Proofs.Ws
set_option maxHeartbeats 4000000
set_option maxRecDepth 100000
open Go Go.Fw Go.Gx Go.Sp
set_option linter.unusedVariables false
structure ye where
  next9_can : (List Bool)
  next9_least : (List Int)
  next9_most : (List Int)
structure QJ where
  next9_can : (List Bool)
  next9_least : (List Int)
  next9_most : (List Int)
structure Jk where
  step21 : Int
  i22 : Int
def ym (t3 : Int) (s0 : Scalps) (s : Jk) : Option (Jk ⊕ Int) :=
 if s.i22 < t3 then
 ((ix s0.carried s.i22).bind fun t53 =>
 (addc t53.hi 1).bind fun t56 =>
 (mulc s.step21 t56).bind fun t57 =>
 (addc s.i22 1).bind fun t48 =>
 some (.inl (⟨t57, t48⟩ : Jk))) else
 (some (.inr s.step21))
structure Qx where
  next9_can : (List Bool)
  next9_least : (List Int)
  next9_most : (List Int)
structure Jl where
  n25 : Int
  next9_can : (List Bool)
  next9_least : (List Int)
  next9_most : (List Int)
def zb (o_2 : Int) (c1 : (List (List Bool))) (t3 : Int) (k2 : Int) (o_1 : Int) (at4 : Int) (taken6 : Int) (least7 : Int) (most8 : Int) (rec_ : Scalps → (List (List Bool)) → Int → Int → Int → Int → Int → Int → Int → Book → Option ye) (s0 : Scalps) (t75 : Int) (s_1 : Jl) : Option (Jl ⊕ Qx) :=
 if s_1.n25 ≤ o_2 then
 (((ix c1 t3).bind fun t100 =>
 (ix t100 k2).bind fun t103 =>
 if t103 = true then
 (some s_1.n25) else
 (some 0)).bind fun o_4 =>
 (addc t3 1).bind fun t110 =>
 (mulc s_1.n25 o_1).bind fun t114 =>
 (addc at4 t114).bind fun t115 =>
 (addc taken6 s_1.n25).bind fun t119 =>
 (addc least7 o_4).bind fun t122 =>
 (addc most8 o_4).bind fun t125 =>
 (rec_ s0 c1 k2 t110 t115 t75 t119 t122 t125 (⟨s_1.next9_can, s_1.next9_least, s_1.next9_most⟩ : Book)).bind fun t127 =>
 (addc s_1.n25 1).bind fun t97 =>
 some (.inl (⟨t97, t127.next9_can, t127.next9_least, t127.next9_most⟩ : Jl))) else
 (some (.inr (⟨s_1.next9_can, s_1.next9_least, s_1.next9_most⟩ : Qx)))
def z9 (rec_ : Scalps → (List (List Bool)) → Int → Int → Int → Int → Int → Int → Int → Book → Option ye) (s0 : Scalps) (c1 : (List (List Bool))) (k2 : Int) (t3 : Int) (at4 : Int) (rest5 : Int) (taken6 : Int) (least7 : Int) (most8 : Int) (next9 : Book) : Option ye :=
 (QA s0 k2).bind fun t29 =>
 if t3 = (s0.carried.length : Int) then
 ((if t29.lo ≤ taken6 then
 ((Jt next9 at4 least7 most8).bind fun t43 =>
 some (⟨t43.b0_can, t43.b0_least, t43.b0_most⟩ : QJ)) else
 (some (⟨next9.can, next9.least, next9.most⟩ : QJ))).bind fun o =>
 some (⟨o.next9_can, o.next9_least, o.next9_most⟩ : ye)) else
 ((iterM FU (ym t3 s0) (⟨1, 0⟩ : Jk)).bind fun o_1 =>
 (ix s0.carried t3).bind fun t62 =>
 (addc t62.hi 1).bind fun t65 =>
 (remc rest5 t65).bind fun t66 =>
 (ix s0.carried t3).bind fun t71 =>
 (addc t71.hi 1).bind fun t74 =>
 (quoc rest5 t74).bind fun t75 =>
 ((JC s0 t3 k2).bind fun t79 =>
 if t79 = true then
 ((ix s0.carried t3).bind fun t83 =>
 (subc t83.hi t66).bind fun t87 =>
 (subc t29.hi taken6).bind fun t91 =>
 some (min t87 t91)) else
 (some 0)).bind fun o_2 =>
 (iterM FU (zb o_2 c1 t3 k2 o_1 at4 taken6 least7 most8 rec_ s0 t75) (⟨0, next9.can, next9.least, next9.most⟩ : Jl)).bind fun o_3 =>
 some (⟨o_3.next9_can, o_3.next9_least, o_3.next9_most⟩ : ye))
def kW : Nat → Scalps → (List (List Bool)) → Int → Int → Int → Int → Int → Int → Int → Book → Option ye
  | 0, _, _, _, _, _, _, _, _, _, _ => none
  | fu + 1, s0, c1, k2, t3, at4, rest5, taken6, least7, most8, next9 => z9 (kW fu) s0 c1 k2 t3 at4 rest5 taken6 least7 most8 next9
theorem Z3 (fu_ : Nat) : ∀ (s0 : Scalps) (c1 : (List (List Bool))) (k2 : Int) (t3 : Int) (at4 : Int) (rest5 : Int) (taken6 : Int) (least7 : Int) (most8 : Int) (next9 : Book) (qa0 : Option Addr) (na0 ca0 : Nat) (qa1 : Option Addr) (na1 ca1 : Nat) (qa2 : Option Addr) (na2 ca2 : Nat) (ar2 : List AL) (V_next9_can : VL) (V_next9_least : VL) (V_next9_most : VL) (w : World) (hw : HV w (keys [] [⟨4, RB.enc next9.can, V_next9_can.sp, V_next9_can.q, []⟩, ⟨3, RI.enc next9.least, V_next9_least.sp, V_next9_least.q, []⟩, ⟨3, RI.enc next9.most, V_next9_most.sp, V_next9_most.q, []⟩]) [] [⟨4, RB.enc next9.can, V_next9_can.sp, V_next9_can.q, []⟩, ⟨3, RI.enc next9.least, V_next9_least.sp, V_next9_least.q, []⟩, ⟨3, RI.enc next9.most, V_next9_most.sp, V_next9_most.q, []⟩] [(aB qa0, aO qa0, RSt.enc s0.strips), (aB qa1, aO qa1, RSp.enc s0.carried), (aB qa2, aO qa2, RwA.enc ar2)] w) (hna0 : s0.strips.length = na0) (hqa0 : AOK na0 qa0) (hla0 : na0 ≤ ca0) (hna1 : s0.carried.length = na1) (hqa1 : AOK na1 qa1) (hla1 : na1 ≤ ca1) (hna2 : c1.length = na2) (hqa2 : AOK na2 qa2) (hla2 : na2 ≤ ca2) (hda2 : DRO c1 ar2) (hTa2 : ∀ t, t ∈ rsg RB c1 ar2 → segOK w t ∧ (t.2.2 ≠ [] → t.1 ∉ keys [] [⟨4, RB.enc next9.can, V_next9_can.sp, V_next9_can.q, []⟩, ⟨3, RI.enc next9.least, V_next9_least.sp, V_next9_least.q, []⟩, ⟨3, RI.enc next9.most, V_next9_most.sp, V_next9_most.q, []⟩])) (hv_next9_can : VOK 1 V_next9_can.n V_next9_can.cap (RB.enc next9.can) V_next9_can.sp V_next9_can.q) (hv_next9_least : VOK 1 V_next9_least.n V_next9_least.cap (RI.enc next9.least) V_next9_least.sp V_next9_least.q) (hv_next9_most : VOK 1 V_next9_most.n V_next9_most.cap (RI.enc next9.most) V_next9_most.sp V_next9_most.q) {res : ye} (hm : kW fu_ s0 c1 k2 t3 at4 rest5 taken6 least7 most8 next9 = some res),
    Calls Tryz.prog 54 #[.agg #[.slice qa0 na0 ca0, .slice qa1 na1 ca1], .slice qa2 na2 ca2, .int .i64 k2, .int .i64 t3, .int .i64 at4, .int .i64 rest5, .int .i64 taken6, .int .i64 least7, .int .i64 most8, .agg #[slv V_next9_can.q V_next9_can.n V_next9_can.cap, slv V_next9_least.q V_next9_least.n V_next9_least.cap, slv V_next9_most.q V_next9_most.n V_next9_most.cap]] w (fun en w' => ∃ l : Unit, en = .returned (.tuple #[]) ∧ (VOK 1 V_next9_can.n V_next9_can.cap (RB.enc res.next9_can) V_next9_can.sp V_next9_can.q ∧ VOK 1 V_next9_least.n V_next9_least.cap (RI.enc res.next9_least) V_next9_least.sp V_next9_least.q ∧ VOK 1 V_next9_most.n V_next9_most.cap (RI.enc res.next9_most) V_next9_most.sp V_next9_most.q) ∧ HV w (keys [] [⟨4, RB.enc next9.can, V_next9_can.sp, V_next9_can.q, []⟩, ⟨3, RI.enc next9.least, V_next9_least.sp, V_next9_least.q, []⟩, ⟨3, RI.enc next9.most, V_next9_most.sp, V_next9_most.q, []⟩]) [] [⟨4, RB.enc res.next9_can, V_next9_can.sp, V_next9_can.q, []⟩, ⟨3, RI.enc res.next9_least, V_next9_least.sp, V_next9_least.q, []⟩, ⟨3, RI.enc res.next9_most, V_next9_most.sp, V_next9_most.q, []⟩] [] w') := by
  induction fu_ with
  | zero =>
    intros
    rename_i hm
    exact absurd hm (by simp [kW])
  | succ fu_ ih =>
  intro s0 c1 k2 t3 at4 rest5 taken6 least7 most8 next9 qa0 na0 ca0 qa1 na1 ca1 qa2 na2 ca2 ar2 V_next9_can V_next9_least V_next9_most w hw hna0 hqa0 hla0 hna1 hqa1 hla1 hna2 hqa2 hla2 hda2 hTa2 hv_next9_can hv_next9_least hv_next9_most res hm
  replace hm : z9 (kW fu_) s0 c1 k2 t3 at4 rest5 taken6 least7 most8 next9 = some res := hm
  unfold z9 at hm
  refine j5 Tryz.func54 rfl Tryz.ntmps54 rfl (e := [(0, _), (1, _), (2, _), (3, _), (4, _), (5, _), (6, _), (7, _), (8, _), (9, _)]) rfl hw (jq ?_)
  refine jC rfl rfl (fun b h4 => ?_)
  refine jC rfl rfl (fun b_1 h5 => ?_)
  refine j0 (kD [_, _] 1 Tryz.isAgg38 Tryz.sizeOf38 rfl rfl rfl rfl (je rfl rfl ?_))
  obtain ⟨t29, h6, hm⟩ := bindO hm
  refine jd [] [] rfl rfl rfl rfl rfl rfl rfl Tryz.call35 (fun w hh => jav s0 k2 qa0 na0 ca0 qa1 na1 ca1 w (HV.callee (S0 := []) (vs0 := []) hh (roR hh 0 rfl (roR hh 1 rfl roN))) hna0 hqa0 hla0 hna1 hqa1 hla1 h6) (fun l h7 => ?_)
  refine jo (fun w => Tryz.zeroValue32 w) rfl (fun b_2 h8 => ?_)
  refine jy (us := #[_, _]) (cs' := [_, _]) (S' := [_, _, _]) 0 (fun w => Tryz.sizeOf32 w) rfl rfl rfl rfl rfl rfl rfl (jp (jj (jq (je rfl rfl (jP 1 Tryz.runUnderlying38 rfl Tryz.sizeOf23 rfl rfl (jY 2 Tryz.isAgg23 rfl rfl rfl rfl (jc rfl rfl rfl (fun w _ => jI hna1 (Tryz.runUnderlying23 w) rfl) ?_)))))))
  refine jc rfl rfl rfl (fun _ _ => yD rfl rfl) (jp ?_)
  refine js rfl (fun h9 => ?_) (fun h9 => ?_)
  ·replace hm := ifD h9 hm
   refine jj ?_
   obtain ⟨o, h10, h11⟩ := bindO hm
   refine jF (ι := Unit) (fun l_1 => VOK 1 V_next9_can.n V_next9_can.cap (RB.enc o.next9_can) V_next9_can.sp V_next9_can.q ∧ VOK 1 V_next9_least.n V_next9_least.cap (RI.enc o.next9_least) V_next9_least.sp V_next9_least.q ∧ VOK 1 V_next9_most.n V_next9_most.cap (RI.enc o.next9_most) V_next9_most.sp V_next9_most.q) (fun l_1 => []) (fun l_1 => [(b_2, .cells #[.int .i64 t29.lo, .int .i64 t29.hi] 32 (0, 0)), (b_1, .cells #[slv V_next9_can.q V_next9_can.n V_next9_can.cap, slv V_next9_least.q V_next9_least.n V_next9_least.cap, slv V_next9_most.q V_next9_most.n V_next9_most.cap] 102 (0, 0)), (b, .cells #[.slice qa0 na0 ca0, .slice qa1 na1 ca1] 38 (0, 0))]) (fun l_1 => [⟨4, RB.enc o.next9_can, V_next9_can.sp, V_next9_can.q, []⟩, ⟨3, RI.enc o.next9_least, V_next9_least.sp, V_next9_least.q, []⟩, ⟨3, RI.enc o.next9_most, V_next9_most.sp, V_next9_most.q, []⟩]) ?_ ?_
   ·replace hm := h10
    refine jq (je rfl rfl (jP 0 Tryz.runUnderlying32 rfl Tryz.sizeOf3 rfl rfl (jY 0 Tryz.isAgg3 rfl rfl rfl rfl (jc rfl rfl rfl (fun _ _ => K1 rfl rfl) (jp ?_)))))
    refine js rfl (fun h15 => ?_) (fun h15 => ?_)
    ·replace hm := ifD h15 hm
     refine jh (kD [_, _, _] 1 Tryz.isAgg102 Tryz.sizeOf102 rfl rfl rfl rfl (je rfl rfl (je rfl rfl (je rfl rfl ?_))))
     obtain ⟨t43, h16, hm⟩ := bindO hm
     refine jd [] [_, _, _] rfl rfl rfl rfl rfl rfl rfl Tryz.call102 (fun w hh => ZD next9 at4 least7 most8 ⟨V_next9_can.q, V_next9_can.n, V_next9_can.cap, V_next9_can.sp⟩ ⟨V_next9_least.q, V_next9_least.n, V_next9_least.cap, V_next9_least.sp⟩ ⟨V_next9_most.q, V_next9_most.n, V_next9_most.cap, V_next9_most.sp⟩ w (HV.callee (S0 := []) (vs0 := [_, _, _]) hh roN) hv_next9_can hv_next9_least hv_next9_most h16) (fun l_2 h17 => ?_)
     obtain ⟨h18, h19, h20⟩ := h17
     refine jT (S' := [_, _, _]) (vs' := [_, _, _]) [0, 1, 2] [0, 1, 2] 0 rfl rfl rfl rfl (jv ?_)
     obtain rfl := sj hm
     exact jg () (⟨h18, h19, h20⟩) (.nil) (fun w hh => hh)
    ·replace hm := ifE h15 hm
     refine ju ?_
     obtain rfl := sj hm
     exact jg () (⟨hv_next9_can, hv_next9_least, hv_next9_most⟩) (.nil) (fun w hh => hh)
   ·intro l_1 hj
    obtain ⟨h12, h13, h14⟩ := hj
    replace hm := h11
    refine ja (jw (jf ?_))
    obtain rfl := sj hm
    refine jm rfl (fun w hh => .nil) (fun w hh => ⟨(), rfl, ⟨h12, h13, h14⟩, hh.se [] [0, 1, 2] 3 rfl rfl rfl rfl⟩)
  ·replace hm := ifE h9 hm
   refine ju (ja (jq (jk rfl rfl (jp (jj (jq (jk rfl rfl ?_)))))))
   refine jp ?_
   obtain ⟨o_1, h21, h22⟩ := bindO hm
   refine jF (ι := Unit) (fun l_3 => True) (fun l_3 => [(1, .slice qa2 na2 ca2), (2, .int .i64 k2), (3, .int .i64 t3), (4, .int .i64 at4), (5, .int .i64 rest5), (6, .int .i64 taken6), (7, .int .i64 least7), (8, .int .i64 most8), (10, ptr b 0), (19, ptr b_1 0), (20, ptr b_2 0), (21, .int .i64 o_1)]) (fun l_3 => [(b_2, .cells #[.int .i64 t29.lo, .int .i64 t29.hi] 32 (0, 0)), (b_1, .cells #[slv V_next9_can.q V_next9_can.n V_next9_can.cap, slv V_next9_least.q V_next9_least.n V_next9_least.cap, slv V_next9_most.q V_next9_most.n V_next9_most.cap] 102 (0, 0)), (b, .cells #[.slice qa0 na0 ca0, .slice qa1 na1 ca1] 38 (0, 0))]) (fun l_3 => [⟨4, RB.enc next9.can, V_next9_can.sp, V_next9_can.q, []⟩, ⟨3, RI.enc next9.least, V_next9_least.sp, V_next9_least.q, []⟩, ⟨3, RI.enc next9.most, V_next9_most.sp, V_next9_most.q, []⟩]) ?_ ?_
   ·replace hm := h21
    refine jn ?_
    refine jL (ι := Unit) hm (fun s l_4 => True) (fun s l_4 => [(1, .slice qa2 na2 ca2), (2, .int .i64 k2), (3, .int .i64 t3), (4, .int .i64 at4), (5, .int .i64 rest5), (6, .int .i64 taken6), (7, .int .i64 least7), (8, .int .i64 most8), (10, ptr b 0), (19, ptr b_1 0), (20, ptr b_2 0), (21, .int .i64 s.step21), (22, .int .i64 s.i22)]) (fun s l_4 => [(b_2, .cells #[.int .i64 t29.lo, .int .i64 t29.hi] 32 (0, 0)), (b_1, .cells #[slv V_next9_can.q V_next9_can.n V_next9_can.cap, slv V_next9_least.q V_next9_least.n V_next9_least.cap, slv V_next9_most.q V_next9_most.n V_next9_most.cap] 102 (0, 0)), (b, .cells #[.slice qa0 na0 ca0, .slice qa1 na1 ca1] 38 (0, 0))]) (fun s l_4 => [⟨4, RB.enc next9.can, V_next9_can.sp, V_next9_can.q, []⟩, ⟨3, RI.enc next9.least, V_next9_least.sp, V_next9_least.q, []⟩, ⟨3, RI.enc next9.most, V_next9_most.sp, V_next9_most.q, []⟩]) () (trivial) (sE rfl) (fun w hh => hh) (fun s l_4 r hpl hm h23 => ?_)
    unfold ym at hm
    refine jj (jq (je rfl rfl (je rfl rfl (yY rfl rfl rfl (jp ?_)))))
    refine js rfl (fun h24 => ?_) (fun h24 => ?_)
    ·replace hm := ifD h24 hm
     refine ju (ja (jj (jn (jh (je rfl rfl (jP 1 Tryz.runUnderlying38 rfl Tryz.sizeOf23 rfl rfl (jY 2 Tryz.isAgg23 rfl rfl rfl rfl ?_)))))))
     refine je rfl rfl ?_
     obtain ⟨t53, h25, hm⟩ := bindO hm
     refine jc rfl rfl rfl (fun w _ => ki h25 (Tryz.runUnderlying23 w) (Tryz.sizeOf32 w) rfl rfl hna1 hqa1) (jP 1 Tryz.runUnderlying32 rfl Tryz.sizeOf3 rfl rfl (jc rfl rfl rfl (fun w hh => kl RSp 1 h25 (Tryz.isAgg3 w) rfl (hh.seg 1 rfl) rfl rfl) ?_))
     obtain ⟨t56, h26, hm⟩ := bindO hm
     refine qs h26 rfl rfl rfl ?_
     obtain ⟨t57, h27, hm⟩ := bindO hm
     refine jc rfl rfl rfl (fun _ _ => Yn h27 rfl rfl) (jk rfl rfl (jv (jt (ja (jh (je rfl rfl ?_))))))
     obtain ⟨t48, h28, hm⟩ := bindO hm
     refine qs h28 rfl rfl rfl (jk rfl rfl (jv ?_))
     obtain rfl := sj hm
     refine ja ?_
     exact jA _ () rfl (trivial) (sE rfl) (fun w hh => hh)
    ·replace hm := ifE h24 hm
     refine jS (jl (jl (jG ?_)))
     obtain rfl := sj hm
     have hbo := h23 _ rfl
     subst hbo
     exact jg () (trivial) (sE rfl) (fun w hh => hh)
   ·intro l_3 hj
    replace hm := h22
    refine ja (jq (je rfl rfl (jP 1 Tryz.runUnderlying38 rfl Tryz.sizeOf23 rfl rfl (jY 2 Tryz.isAgg23 rfl rfl rfl rfl (je rfl rfl ?_)))))
    obtain ⟨t62, h29, hm⟩ := bindO hm
    refine jc rfl rfl rfl (fun w _ => ki h29 (Tryz.runUnderlying23 w) (Tryz.sizeOf32 w) rfl rfl hna1 hqa1) (jP 1 Tryz.runUnderlying32 rfl Tryz.sizeOf3 rfl rfl (jc rfl rfl rfl (fun w hh => kl RSp 1 h29 (Tryz.isAgg3 w) rfl (hh.seg 1 rfl) rfl rfl) ?_))
    obtain ⟨t65, h30, hm⟩ := bindO hm
    refine qs h30 rfl rfl rfl ?_
    obtain ⟨t66, h31, hm⟩ := bindO hm
    refine jc rfl rfl rfl (fun _ _ => jaH h31 rfl rfl) (jk rfl rfl (j0 (je rfl rfl (jP 1 Tryz.runUnderlying38 rfl Tryz.sizeOf23 rfl rfl (jY 2 Tryz.isAgg23 rfl rfl rfl rfl (je rfl rfl ?_))))))
    obtain ⟨t71, h32, hm⟩ := bindO hm
    refine jc rfl rfl rfl (fun w _ => ki h32 (Tryz.runUnderlying23 w) (Tryz.sizeOf32 w) rfl rfl hna1 hqa1) (jP 1 Tryz.runUnderlying32 rfl Tryz.sizeOf3 rfl rfl (jc rfl rfl rfl (fun w hh => kl RSp 1 h32 (Tryz.isAgg3 w) rfl (hh.seg 1 rfl) rfl rfl) ?_))
    obtain ⟨t74, h33, hm⟩ := bindO hm
    refine qs h33 rfl rfl rfl ?_
    obtain ⟨t75, h34, hm⟩ := bindO hm
    refine jc rfl rfl rfl (fun _ _ => jaM h34 rfl rfl) (jk rfl rfl (j0 (jk rfl rfl (jp (jj ?_)))))
    obtain ⟨o_2, h35, h36⟩ := bindO hm
    refine jF (ι := Unit) (fun l_5 => True) (fun l_5 => [(1, .slice qa2 na2 ca2), (2, .int .i64 k2), (3, .int .i64 t3), (4, .int .i64 at4), (5, .int .i64 t75), (6, .int .i64 taken6), (7, .int .i64 least7), (8, .int .i64 most8), (10, ptr b 0), (19, ptr b_1 0), (21, .int .i64 o_1), (24, .int .i64 o_2)]) (fun l_5 => [(b_2, .cells #[.int .i64 t29.lo, .int .i64 t29.hi] 32 (0, 0)), (b_1, .cells #[slv V_next9_can.q V_next9_can.n V_next9_can.cap, slv V_next9_least.q V_next9_least.n V_next9_least.cap, slv V_next9_most.q V_next9_most.n V_next9_most.cap] 102 (0, 0)), (b, .cells #[.slice qa0 na0 ca0, .slice qa1 na1 ca1] 38 (0, 0))]) (fun l_5 => [⟨4, RB.enc next9.can, V_next9_can.sp, V_next9_can.q, []⟩, ⟨3, RI.enc next9.least, V_next9_least.sp, V_next9_least.q, []⟩, ⟨3, RI.enc next9.most, V_next9_most.sp, V_next9_most.q, []⟩]) ?_ ?_
    ·replace hm := h35
     refine jq (kD [_, _] 2 Tryz.isAgg38 Tryz.sizeOf38 rfl rfl rfl rfl (je rfl rfl (je rfl rfl ?_)))
     obtain ⟨t79, h37, hm⟩ := bindO hm
     refine jd [] [] rfl rfl rfl rfl rfl rfl rfl Tryz.call34 (fun w hh => Zx s0 t3 k2 qa0 na0 ca0 qa1 na1 ca1 w (HV.callee (S0 := []) (vs0 := []) hh (roR hh 0 rfl (roR hh 1 rfl roN))) hna0 hqa0 hla0 hna1 hqa1 hla1 h37) (fun l_6 h38 => ?_)
     refine jp ?_
     refine js rfl (fun h39 => ?_) (fun h39 => ?_)
     ·replace hm := ifT (h39) hm
      refine jX none (.free 0 (.hoist 1 (.free 2 (.free 3 (.free 4 (.hoist 5 (.free 6 (.free 7 (.free 8 (.hoist 9 (.free 10 (.free 11 (.free 12 (.free 13 .done)))))))))))))) _ rfl (by decide +kernel) (fun w k hh => hh.draw k) (fun w hh => hh) ?_
      refine k5 1 Tryz.runUnderlying38 Tryz.sizeOf23 rfl rfl rfl rfl (qY 2 Tryz.isAgg23 rfl rfl rfl rfl rfl (ku rfl rfl rfl ?_))
      obtain ⟨t83, h40, hm⟩ := bindO hm
      refine ji rfl rfl rfl rfl (fun w _ => ki h40 (Tryz.runUnderlying23 w) (Tryz.sizeOf32 w) rfl rfl hna1 hqa1) (k5 1 Tryz.runUnderlying32 Tryz.sizeOf3 rfl rfl rfl rfl (jD rfl rfl rfl rfl (fun w hh => kl RSp 1 h40 (Tryz.isAgg3 w) rfl (hh.seg 1 rfl) rfl rfl) (ku rfl rfl rfl ?_)))
      obtain ⟨t87, h41, hm⟩ := bindO hm
      refine ji rfl rfl rfl rfl (fun _ _ => yb h41 rfl rfl) (k5 1 Tryz.runUnderlying32 Tryz.sizeOf3 rfl rfl rfl rfl (qY 0 Tryz.isAgg3 rfl rfl rfl rfl rfl (ku rfl rfl rfl ?_)))
      obtain ⟨t91, h42, hm⟩ := bindO hm
      refine ji rfl rfl rfl rfl (fun _ _ => yb h42 rfl rfl) (ji rfl rfl rfl rfl (fun _ _ => jas rfl rfl) (ji rfl rfl rfl rfl (fun _ _ => jH rfl) (jM ?_)))
      obtain rfl := sj hm
      exact jg () (trivial) (sE rfl) (fun w hh => hh)
     ·replace hm := ifN h39 hm
      refine ju ?_
      obtain rfl := sj hm
      exact jg () (trivial) (sE rfl) (fun w hh => hh)
    ·intro l_5 hj
     replace hm := h36
     refine ja (jq (jk rfl rfl (jp ?_)))
     obtain ⟨o_3, h43, h44⟩ := bindO hm
     refine jF (ι := Unit) (fun l_7 => VOK 1 V_next9_can.n V_next9_can.cap (RB.enc o_3.next9_can) V_next9_can.sp V_next9_can.q ∧ VOK 1 V_next9_least.n V_next9_least.cap (RI.enc o_3.next9_least) V_next9_least.sp V_next9_least.q ∧ VOK 1 V_next9_most.n V_next9_most.cap (RI.enc o_3.next9_most) V_next9_most.sp V_next9_most.q) (fun l_7 => []) (fun l_7 => [(b_2, .cells #[.int .i64 t29.lo, .int .i64 t29.hi] 32 (0, 0)), (b_1, .cells #[slv V_next9_can.q V_next9_can.n V_next9_can.cap, slv V_next9_least.q V_next9_least.n V_next9_least.cap, slv V_next9_most.q V_next9_most.n V_next9_most.cap] 102 (0, 0)), (b, .cells #[.slice qa0 na0 ca0, .slice qa1 na1 ca1] 38 (0, 0))]) (fun l_7 => [⟨4, RB.enc o_3.next9_can, V_next9_can.sp, V_next9_can.q, []⟩, ⟨3, RI.enc o_3.next9_least, V_next9_least.sp, V_next9_least.q, []⟩, ⟨3, RI.enc o_3.next9_most, V_next9_most.sp, V_next9_most.q, []⟩]) ?_ ?_
     ·replace hm := h43
      refine jn ?_
      refine jL (ι := Unit) hm (fun s_1 l_8 => VOK 1 V_next9_can.n V_next9_can.cap (RB.enc s_1.next9_can) V_next9_can.sp V_next9_can.q ∧ VOK 1 V_next9_least.n V_next9_least.cap (RI.enc s_1.next9_least) V_next9_least.sp V_next9_least.q ∧ VOK 1 V_next9_most.n V_next9_most.cap (RI.enc s_1.next9_most) V_next9_most.sp V_next9_most.q) (fun s_1 l_8 => [(1, .slice qa2 na2 ca2), (2, .int .i64 k2), (3, .int .i64 t3), (4, .int .i64 at4), (5, .int .i64 t75), (6, .int .i64 taken6), (7, .int .i64 least7), (8, .int .i64 most8), (10, ptr b 0), (19, ptr b_1 0), (21, .int .i64 o_1), (24, .int .i64 o_2), (25, .int .i64 s_1.n25)]) (fun s_1 l_8 => [(b_2, .cells #[.int .i64 t29.lo, .int .i64 t29.hi] 32 (0, 0)), (b_1, .cells #[slv V_next9_can.q V_next9_can.n V_next9_can.cap, slv V_next9_least.q V_next9_least.n V_next9_least.cap, slv V_next9_most.q V_next9_most.n V_next9_most.cap] 102 (0, 0)), (b, .cells #[.slice qa0 na0 ca0, .slice qa1 na1 ca1] 38 (0, 0))]) (fun s_1 l_8 => [⟨4, RB.enc s_1.next9_can, V_next9_can.sp, V_next9_can.q, []⟩, ⟨3, RI.enc s_1.next9_least, V_next9_least.sp, V_next9_least.q, []⟩, ⟨3, RI.enc s_1.next9_most, V_next9_most.sp, V_next9_most.q, []⟩]) () (⟨hv_next9_can, hv_next9_least, hv_next9_most⟩) (sE rfl) (fun w hh => hh) (fun s_1 l_8 r_1 hpl hm h51 => ?_)
      obtain ⟨h48, h49, h50⟩ := hpl
      unfold zb at hm
      refine jj (jq (je rfl rfl (je rfl rfl (jc rfl rfl rfl (fun _ _ => ZF rfl rfl) (jp ?_)))))
      refine js rfl (fun h52 => ?_) (fun h52 => ?_)
      ·replace hm := ifD h52 hm
       refine ju (ja (jj (jn (jq (jk rfl rfl (jp (jj ?_)))))))
       obtain ⟨o_4, h53, h54⟩ := bindO hm
       refine jF (ι := Unit) (fun l_9 => True) (fun l_9 => [(1, .slice qa2 na2 ca2), (2, .int .i64 k2), (3, .int .i64 t3), (4, .int .i64 at4), (5, .int .i64 t75), (6, .int .i64 taken6), (7, .int .i64 least7), (8, .int .i64 most8), (10, ptr b 0), (19, ptr b_1 0), (21, .int .i64 o_1), (24, .int .i64 o_2), (25, .int .i64 s_1.n25), (26, .int .i64 o_4)]) (fun l_9 => [(b_2, .cells #[.int .i64 t29.lo, .int .i64 t29.hi] 32 (0, 0)), (b_1, .cells #[slv V_next9_can.q V_next9_can.n V_next9_can.cap, slv V_next9_least.q V_next9_least.n V_next9_least.cap, slv V_next9_most.q V_next9_most.n V_next9_most.cap] 102 (0, 0)), (b, .cells #[.slice qa0 na0 ca0, .slice qa1 na1 ca1] 38 (0, 0))]) (fun l_9 => [⟨4, RB.enc s_1.next9_can, V_next9_can.sp, V_next9_can.q, []⟩, ⟨3, RI.enc s_1.next9_least, V_next9_least.sp, V_next9_least.q, []⟩, ⟨3, RI.enc s_1.next9_most, V_next9_most.sp, V_next9_most.q, []⟩]) ?_ ?_
       ·replace hm := h53
        refine jq (je rfl rfl (je rfl rfl ?_))
        obtain ⟨t100, h55, hm⟩ := bindO hm
        obtain ⟨A, h56, h57, h58, h59⟩ := (hda2).row h55
        refine jc rfl rfl rfl (fun w _ => ki h56 (Tryz.runUnderlying46 w) (Tryz.sizeOf93 w) rfl rfl (Eq.trans (hda2).len.symm hna2) hqa2) (jc rfl rfl rfl (fun w hh => kl RwA 0 h56 (Tryz.isAgg93 w) rfl (hh.seg 2 rfl) rfl (Nat.add_zero _).symm) (je rfl rfl ?_))
        obtain ⟨t103, h60, hm⟩ := bindO hm
        refine jc rfl rfl rfl (fun w _ => ki h60 (Tryz.runUnderlying93 w) (Tryz.sizeOf4 w) rfl rfl h57 h58) (jc rfl rfl rfl (fun w hh => kl RB 0 h60 (Tryz.isAgg4 w) rfl (hh.oldseg (hTa2 _ (rsg_ix h55 h56))) rfl (Nat.add_zero _).symm) (jp ?_))
        refine js rfl (fun h61 => ?_) (fun h61 => ?_)
        ·replace hm := ifT (h61) hm
         refine jh (je rfl rfl (jk rfl rfl (jv ?_)))
         obtain rfl := sj hm
         exact jg () (trivial) (sE rfl) (fun w hh => hh)
        ·replace hm := ifN h61 hm
         refine ju ?_
         obtain rfl := sj hm
         exact jg () (trivial) (sE rfl) (fun w hh => hh)
       ·intro l_9 hj
        replace hm := h54
        refine ja (jh (kD [_, _] 2 Tryz.isAgg38 Tryz.sizeOf38 rfl rfl rfl rfl (je rfl rfl (je rfl rfl (je rfl rfl ?_)))))
        obtain ⟨t110, h62, hm⟩ := bindO hm
        refine qs h62 rfl rfl rfl (je rfl rfl (je rfl rfl (je rfl rfl ?_)))
        obtain ⟨t114, h63, hm⟩ := bindO hm
        refine jc rfl rfl rfl (fun _ _ => Yn h63 rfl rfl) ?_
        obtain ⟨t115, h64, hm⟩ := bindO hm
        refine qs h64 rfl rfl rfl (je rfl rfl (je rfl rfl (je rfl rfl ?_)))
        obtain ⟨t119, h65, hm⟩ := bindO hm
        refine qs h65 rfl rfl rfl (je rfl rfl (je rfl rfl ?_))
        obtain ⟨t122, h66, hm⟩ := bindO hm
        refine qs h66 rfl rfl rfl (je rfl rfl (je rfl rfl ?_))
        obtain ⟨t125, h67, hm⟩ := bindO hm
        refine qs h67 rfl rfl rfl (kD [_, _, _] 1 Tryz.isAgg102 Tryz.sizeOf102 rfl rfl rfl rfl ?_)
        obtain ⟨t127, h68, hm⟩ := bindO hm
        refine jd [] [_, _, _] rfl rfl rfl rfl rfl rfl rfl Tryz.call54 (fun w hh => ih s0 c1 k2 t110 t115 t75 t119 t122 t125 (⟨s_1.next9_can, s_1.next9_least, s_1.next9_most⟩ : Book) qa0 na0 ca0 qa1 na1 ca1 qa2 na2 ca2 ar2 ⟨V_next9_can.q, V_next9_can.n, V_next9_can.cap, V_next9_can.sp⟩ ⟨V_next9_least.q, V_next9_least.n, V_next9_least.cap, V_next9_least.sp⟩ ⟨V_next9_most.q, V_next9_most.n, V_next9_most.cap, V_next9_most.sp⟩ w (HV.callee (S0 := []) (vs0 := [_, _, _]) hh (roR hh 0 rfl (roR hh 1 rfl (roR hh 2 rfl roN)))) hna0 hqa0 hla0 hna1 hqa1 hla1 hna2 hqa2 hla2 hda2 (hh.oldT (S0 := []) (vs0 := [_, _, _]) hTa2) h48 h49 h50 h68) (fun l_10 h69 => ?_)
        obtain ⟨h70, h71, h72⟩ := h69
        refine jT (S' := [_, _, _]) (vs' := [_, _, _]) [0, 1, 2] [0, 1, 2] 0 rfl rfl rfl rfl (jv (jt (ja (jh (je rfl rfl ?_)))))
        obtain ⟨t97, h73, hm⟩ := bindO hm
        refine qs h73 rfl rfl rfl (jk rfl rfl (jv ?_))
        obtain rfl := sj hm
        refine ja ?_
        exact jA _ () rfl (⟨h70, h71, h72⟩) (sE rfl) (fun w hh => hh)
      ·replace hm := ifE h52 hm
       refine jS (jl (jl (jG ?_)))
       obtain rfl := sj hm
       have hbo := h51 _ rfl
       subst hbo
       exact jg () (⟨h48, h49, h50⟩) (.nil) (fun w hh => hh)
     ·intro l_7 hj
      obtain ⟨h45, h46, h47⟩ := hj
      replace hm := h44
      obtain rfl := sj hm
      refine JX rfl (fun w hh => .nil) (fun w hh => ⟨(), rfl, ⟨h45, h46, h47⟩, hh.se [] [0, 1, 2] 3 rfl rfl rfl rfl⟩)
structure y8 where
  at1 : Int
  t5 : Int
def zh (s0 : Scalps) (s : y8) : Option (y8 ⊕ (Unit ⊕ Bool)) :=
 if s.t5 < (s0.carried.length : Int) then
 ((ix s0.carried s.t5).bind fun t17 =>
 (addc t17.hi 1).bind fun t20 =>
 (remc s.at1 t20).bind fun t21 =>
 (ix s0.carried s.t5).bind fun t25 =>
 if t21 < t25.lo then
 (some (.inr (.inr false))) else
 ((ix s0.carried s.t5).bind fun t33 =>
 (addc t33.hi 1).bind fun t36 =>
 (quoc s.at1 t36).bind fun t37 =>
 (addc s.t5 1).bind fun t12 =>
 some (.inl (⟨t37, t12⟩ : y8)))) else
 (some (.inr (.inl ())))
def Kk (s0 : Scalps) (at1 : Int) : Option Bool :=
 (iterM FU (zh s0) (⟨at1, 0⟩ : y8)).bind fun o =>
 oc o (fun j => some true) (fun r_1 => some r_1)
theorem ZV (s0 : Scalps) (at1 : Int) (qa0 : Option Addr) (na0 ca0 : Nat) (qa1 : Option Addr) (na1 ca1 : Nat) (w : World) (hw : HV w (keys [] []) [] [] [(aB qa0, aO qa0, RSt.enc s0.strips), (aB qa1, aO qa1, RSp.enc s0.carried)] w) (hna0 : s0.strips.length = na0) (hqa0 : AOK na0 qa0) (hla0 : na0 ≤ ca0) (hna1 : s0.carried.length = na1) (hqa1 : AOK na1 qa1) (hla1 : na1 ≤ ca1) {res : Bool} (hm : Kk s0 at1 = some res) :
    Calls Tryz.prog 55 #[.agg #[.slice qa0 na0 ca0, .slice qa1 na1 ca1], .int .i64 at1] w (fun en w' => ∃ l : Unit, en = .returned (.bool res) ∧ (True) ∧ HV w (keys [] []) [] [] [] w') := by
  unfold Kk at hm
  refine j5 Tryz.func55 rfl Tryz.ntmps55 rfl (e := [(0, _), (1, _)]) rfl hw (jq ?_)
  refine jC rfl rfl (fun b h1 => ?_)
  refine jk rfl rfl (jp (jj (jq (jk rfl rfl (jp ?_)))))
  obtain ⟨o, h2, h3⟩ := bindO hm
  refine jF (ι := Unit) (fun j => o = .inl j) (fun j => []) (fun j => [(b, .cells #[.slice qa0 na0 ca0, .slice qa1 na1 ca1] 38 (0, 0))]) (fun j => []) ?_ ?_
  ·replace hm := h2
   refine jn ?_
   refine jL (ι := Unit) hm (fun s l => True) (fun s l => [(1, .int .i64 s.at1), (2, ptr b 0), (5, .int .i64 s.t5)]) (fun s l => [(b, .cells #[.slice qa0 na0 ca0, .slice qa1 na1 ca1] 38 (0, 0))]) (fun s l => []) () (trivial) (sE rfl) (fun w hh => hh) (fun s l r hpl hm h4 => ?_)
   unfold zh at hm
   refine jj (jq (je rfl rfl (jP 1 Tryz.runUnderlying38 rfl Tryz.sizeOf23 rfl rfl (jY 0 Tryz.isAgg23 rfl rfl rfl rfl (jc rfl rfl rfl (fun w _ => jI hna1 (Tryz.runUnderlying23 w) rfl) (yY rfl rfl rfl (jp ?_)))))))
   refine js rfl (fun h5 => ?_) (fun h5 => ?_)
   ·replace hm := ifD h5 hm
    refine ju (ja (jj (jn (jj (jj ?_)))))
    refine jX none (.free 0 (.free 1 (.hoist 2 (.free 3 (.free 4 (.free 5 (.hoist 6 (.free 7 (.free 8 (.free 9 (.hoist 10 (.free 11 (.free 12 (.free 13 (.hoist 14 (.free 15 .done)))))))))))))))) _ rfl (by decide +kernel) (fun w k hh => hh.draw k) (fun w hh => hh) ?_
    refine ku rfl rfl rfl (k5 1 Tryz.runUnderlying38 Tryz.sizeOf23 rfl rfl rfl rfl (qY 0 Tryz.isAgg23 rfl rfl rfl rfl rfl (ku rfl rfl rfl ?_)))
    obtain ⟨t17, h6, hm⟩ := bindO hm
    refine ji rfl rfl rfl rfl (fun w _ => ki h6 (Tryz.runUnderlying23 w) (Tryz.sizeOf32 w) rfl rfl hna1 hqa1) (k5 1 Tryz.runUnderlying32 Tryz.sizeOf3 rfl rfl rfl rfl (jD rfl rfl rfl rfl (fun w hh => kl RSp 1 h6 (Tryz.isAgg3 w) rfl (hh.seg 1 rfl) rfl rfl) ?_))
    obtain ⟨t20, h7, hm⟩ := bindO hm
    refine ji rfl rfl rfl rfl (fun _ _ => KV h7 rfl rfl) ?_
    obtain ⟨t21, h8, hm⟩ := bindO hm
    refine ji rfl rfl rfl rfl (fun _ _ => jaH h8 rfl rfl) (k5 1 Tryz.runUnderlying38 Tryz.sizeOf23 rfl rfl rfl rfl (qY 0 Tryz.isAgg23 rfl rfl rfl rfl rfl (ku rfl rfl rfl ?_)))
    obtain ⟨t25, h9, hm⟩ := bindO hm
    refine ji rfl rfl rfl rfl (fun w _ => ki h9 (Tryz.runUnderlying23 w) (Tryz.sizeOf32 w) rfl rfl hna1 hqa1) (k5 0 Tryz.runUnderlying32 Tryz.sizeOf3 rfl rfl rfl rfl (jD rfl rfl rfl rfl (fun w hh => kl RSp 0 h9 (Tryz.isAgg3 w) rfl (hh.seg 1 rfl) rfl rfl) (ji rfl rfl rfl rfl (fun _ _ => YE rfl rfl) (jM (ja ?_)))))
    refine js rfl (fun h10 => ?_) (fun h10 => ?_)
    ·replace hm := ifD h10 hm
     refine jq (jk rfl rfl (jp (jw (jf (jx (jf (jf ?_)))))))
     refine jx ?_
     obtain rfl := sj hm
     have hbo := h4 _ rfl
     subst hbo
     refine jf ?_
     replace hm := ocR h3
     refine jf ?_
     obtain rfl := sj hm
     refine jm rfl (fun w hh => (.tmp rfl .nil)) (fun w hh => ⟨(), rfl, trivial, hh.se [] [] 2 rfl rfl rfl rfl⟩)
    ·replace hm := ifE h10 hm
     refine ju (ja (jh (je rfl rfl (jP 1 Tryz.runUnderlying38 rfl Tryz.sizeOf23 rfl rfl (jY 0 Tryz.isAgg23 rfl rfl rfl rfl (je rfl rfl ?_))))))
     obtain ⟨t33, h11, hm⟩ := bindO hm
     refine jc rfl rfl rfl (fun w _ => ki h11 (Tryz.runUnderlying23 w) (Tryz.sizeOf32 w) rfl rfl hna1 hqa1) (jP 1 Tryz.runUnderlying32 rfl Tryz.sizeOf3 rfl rfl (jc rfl rfl rfl (fun w hh => kl RSp 1 h11 (Tryz.isAgg3 w) rfl (hh.seg 1 rfl) rfl rfl) ?_))
     obtain ⟨t36, h12, hm⟩ := bindO hm
     refine qs h12 rfl rfl rfl ?_
     obtain ⟨t37, h13, hm⟩ := bindO hm
     refine jc rfl rfl rfl (fun _ _ => jaM h13 rfl rfl) (jk rfl rfl (jv (jt (ja (jh (je rfl rfl ?_))))))
     obtain ⟨t12, h14, hm⟩ := bindO hm
     refine qs h14 rfl rfl rfl (jk rfl rfl (jv ?_))
     obtain rfl := sj hm
     refine ja ?_
     exact jA _ () rfl (trivial) (sE rfl) (fun w hh => hh)
   ·replace hm := ifE h5 hm
    refine jS (jl (jl (jG ?_)))
    obtain rfl := sj hm
    have hbo := h4 _ rfl
    subst hbo
    exact jg () (rfl) (.nil) (fun w hh => hh)
  ·intro j hj
   have h15 := hj
   subst h15
   replace hm := ocL h3
   refine ja (jq (jk rfl rfl (jp (jw ?_))))
   obtain rfl := sj hm
   refine jm rfl (fun w hh => (.tmp rfl .nil)) (fun w hh => ⟨(), rfl, trivial, hh.se [] [] 2 rfl rfl rfl rfl⟩)
structure Ju where
  r0 : Int
  r1 : Int
  r2 : Bool
structure JS where
  n7 : Int
  t8 : Int
def yZ (s0 : Scalps) (s : JS) : Option (JS ⊕ Int) :=
 if s.t8 < (s0.carried.length : Int) then
 ((ix s0.carried s.t8).bind fun t28 =>
 (addc t28.hi 1).bind fun t31 =>
 (mulc s.n7 t31).bind fun t32 =>
 (addc s.t8 1).bind fun t23 =>
 some (.inl (⟨t32, t23⟩ : JS))) else
 (some (.inr s.n7))
structure K9 where
  now9_can : (List Bool)
  now9_least : (List Int)
  now9_most : (List Int)
structure yS where
  k10 : Int
  now9_can : (List Bool)
  now9_least : (List Int)
  now9_most : (List Int)
structure Q8 where
  r0_can : (List Bool)
  r0_least : (List Int)
  r0_most : (List Int)
structure JR where
  at12 : Int
  r0_can : (List Bool)
  r0_least : (List Int)
  r0_most : (List Int)
structure Q0 where
  r0_can : (List Bool)
  r0_least : (List Int)
  r0_most : (List Int)
def zT (o : Int) (s_1 : yS) (s0 : Scalps) (c1 : (List (List Bool))) (s_2 : JR) : Option (JR ⊕ Q8) :=
 if s_2.at12 < o then
 (((ix s_1.now9_can s_2.at12).bind fun t55 =>
 if t55 = true then
 ((ix s_1.now9_least s_2.at12).bind fun t65 =>
 (ix s_1.now9_most s_2.at12).bind fun t70 =>
 (kW FU s0 c1 s_1.k10 0 s_2.at12 s_2.at12 0 t65 t70 (⟨s_2.r0_can, s_2.r0_least, s_2.r0_most⟩ : Book)).bind fun t73 =>
 some (⟨t73.next9_can, t73.next9_least, t73.next9_most⟩ : Q0)) else
 (some (⟨s_2.r0_can, s_2.r0_least, s_2.r0_most⟩ : Q0))).bind fun o_3 =>
 (addc s_2.at12 1).bind fun t51 =>
 some (.inl (⟨t51, o_3.r0_can, o_3.r0_least, o_3.r0_most⟩ : JR))) else
 (some (.inr (⟨s_2.r0_can, s_2.r0_least, s_2.r0_most⟩ : Q8)))
def z8 (s0 : Scalps) (o : Int) (c1 : (List (List Bool))) (s_1 : yS) : Option (yS ⊕ K9) :=
 if s_1.k10 < (s0.strips.length : Int) then
 ((J6 o).bind fun t46 =>
 (iterM FU (zT o s_1 s0 c1) (⟨0, t46.can, t46.least, t46.most⟩ : JR)).bind fun o_2 =>
 (addc s_1.k10 1).bind fun t44 =>
 some (.inl (⟨t44, o_2.r0_can, o_2.r0_least, o_2.r0_most⟩ : yS))) else
 (some (.inr (⟨s_1.now9_can, s_1.now9_least, s_1.now9_most⟩ : K9)))
structure Q3 where
  found13 : Bool
  least14 : Int
  most15 : Int
structure JQ where
  found13 : Bool
  least14 : Int
  most15 : Int
  at16 : Int
structure Q5 where
  found13 : Bool
  least14 : Int
  most15 : Int
structure Q9 where
  found13 : Bool
  least14 : Int
  most15 : Int
def zO (o : Int) (o_1 : K9) (s0 : Scalps) (s_3 : JQ) : Option (JQ ⊕ Q3) :=
 if s_3.at16 < o then
 ((((ix o_1.now9_can s_3.at16).bind fun t83 =>
 if (!t83) = true then
 (some true) else
 ((Kk s0 s_3.at16).bind fun t89 =>
 some (!t89))).bind fun o_6 =>
 if o_6 = true then
 (some (⟨s_3.found13, s_3.least14, s_3.most15⟩ : Q5)) else
 ((if (!s_3.found13) = true then
 ((ix o_1.now9_least s_3.at16).bind fun t97 =>
 (ix o_1.now9_most s_3.at16).bind fun t102 =>
 some (⟨true, t97, t102⟩ : Q9)) else
 (some (⟨s_3.found13, s_3.least14, s_3.most15⟩ : Q9))).bind fun o_7 =>
 (ix o_1.now9_least s_3.at16).bind fun t108 =>
 (ix o_1.now9_most s_3.at16).bind fun t115 =>
 some (⟨o_7.found13, (min o_7.least14 t108), (max o_7.most15 t115)⟩ : Q5))).bind fun o_5 =>
 (addc s_3.at16 1).bind fun t79 =>
 some (.inl (⟨o_5.found13, o_5.least14, o_5.most15, t79⟩ : JQ))) else
 (some (.inr (⟨s_3.found13, s_3.least14, s_3.most15⟩ : Q3)))
def kr (s0 : Scalps) (c1 : (List (List Bool))) : Option Ju :=
 (iterM FU (yZ s0) (⟨1, 0⟩ : JS)).bind fun o =>
 (J6 o).bind fun t34 =>
 (ix t34.can 0).bind fun t37 =>
 (some (t34.can.set (Int.toNat 0) true)).bind fun r0_can =>
 (iterM FU (z8 s0 o c1) (⟨0, r0_can, t34.least, t34.most⟩ : yS)).bind fun o_1 =>
 (iterM FU (zO o o_1 s0) (⟨false, 0, 0, 0⟩ : JQ)).bind fun o_4 =>
 some (⟨o_4.least14, o_4.most15, o_4.found13⟩ : Ju)
theorem Jz (s0 : Scalps) (c1 : (List (List Bool))) (qa0 : Option Addr) (na0 ca0 : Nat) (qa1 : Option Addr) (na1 ca1 : Nat) (qa2 : Option Addr) (na2 ca2 : Nat) (ar2 : List AL) (w : World) (hw : HV w (keys [] []) [] [] [(aB qa0, aO qa0, RSt.enc s0.strips), (aB qa1, aO qa1, RSp.enc s0.carried), (aB qa2, aO qa2, RwA.enc ar2)] w) (hna0 : s0.strips.length = na0) (hqa0 : AOK na0 qa0) (hla0 : na0 ≤ ca0) (hna1 : s0.carried.length = na1) (hqa1 : AOK na1 qa1) (hla1 : na1 ≤ ca1) (hna2 : c1.length = na2) (hqa2 : AOK na2 qa2) (hla2 : na2 ≤ ca2) (hda2 : DRO c1 ar2) (hTa2 : ∀ t, t ∈ rsg RB c1 ar2 → segOK w t ∧ (t.2.2 ≠ [] → t.1 ∉ keys [] [])) {res : Ju} (hm : kr s0 c1 = some res) :
    Calls Tryz.prog 13 #[.agg #[.slice qa0 na0 ca0, .slice qa1 na1 ca1], .slice qa2 na2 ca2] w (fun en w' => ∃ l : Unit, en = .returned (.tuple #[.int .i64 res.r0, .int .i64 res.r1, .bool res.r2]) ∧ (True) ∧ HV w (keys [] []) [] [] [] w') := by
  unfold kr at hm
  refine j5 Tryz.func13 rfl Tryz.ntmps13 rfl (e := [(0, _), (1, _)]) rfl hw (jq ?_)
  refine jC rfl rfl (fun b h1 => ?_)
  refine jk rfl rfl (jk rfl rfl (jk rfl rfl (j0 (jk rfl rfl (jp (jj (jq ?_)))))))
  refine jk rfl rfl (jp ?_)
  obtain ⟨o, h2, h3⟩ := bindO hm
  refine jF (ι := Unit) (fun l => True) (fun l => [(1, .slice qa2 na2 ca2), (2, ptr b 0), (7, .int .i64 o)]) (fun l => [(b, .cells #[.slice qa0 na0 ca0, .slice qa1 na1 ca1] 38 (0, 0))]) (fun l => []) ?_ ?_
  ·replace hm := h2
   refine jn ?_
   refine jL (ι := Unit) hm (fun s l_1 => True) (fun s l_1 => [(1, .slice qa2 na2 ca2), (2, ptr b 0), (7, .int .i64 s.n7), (8, .int .i64 s.t8)]) (fun s l_1 => [(b, .cells #[.slice qa0 na0 ca0, .slice qa1 na1 ca1] 38 (0, 0))]) (fun s l_1 => []) () (trivial) (sE rfl) (fun w hh => hh) (fun s l_1 r hpl hm h4 => ?_)
   unfold yZ at hm
   refine jj (jq (je rfl rfl (jP 1 Tryz.runUnderlying38 rfl Tryz.sizeOf23 rfl rfl (jY 0 Tryz.isAgg23 rfl rfl rfl rfl (jc rfl rfl rfl (fun w _ => jI hna1 (Tryz.runUnderlying23 w) rfl) (yY rfl rfl rfl (jp ?_)))))))
   refine js rfl (fun h5 => ?_) (fun h5 => ?_)
   ·replace hm := ifD h5 hm
    refine ju (ja (jj (jn (jh (je rfl rfl (jP 1 Tryz.runUnderlying38 rfl Tryz.sizeOf23 rfl rfl (jY 0 Tryz.isAgg23 rfl rfl rfl rfl ?_)))))))
    refine je rfl rfl ?_
    obtain ⟨t28, h6, hm⟩ := bindO hm
    refine jc rfl rfl rfl (fun w _ => ki h6 (Tryz.runUnderlying23 w) (Tryz.sizeOf32 w) rfl rfl hna1 hqa1) (jP 1 Tryz.runUnderlying32 rfl Tryz.sizeOf3 rfl rfl (jc rfl rfl rfl (fun w hh => kl RSp 1 h6 (Tryz.isAgg3 w) rfl (hh.seg 1 rfl) rfl rfl) ?_))
    obtain ⟨t31, h7, hm⟩ := bindO hm
    refine qs h7 rfl rfl rfl ?_
    obtain ⟨t32, h8, hm⟩ := bindO hm
    refine jc rfl rfl rfl (fun _ _ => Yn h8 rfl rfl) (jk rfl rfl (jv (jt (ja (jh (je rfl rfl ?_))))))
    obtain ⟨t23, h9, hm⟩ := bindO hm
    refine qs h9 rfl rfl rfl (jk rfl rfl (jv ?_))
    obtain rfl := sj hm
    refine ja ?_
    exact jA _ () rfl (trivial) (sE rfl) (fun w hh => hh)
   ·replace hm := ifE h5 hm
    refine jS (jl (jl (jG ?_)))
    obtain rfl := sj hm
    have hbo := h4 _ rfl
    subst hbo
    exact jg () (trivial) (sE rfl) (fun w hh => hh)
  ·intro l hj
   replace hm := h3
   refine ja (jq (je rfl rfl ?_))
   obtain ⟨t34, h10, hm⟩ := bindO hm
   refine jd [] [] rfl rfl rfl rfl rfl rfl rfl Tryz.call53 (fun w hh => Zq o w (HV.callee (S0 := []) (vs0 := []) hh roN)  h10) (fun l_2 h11 => ?_)
   obtain ⟨h12, h13, h14⟩ := h11
   refine jT (S' := [_]) (vs' := [_, _, _]) [0] [0, 1, 2] 0 rfl rfl rfl rfl ?_
   refine jo (fun w => Tryz.zeroValue102 w) rfl (fun b_1 h15 => ?_)
   refine jy (us := #[_, _, _]) (cs' := [_, _, _]) (S' := [_, _]) 0 (fun w => Tryz.sizeOf102 w) rfl rfl rfl rfl rfl rfl rfl (j0 (jP 0 Tryz.runUnderlying102 rfl Tryz.sizeOf93 rfl rfl (jY 0 Tryz.isAgg93 rfl rfl rfl rfl ?_)))
   obtain ⟨t37, h16, hm⟩ := bindO hm
   refine jc rfl rfl rfl (fun w _ => qx h16 (Tryz.runUnderlying93 w) (Tryz.sizeOf4 w) rfl rfl (vlen RB h12 rfl) (vne h12)) ?_
   obtain ⟨r0_can, hr0_can, hm⟩ := bindO hm
   refine KO RB 0 0 true (fun w => Tryz.sizeOf4 w) rfl rfl rfl rfl h12 rfl (Nat.add_zero _).symm rfl h16 rfl rfl (Option.some.inj hr0_can) (fun h17 => ?_)
   refine jT (S' := [_, _]) (vs' := [_, _, _]) [0, 1] [0, 1, 2] 0 rfl rfl rfl rfl (jp (jj (jq (jk rfl rfl (jp ?_)))))
   obtain ⟨o_1, h18, h19⟩ := bindO hm
   refine jF (ι := VL × VL × VL) (fun l_3 => VOK 1 l_3.1.n l_3.1.cap (RB.enc o_1.now9_can) l_3.1.sp l_3.1.q ∧ VOK 1 l_3.2.1.n l_3.2.1.cap (RI.enc o_1.now9_least) l_3.2.1.sp l_3.2.1.q ∧ VOK 1 l_3.2.2.n l_3.2.2.cap (RI.enc o_1.now9_most) l_3.2.2.sp l_3.2.2.q) (fun l_3 => [(2, ptr b 0), (7, .int .i64 o), (9, ptr b_1 0)]) (fun l_3 => [(b_1, .cells #[slv l_3.1.q l_3.1.n l_3.1.cap, slv l_3.2.1.q l_3.2.1.n l_3.2.1.cap, slv l_3.2.2.q l_3.2.2.n l_3.2.2.cap] 102 (0, 0)), (b, .cells #[.slice qa0 na0 ca0, .slice qa1 na1 ca1] 38 (0, 0))]) (fun l_3 => [⟨4, RB.enc o_1.now9_can, l_3.1.sp, l_3.1.q, []⟩, ⟨3, RI.enc o_1.now9_least, l_3.2.1.sp, l_3.2.1.q, []⟩, ⟨3, RI.enc o_1.now9_most, l_3.2.2.sp, l_3.2.2.q, []⟩]) ?_ ?_
   ·replace hm := h18
    refine jn ?_
    refine jL (ι := VL × VL × VL) hm (fun s_1 l_4 => VOK 1 l_4.1.n l_4.1.cap (RB.enc s_1.now9_can) l_4.1.sp l_4.1.q ∧ VOK 1 l_4.2.1.n l_4.2.1.cap (RI.enc s_1.now9_least) l_4.2.1.sp l_4.2.1.q ∧ VOK 1 l_4.2.2.n l_4.2.2.cap (RI.enc s_1.now9_most) l_4.2.2.sp l_4.2.2.q) (fun s_1 l_4 => [(1, .slice qa2 na2 ca2), (2, ptr b 0), (7, .int .i64 o), (9, ptr b_1 0), (10, .int .i64 s_1.k10)]) (fun s_1 l_4 => [(b_1, .cells #[slv l_4.1.q l_4.1.n l_4.1.cap, slv l_4.2.1.q l_4.2.1.n l_4.2.1.cap, slv l_4.2.2.q l_4.2.2.n l_4.2.2.cap] 102 (0, 0)), (b, .cells #[.slice qa0 na0 ca0, .slice qa1 na1 ca1] 38 (0, 0))]) (fun s_1 l_4 => [⟨4, RB.enc s_1.now9_can, l_4.1.sp, l_4.1.q, []⟩, ⟨3, RI.enc s_1.now9_least, l_4.2.1.sp, l_4.2.1.q, []⟩, ⟨3, RI.enc s_1.now9_most, l_4.2.2.sp, l_4.2.2.q, []⟩]) (l_2.1, l_2.2.1, l_2.2.2) (⟨h17, h13, h14⟩) (sE rfl) (fun w hh => hh) (fun s_1 l_4 r_1 hpl hm h26 => ?_)
    obtain ⟨h23, h24, h25⟩ := hpl
    unfold z8 at hm
    refine jj (jq (je rfl rfl (jP 0 Tryz.runUnderlying38 rfl Tryz.sizeOf36 rfl rfl (jY 1 Tryz.isAgg36 rfl rfl rfl rfl (jc rfl rfl rfl (fun w _ => jI hna0 (Tryz.runUnderlying36 w) rfl) (yY rfl rfl rfl (jp ?_)))))))
    refine js rfl (fun h27 => ?_) (fun h27 => ?_)
    ·replace hm := ifD h27 hm
     refine ju (ja (jj (jn (jq (je rfl rfl ?_)))))
     obtain ⟨t46, h28, hm⟩ := bindO hm
     refine jd [] [] rfl rfl rfl rfl rfl rfl rfl Tryz.call53 (fun w hh => Zq o w (HV.callee (S0 := []) (vs0 := []) hh roN)  h28) (fun l_5 h29 => ?_)
     obtain ⟨h30, h31, h32⟩ := h29
     refine jT (S' := [_, _]) (vs' := [_, _, _, _, _, _]) [0, 1] [0, 1, 2, 3, 4, 5] 0 rfl rfl rfl rfl ?_
     refine jo (fun w => Tryz.zeroValue102 w) rfl (fun b_2 h33 => ?_)
     refine jy (us := #[_, _, _]) (cs' := [_, _, _]) (S' := [_, _, _]) 0 (fun w => Tryz.sizeOf102 w) rfl rfl rfl rfl rfl rfl rfl (jp (jj (jq (jk rfl rfl (jp ?_)))))
     obtain ⟨o_2, h34, h35⟩ := bindO hm
     refine jF (ι := Unit) (fun l_6 => VOK 1 l_5.1.n l_5.1.cap (RB.enc o_2.r0_can) l_5.1.sp l_5.1.q ∧ VOK 1 l_5.2.1.n l_5.2.1.cap (RI.enc o_2.r0_least) l_5.2.1.sp l_5.2.1.q ∧ VOK 1 l_5.2.2.n l_5.2.2.cap (RI.enc o_2.r0_most) l_5.2.2.sp l_5.2.2.q) (fun l_6 => [(1, .slice qa2 na2 ca2), (2, ptr b 0), (7, .int .i64 o), (9, ptr b_1 0), (10, .int .i64 s_1.k10), (11, ptr b_2 0)]) (fun l_6 => [(b_2, .cells #[slv l_5.1.q l_5.1.n l_5.1.cap, slv l_5.2.1.q l_5.2.1.n l_5.2.1.cap, slv l_5.2.2.q l_5.2.2.n l_5.2.2.cap] 102 (0, 0)), (b_1, .cells #[slv l_4.1.q l_4.1.n l_4.1.cap, slv l_4.2.1.q l_4.2.1.n l_4.2.1.cap, slv l_4.2.2.q l_4.2.2.n l_4.2.2.cap] 102 (0, 0)), (b, .cells #[.slice qa0 na0 ca0, .slice qa1 na1 ca1] 38 (0, 0))]) (fun l_6 => [⟨4, RB.enc o_2.r0_can, l_5.1.sp, l_5.1.q, []⟩, ⟨3, RI.enc o_2.r0_least, l_5.2.1.sp, l_5.2.1.q, []⟩, ⟨3, RI.enc o_2.r0_most, l_5.2.2.sp, l_5.2.2.q, []⟩, ⟨4, RB.enc s_1.now9_can, l_4.1.sp, l_4.1.q, []⟩, ⟨3, RI.enc s_1.now9_least, l_4.2.1.sp, l_4.2.1.q, []⟩, ⟨3, RI.enc s_1.now9_most, l_4.2.2.sp, l_4.2.2.q, []⟩]) ?_ ?_
     ·replace hm := h34
      refine jn ?_
      refine jL (ι := Unit) hm (fun s_2 l_7 => VOK 1 l_5.1.n l_5.1.cap (RB.enc s_2.r0_can) l_5.1.sp l_5.1.q ∧ VOK 1 l_5.2.1.n l_5.2.1.cap (RI.enc s_2.r0_least) l_5.2.1.sp l_5.2.1.q ∧ VOK 1 l_5.2.2.n l_5.2.2.cap (RI.enc s_2.r0_most) l_5.2.2.sp l_5.2.2.q) (fun s_2 l_7 => [(1, .slice qa2 na2 ca2), (2, ptr b 0), (7, .int .i64 o), (9, ptr b_1 0), (10, .int .i64 s_1.k10), (11, ptr b_2 0), (12, .int .i64 s_2.at12)]) (fun s_2 l_7 => [(b_2, .cells #[slv l_5.1.q l_5.1.n l_5.1.cap, slv l_5.2.1.q l_5.2.1.n l_5.2.1.cap, slv l_5.2.2.q l_5.2.2.n l_5.2.2.cap] 102 (0, 0)), (b_1, .cells #[slv l_4.1.q l_4.1.n l_4.1.cap, slv l_4.2.1.q l_4.2.1.n l_4.2.1.cap, slv l_4.2.2.q l_4.2.2.n l_4.2.2.cap] 102 (0, 0)), (b, .cells #[.slice qa0 na0 ca0, .slice qa1 na1 ca1] 38 (0, 0))]) (fun s_2 l_7 => [⟨4, RB.enc s_2.r0_can, l_5.1.sp, l_5.1.q, []⟩, ⟨3, RI.enc s_2.r0_least, l_5.2.1.sp, l_5.2.1.q, []⟩, ⟨3, RI.enc s_2.r0_most, l_5.2.2.sp, l_5.2.2.q, []⟩, ⟨4, RB.enc s_1.now9_can, l_4.1.sp, l_4.1.q, []⟩, ⟨3, RI.enc s_1.now9_least, l_4.2.1.sp, l_4.2.1.q, []⟩, ⟨3, RI.enc s_1.now9_most, l_4.2.2.sp, l_4.2.2.q, []⟩]) () (⟨h30, h31, h32⟩) (sE rfl) (fun w hh => hh) (fun s_2 l_7 r_2 hpl hm h42 => ?_)
      obtain ⟨h39, h40, h41⟩ := hpl
      unfold zT at hm
      refine jj (jq (je rfl rfl (je rfl rfl (yY rfl rfl rfl (jp ?_)))))
      refine js rfl (fun h43 => ?_) (fun h43 => ?_)
      ·replace hm := ifD h43 hm
       refine ju (ja (jj ?_))
       obtain ⟨o_3, h44, h45⟩ := bindO hm
       refine jF (ι := Unit) (fun l_8 => VOK 1 l_5.1.n l_5.1.cap (RB.enc o_3.r0_can) l_5.1.sp l_5.1.q ∧ VOK 1 l_5.2.1.n l_5.2.1.cap (RI.enc o_3.r0_least) l_5.2.1.sp l_5.2.1.q ∧ VOK 1 l_5.2.2.n l_5.2.2.cap (RI.enc o_3.r0_most) l_5.2.2.sp l_5.2.2.q) (fun l_8 => [(1, .slice qa2 na2 ca2), (2, ptr b 0), (7, .int .i64 o), (9, ptr b_1 0), (10, .int .i64 s_1.k10), (11, ptr b_2 0), (12, .int .i64 s_2.at12)]) (fun l_8 => [(b_2, .cells #[slv l_5.1.q l_5.1.n l_5.1.cap, slv l_5.2.1.q l_5.2.1.n l_5.2.1.cap, slv l_5.2.2.q l_5.2.2.n l_5.2.2.cap] 102 (0, 0)), (b_1, .cells #[slv l_4.1.q l_4.1.n l_4.1.cap, slv l_4.2.1.q l_4.2.1.n l_4.2.1.cap, slv l_4.2.2.q l_4.2.2.n l_4.2.2.cap] 102 (0, 0)), (b, .cells #[.slice qa0 na0 ca0, .slice qa1 na1 ca1] 38 (0, 0))]) (fun l_8 => [⟨4, RB.enc o_3.r0_can, l_5.1.sp, l_5.1.q, []⟩, ⟨3, RI.enc o_3.r0_least, l_5.2.1.sp, l_5.2.1.q, []⟩, ⟨3, RI.enc o_3.r0_most, l_5.2.2.sp, l_5.2.2.q, []⟩, ⟨4, RB.enc s_1.now9_can, l_4.1.sp, l_4.1.q, []⟩, ⟨3, RI.enc s_1.now9_least, l_4.2.1.sp, l_4.2.1.q, []⟩, ⟨3, RI.enc s_1.now9_most, l_4.2.2.sp, l_4.2.2.q, []⟩]) ?_ ?_
       ·replace hm := h44
        refine jn (jq (jP 0 Tryz.runUnderlying102 rfl Tryz.sizeOf93 rfl rfl (jY 1 Tryz.isAgg93 rfl rfl rfl rfl (je rfl rfl ?_))))
        obtain ⟨t55, h49, hm⟩ := bindO hm
        refine jc rfl rfl rfl (fun w _ => qx h49 (Tryz.runUnderlying93 w) (Tryz.sizeOf4 w) rfl rfl (vlen RB h23 rfl) (vne h23)) (jc rfl rfl rfl (fun w hh => kl RB 0 h49 (Tryz.isAgg4 w) rfl (hh.vseg 3 rfl h23) rfl (Nat.add_zero _).symm) (jp ?_))
        refine js rfl (fun h50 => ?_) (fun h50 => ?_)
        ·replace hm := ifT (h50) hm
         refine jX none (.hoist 0 (.free 1 (.free 2 (.free 3 (.free 4 (.free 5 (.hoist 6 (.free 7 (.free 8 (.hoist 9 (.free 10 (.hoist 11 (.free 12 (.free 13 (.hoist 14 (.hoist 15 (.one 16 .done))))))))))))))))) (HV _ _ [(b_2, .cells #[slv l_5.1.q l_5.1.n l_5.1.cap, slv l_5.2.1.q l_5.2.1.n l_5.2.1.cap, slv l_5.2.2.q l_5.2.2.n l_5.2.2.cap] 102 (0, 0)), (b_1, .cells #[slv l_4.1.q l_4.1.n l_4.1.cap, slv l_4.2.1.q l_4.2.1.n l_4.2.1.cap, slv l_4.2.2.q l_4.2.2.n l_4.2.2.cap] 102 (0, 0)), (b, .cells #[.slice qa0 na0 ca0, .slice qa1 na1 ca1] 38 (0, 0))] [⟨4, RB.enc s_1.now9_can, l_4.1.sp, l_4.1.q, []⟩, ⟨3, RI.enc s_1.now9_least, l_4.2.1.sp, l_4.2.1.q, []⟩, ⟨3, RI.enc s_1.now9_most, l_4.2.2.sp, l_4.2.2.q, []⟩] _) rfl (by decide +kernel) (fun w k hh => hh.draw k) (hsE [0, 1, 2] [3, 4, 5] 0 rfl rfl rfl rfl) ?_
         refine jD rfl rfl rfl rfl (fun w hh => j1 (vs := [_, _]) (Tryz.isAgg38 w) (Tryz.sizeOf38 w) rfl (hh.cells 2 rfl rfl)) (ku rfl rfl rfl (ku rfl rfl rfl (ku rfl rfl rfl (ku rfl rfl rfl (k5 1 Tryz.runUnderlying102 Tryz.sizeOf26 rfl rfl rfl rfl (qY 1 Tryz.isAgg26 rfl rfl rfl rfl rfl (ku rfl rfl rfl ?_)))))))
         obtain ⟨t65, h51, hm⟩ := bindO hm
         refine ji rfl rfl rfl rfl (fun w _ => qx h51 (Tryz.runUnderlying26 w) (Tryz.sizeOf3 w) rfl rfl (vlen RI h24 rfl) (vne h24)) (jD rfl rfl rfl rfl (fun w hh => kl RI 0 h51 (Tryz.isAgg3 w) rfl (hh.vseg 1 rfl h24) rfl (Nat.add_zero _).symm) (k5 2 Tryz.runUnderlying102 Tryz.sizeOf26 rfl rfl rfl rfl (qY 1 Tryz.isAgg26 rfl rfl rfl rfl rfl (ku rfl rfl rfl ?_))))
         obtain ⟨t70, h52, hm⟩ := bindO hm
         refine ji rfl rfl rfl rfl (fun w _ => qx h52 (Tryz.runUnderlying26 w) (Tryz.sizeOf3 w) rfl rfl (vlen RI h25 rfl) (vne h25)) (jD rfl rfl rfl rfl (fun w hh => kl RI 0 h52 (Tryz.isAgg3 w) rfl (hh.vseg 2 rfl h25) rfl (Nat.add_zero _).symm) (jD rfl rfl rfl rfl (fun w hh => j1 (vs := [_, _, _]) (Tryz.isAgg102 w) (Tryz.sizeOf102 w) rfl (hh.cells 0 rfl rfl)) (jE rfl ?_)))
         obtain ⟨t73, h53, hm⟩ := bindO hm
         refine jd [] [_, _, _] rfl rfl rfl rfl rfl rfl rfl Tryz.call54 (fun w hh => Z3 FU s0 c1 s_1.k10 0 s_2.at12 s_2.at12 0 t65 t70 (⟨s_2.r0_can, s_2.r0_least, s_2.r0_most⟩ : Book) qa0 na0 ca0 qa1 na1 ca1 qa2 na2 ca2 ar2 ⟨l_5.1.q, l_5.1.n, l_5.1.cap, l_5.1.sp⟩ ⟨l_5.2.1.q, l_5.2.1.n, l_5.2.1.cap, l_5.2.1.sp⟩ ⟨l_5.2.2.q, l_5.2.2.n, l_5.2.2.cap, l_5.2.2.sp⟩ w (HV.callee (S0 := []) (vs0 := [_, _, _]) hh (roR hh 0 rfl (roR hh 1 rfl (roR hh 2 rfl roN)))) hna0 hqa0 hla0 hna1 hqa1 hla1 hna2 hqa2 hla2 hda2 (hh.oldT (S0 := []) (vs0 := [_, _, _]) hTa2) h39 h40 h41 h53) (fun l_9 h54 => ?_)
         obtain ⟨h55, h56, h57⟩ := h54
         refine jT (S' := [_, _, _]) (vs' := [_, _, _, _, _, _]) [0, 1, 2] [0, 1, 2, 3, 4, 5] 0 rfl rfl rfl rfl (jr (hsE [0, 1, 2] [3, 4, 5] 0 rfl rfl rfl rfl) (jM (jt ?_)))
         obtain rfl := sj hm
         exact jg () (⟨h55, h56, h57⟩) (sE rfl) (fun w hh => hh)
        ·replace hm := ifN h50 hm
         refine ju (jt ?_)
         obtain rfl := sj hm
         exact jg () (⟨h39, h40, h41⟩) (sE rfl) (fun w hh => hh)
       ·intro l_8 hj
        obtain ⟨h46, h47, h48⟩ := hj
        replace hm := h45
        refine ja (jh (je rfl rfl ?_))
        obtain ⟨t51, h58, hm⟩ := bindO hm
        refine qs h58 rfl rfl rfl (jk rfl rfl (jv ?_))
        obtain rfl := sj hm
        refine ja ?_
        exact jA _ () rfl (⟨h46, h47, h48⟩) (sE rfl) (fun w hh => hh)
      ·replace hm := ifE h43 hm
       refine jS (jl (jl (jG ?_)))
       obtain rfl := sj hm
       have hbo := h42 _ rfl
       subst hbo
       exact jg () (⟨h39, h40, h41⟩) (sE rfl) (fun w hh => hh)
     ·intro l_6 hj
      obtain ⟨h36, h37, h38⟩ := hj
      replace hm := h35
      refine ja (jh (kD [_, _, _] 0 Tryz.isAgg102 Tryz.sizeOf102 rfl rfl rfl rfl (jy (us := #[_, _, _]) (cs' := [_, _, _]) (S' := [_, _, _]) 1 (fun w => Tryz.sizeOf102 w) rfl rfl rfl rfl rfl rfl rfl (jv (jt (ja (jh ?_)))))))
      refine je rfl rfl ?_
      obtain ⟨t44, h59, hm⟩ := bindO hm
      refine qs h59 rfl rfl rfl (jk rfl rfl (jv ?_))
      obtain rfl := sj hm
      refine ja ?_
      exact jA _ (l_5.1, l_5.2.1, l_5.2.2) rfl (⟨h36, h37, h38⟩) (sE rfl) (hsE [1, 2] [0, 1, 2] 0 rfl rfl rfl rfl)
    ·replace hm := ifE h27 hm
     refine jS (jl (jl (jG ?_)))
     obtain rfl := sj hm
     have hbo := h26 _ rfl
     subst hbo
     exact jg (l_4.1, l_4.2.1, l_4.2.2) (⟨h23, h24, h25⟩) (sE rfl) (fun w hh => hh)
   ·intro l_3 hj
    obtain ⟨h20, h21, h22⟩ := hj
    replace hm := h19
    refine ja (jq (jk rfl rfl (jk rfl rfl (jk rfl rfl (jp (jj (jq ?_)))))))
    refine jk rfl rfl (jp ?_)
    obtain ⟨o_4, h60, h61⟩ := bindO hm
    refine jF (ι := Unit) (fun l_10 => True) (fun l_10 => [(13, .bool o_4.found13), (14, .int .i64 o_4.least14), (15, .int .i64 o_4.most15)]) (fun l_10 => [(b_1, .cells #[slv l_3.1.q l_3.1.n l_3.1.cap, slv l_3.2.1.q l_3.2.1.n l_3.2.1.cap, slv l_3.2.2.q l_3.2.2.n l_3.2.2.cap] 102 (0, 0)), (b, .cells #[.slice qa0 na0 ca0, .slice qa1 na1 ca1] 38 (0, 0))]) (fun l_10 => [⟨4, RB.enc o_1.now9_can, l_3.1.sp, l_3.1.q, []⟩, ⟨3, RI.enc o_1.now9_least, l_3.2.1.sp, l_3.2.1.q, []⟩, ⟨3, RI.enc o_1.now9_most, l_3.2.2.sp, l_3.2.2.q, []⟩]) ?_ ?_
    ·replace hm := h60
     refine jn ?_
     refine jL (ι := Unit) hm (fun s_3 l_11 => True) (fun s_3 l_11 => [(2, ptr b 0), (7, .int .i64 o), (9, ptr b_1 0), (13, .bool s_3.found13), (14, .int .i64 s_3.least14), (15, .int .i64 s_3.most15), (16, .int .i64 s_3.at16)]) (fun s_3 l_11 => [(b_1, .cells #[slv l_3.1.q l_3.1.n l_3.1.cap, slv l_3.2.1.q l_3.2.1.n l_3.2.1.cap, slv l_3.2.2.q l_3.2.2.n l_3.2.2.cap] 102 (0, 0)), (b, .cells #[.slice qa0 na0 ca0, .slice qa1 na1 ca1] 38 (0, 0))]) (fun s_3 l_11 => [⟨4, RB.enc o_1.now9_can, l_3.1.sp, l_3.1.q, []⟩, ⟨3, RI.enc o_1.now9_least, l_3.2.1.sp, l_3.2.1.q, []⟩, ⟨3, RI.enc o_1.now9_most, l_3.2.2.sp, l_3.2.2.q, []⟩]) () (trivial) (sE rfl) (fun w hh => hh) (fun s_3 l_11 r_3 hpl hm h62 => ?_)
     unfold zO at hm
     refine jj (jq (je rfl rfl (je rfl rfl (yY rfl rfl rfl (jp ?_)))))
     refine js rfl (fun h63 => ?_) (fun h63 => ?_)
     ·replace hm := ifD h63 hm
      refine ju (ja (jj ?_))
      obtain ⟨o_5, h64, h65⟩ := bindO hm
      refine jF (ι := Unit) (fun l_12 => True) (fun l_12 => [(2, ptr b 0), (7, .int .i64 o), (9, ptr b_1 0), (13, .bool o_5.found13), (14, .int .i64 o_5.least14), (15, .int .i64 o_5.most15), (16, .int .i64 s_3.at16)]) (fun l_12 => [(b_1, .cells #[slv l_3.1.q l_3.1.n l_3.1.cap, slv l_3.2.1.q l_3.2.1.n l_3.2.1.cap, slv l_3.2.2.q l_3.2.2.n l_3.2.2.cap] 102 (0, 0)), (b, .cells #[.slice qa0 na0 ca0, .slice qa1 na1 ca1] 38 (0, 0))]) (fun l_12 => [⟨4, RB.enc o_1.now9_can, l_3.1.sp, l_3.1.q, []⟩, ⟨3, RI.enc o_1.now9_least, l_3.2.1.sp, l_3.2.1.q, []⟩, ⟨3, RI.enc o_1.now9_most, l_3.2.2.sp, l_3.2.2.q, []⟩]) ?_ ?_
      ·replace hm := h64
       refine jn (jj (jj ?_))
       obtain ⟨o_6, h66, h67⟩ := bindO hm
       refine jF (ι := Unit) (fun l_13 => True) (fun l_13 => [(2, ptr b 0), (7, .int .i64 o), (9, ptr b_1 0), (13, .bool s_3.found13), (14, .int .i64 s_3.least14), (15, .int .i64 s_3.most15), (16, .int .i64 s_3.at16), (91, .bool o_6)]) (fun l_13 => [(b_1, .cells #[slv l_3.1.q l_3.1.n l_3.1.cap, slv l_3.2.1.q l_3.2.1.n l_3.2.1.cap, slv l_3.2.2.q l_3.2.2.n l_3.2.2.cap] 102 (0, 0)), (b, .cells #[.slice qa0 na0 ca0, .slice qa1 na1 ca1] 38 (0, 0))]) (fun l_13 => [⟨4, RB.enc o_1.now9_can, l_3.1.sp, l_3.1.q, []⟩, ⟨3, RI.enc o_1.now9_least, l_3.2.1.sp, l_3.2.1.q, []⟩, ⟨3, RI.enc o_1.now9_most, l_3.2.2.sp, l_3.2.2.q, []⟩]) ?_ ?_
       ·replace hm := h66
        refine jh (jP 0 Tryz.runUnderlying102 rfl Tryz.sizeOf93 rfl rfl (jY 0 Tryz.isAgg93 rfl rfl rfl rfl (je rfl rfl ?_)))
        obtain ⟨t83, h68, hm⟩ := bindO hm
        refine jc rfl rfl rfl (fun w _ => qx h68 (Tryz.runUnderlying93 w) (Tryz.sizeOf4 w) rfl rfl (vlen RB h20 rfl) (vne h20)) (jc rfl rfl rfl (fun w hh => kl RB 0 h68 (Tryz.isAgg4 w) rfl (hh.vseg 0 rfl h20) rfl (Nat.add_zero _).symm) (jc rfl rfl rfl (fun _ _ => kE rfl) (je rfl rfl ?_)))
        refine jJ 86 rfl (fun h69 => ?_) (fun h69 => ?_)
        ·replace hm := ifT (h69) hm
         refine g_k rfl rfl rfl rfl (g_k rfl rfl rfl rfl (g_k rfl rfl rfl rfl (g_k rfl rfl rfl rfl (kx rfl rfl rfl (jv ?_)))))
         obtain rfl := sj hm
         exact jg () (trivial) (sE rfl) (fun w hh => hh)
        ·replace hm := ifN h69 hm
         refine jb rfl rfl (kD [_, _] 1 Tryz.isAgg38 Tryz.sizeOf38 rfl rfl rfl rfl (jb rfl rfl (je rfl rfl (jb rfl rfl ?_))))
         obtain ⟨t89, h70, hm⟩ := bindO hm
         refine jd [] [] rfl rfl rfl rfl rfl rfl rfl Tryz.call55 (fun w hh => ZV s0 s_3.at16 qa0 na0 ca0 qa1 na1 ca1 w (HV.callee (S0 := []) (vs0 := []) hh (roR hh 0 rfl (roR hh 1 rfl roN))) hna0 hqa0 hla0 hna1 hqa1 hla1 h70) (fun l_14 h71 => ?_)
         refine jb rfl rfl (jc rfl rfl rfl (fun _ _ => kE rfl) (j3 rfl rfl rfl (jv ?_)))
         obtain rfl := sj hm
         exact jg () (trivial) (sE rfl) (fun w hh => hh)
       ·intro l_13 hj
        replace hm := h67
        refine ja ?_
        refine js rfl (fun h72 => ?_) (fun h72 => ?_)
        ·replace hm := ifT (h72) hm
         refine jS (jl (jG ?_))
         obtain rfl := sj hm
         exact jg () (trivial) (sE rfl) (fun w hh => hh)
        ·replace hm := ifN h72 hm
         refine ju (ja (jj ?_))
         obtain ⟨o_7, h73, h74⟩ := bindO hm
         refine jF (ι := Unit) (fun l_15 => True) (fun l_15 => [(2, ptr b 0), (7, .int .i64 o), (9, ptr b_1 0), (13, .bool o_7.found13), (14, .int .i64 o_7.least14), (15, .int .i64 o_7.most15), (16, .int .i64 s_3.at16)]) (fun l_15 => [(b_1, .cells #[slv l_3.1.q l_3.1.n l_3.1.cap, slv l_3.2.1.q l_3.2.1.n l_3.2.1.cap, slv l_3.2.2.q l_3.2.2.n l_3.2.2.cap] 102 (0, 0)), (b, .cells #[.slice qa0 na0 ca0, .slice qa1 na1 ca1] 38 (0, 0))]) (fun l_15 => [⟨4, RB.enc o_1.now9_can, l_3.1.sp, l_3.1.q, []⟩, ⟨3, RI.enc o_1.now9_least, l_3.2.1.sp, l_3.2.1.q, []⟩, ⟨3, RI.enc o_1.now9_most, l_3.2.2.sp, l_3.2.2.q, []⟩]) ?_ ?_
         ·replace hm := h73
          refine jq (je rfl rfl (jc rfl rfl rfl (fun _ _ => kE rfl) (jp ?_)))
          refine js rfl (fun h75 => ?_) (fun h75 => ?_)
          ·replace hm := ifT (h75) hm
           refine jX none (.free 0 (.hoist 1 (.free 2 (.free 3 (.hoist 4 (.free 5 (.hoist 6 (.free 7 (.free 8 (.hoist 9 (.free 10 (.free 11 (.free 12 .done))))))))))))) _ rfl (by decide +kernel) (fun w k hh => hh.draw k) (fun w hh => hh) ?_
           refine k5 1 Tryz.runUnderlying102 Tryz.sizeOf26 rfl rfl rfl rfl (qY 0 Tryz.isAgg26 rfl rfl rfl rfl rfl (ku rfl rfl rfl ?_))
           obtain ⟨t97, h76, hm⟩ := bindO hm
           refine ji rfl rfl rfl rfl (fun w _ => qx h76 (Tryz.runUnderlying26 w) (Tryz.sizeOf3 w) rfl rfl (vlen RI h21 rfl) (vne h21)) (jD rfl rfl rfl rfl (fun w hh => kl RI 0 h76 (Tryz.isAgg3 w) rfl (hh.vseg 1 rfl h21) rfl (Nat.add_zero _).symm) (k5 2 Tryz.runUnderlying102 Tryz.sizeOf26 rfl rfl rfl rfl (qY 0 Tryz.isAgg26 rfl rfl rfl rfl rfl (ku rfl rfl rfl ?_))))
           obtain ⟨t102, h77, hm⟩ := bindO hm
           refine ji rfl rfl rfl rfl (fun w _ => qx h77 (Tryz.runUnderlying26 w) (Tryz.sizeOf3 w) rfl rfl (vlen RI h22 rfl) (vne h22)) (jD rfl rfl rfl rfl (fun w hh => kl RI 0 h77 (Tryz.isAgg3 w) rfl (hh.vseg 2 rfl h22) rfl (Nat.add_zero _).symm) (ji rfl rfl rfl rfl (fun _ _ => jH rfl) (ji rfl rfl rfl rfl (fun _ _ => jH rfl) (ji rfl rfl rfl rfl (fun _ _ => jH rfl) (jM ?_)))))
           obtain rfl := sj hm
           exact jg () (trivial) (sE rfl) (fun w hh => hh)
          ·replace hm := ifN h75 hm
           refine ju ?_
           obtain rfl := sj hm
           exact jg () (trivial) (sE rfl) (fun w hh => hh)
         ·intro l_15 hj
          replace hm := h74
          refine ja (jq (je rfl rfl (jP 1 Tryz.runUnderlying102 rfl Tryz.sizeOf26 rfl rfl (jY 0 Tryz.isAgg26 rfl rfl rfl rfl (je rfl rfl ?_)))))
          obtain ⟨t108, h78, hm⟩ := bindO hm
          refine jc rfl rfl rfl (fun w _ => qx h78 (Tryz.runUnderlying26 w) (Tryz.sizeOf3 w) rfl rfl (vlen RI h21 rfl) (vne h21)) (jc rfl rfl rfl (fun w hh => kl RI 0 h78 (Tryz.isAgg3 w) rfl (hh.vseg 1 rfl h21) rfl (Nat.add_zero _).symm) (jc rfl rfl rfl (fun _ _ => jas rfl rfl) (jk rfl rfl (jp (jh (je rfl rfl (jP 2 Tryz.runUnderlying102 rfl Tryz.sizeOf26 rfl rfl ?_)))))))
          refine jY 0 Tryz.isAgg26 rfl rfl rfl rfl (je rfl rfl ?_)
          obtain ⟨t115, h79, hm⟩ := bindO hm
          refine jc rfl rfl rfl (fun w _ => qx h79 (Tryz.runUnderlying26 w) (Tryz.sizeOf3 w) rfl rfl (vlen RI h22 rfl) (vne h22)) (jc rfl rfl rfl (fun w hh => kl RI 0 h79 (Tryz.isAgg3 w) rfl (hh.vseg 2 rfl h22) rfl (Nat.add_zero _).symm) (jc rfl rfl rfl (fun _ _ => Z5 rfl rfl) (jk rfl rfl (jv (jt ?_)))))
          obtain rfl := sj hm
          exact jg () (trivial) (sE rfl) (fun w hh => hh)
      ·intro l_12 hj
       replace hm := h65
       refine ja (jh (je rfl rfl ?_))
       obtain ⟨t79, h80, hm⟩ := bindO hm
       refine qs h80 rfl rfl rfl (jk rfl rfl (jv ?_))
       obtain rfl := sj hm
       refine ja ?_
       exact jA _ () rfl (trivial) (sE rfl) (fun w hh => hh)
     ·replace hm := ifE h63 hm
      refine jS (jl (jl (jG ?_)))
      obtain rfl := sj hm
      have hbo := h62 _ rfl
      subst hbo
      exact jg () (trivial) (sE rfl) (fun w hh => hh)
    ·intro l_10 hj
     replace hm := h61
     refine ja (jq (je rfl rfl (je rfl rfl (je rfl rfl (jk rfl rfl (jk rfl rfl (jk rfl rfl ?_)))))))
     refine jp (jw ?_)
     obtain rfl := sj hm
     refine jm rfl (fun w hh => (.tmp rfl (.tmp rfl (.tmp rfl .nil)))) (fun w hh => ⟨(), rfl, trivial, hh.se [] [] 3 rfl rfl rfl rfl⟩)
def qL (s10 : (List Strip)) (s21 : (List Strip)) (s : Int) : Option (Int ⊕ (Unit ⊕ Bool)) :=
 if s < (s10.length : Int) then
 ((ix s10 s).bind fun t18 =>
 (ix s21 s).bind fun t22 =>
 if (⟨t18.tenant, (⟨t18.lay.lo, t18.lay.hi⟩ : Span), (⟨t18.seeded.lo, t18.seeded.hi⟩ : Span), (⟨t18.left.lo, t18.left.hi⟩ : Span)⟩ : Strip) = (⟨t22.tenant, (⟨t22.lay.lo, t22.lay.hi⟩ : Span), (⟨t22.seeded.lo, t22.seeded.hi⟩ : Span), (⟨t22.left.lo, t22.left.hi⟩ : Span)⟩ : Strip) then
 ((addc s 1).bind fun t25 =>
 some (.inl t25)) else
 (some (.inr (.inr false)))) else
 (some (.inr (.inl ())))
def Ji (s10 : (List Strip)) (s21 : (List Strip)) : Option Bool :=
 if (s10.length : Int) = (s21.length : Int) then
 ((iterM FU (qL s10 s21) 0).bind fun o =>
 oc o (fun j => some true) (fun r_1 => some r_1)) else
 (some false)
theorem Y2 (s10 : (List Strip)) (s21 : (List Strip)) (qa0 : Option Addr) (na0 ca0 : Nat) (qa1 : Option Addr) (na1 ca1 : Nat) (w : World) (hw : HV w (keys [] []) [] [] [(aB qa0, aO qa0, RSt.enc s10), (aB qa1, aO qa1, RSt.enc s21)] w) (hna0 : s10.length = na0) (hqa0 : AOK na0 qa0) (hla0 : na0 ≤ ca0) (hna1 : s21.length = na1) (hqa1 : AOK na1 qa1) (hla1 : na1 ≤ ca1) {res : Bool} (hm : Ji s10 s21 = some res) :
    Calls Tryz.prog 117 #[.slice qa0 na0 ca0, .slice qa1 na1 ca1] w (fun en w' => ∃ l : Unit, en = .returned (.bool res) ∧ (True) ∧ HV w (keys [] []) [] [] [] w') := by
  unfold Ji at hm
  refine j5 Tryz.func117 rfl Tryz.ntmps117 rfl (e := [(0, _), (1, _)]) rfl hw (jq (jk rfl rfl (jp (jj (jq (je rfl rfl (jc rfl rfl rfl (fun w _ => jI hna0 (Tryz.runUnderlying22 w) rfl) ?_)))))))
  refine je rfl rfl (jc rfl rfl rfl (fun w _ => jI hna1 (Tryz.runUnderlying22 w) rfl) (jc rfl rfl rfl (fun _ _ => q8 rfl rfl) (jp ?_)))
  refine js rfl (fun h1 => ?_) (fun h1 => ?_)
  ·replace hm := ifF (of_ndec_true h1) hm
   refine jq (jk rfl rfl (jp (jw (jf ?_))))
   obtain rfl := sj hm
   refine jm rfl (fun w hh => (.tmp rfl .nil)) (fun w hh => ⟨(), rfl, trivial, hh.se [] [] 2 rfl rfl rfl rfl⟩)
  ·replace hm := ifT (of_ndec_false h1) hm
   refine ju (ja (jj (jq (je rfl rfl (jc rfl rfl rfl (fun w _ => jI hna0 (Tryz.runUnderlying22 w) rfl) (je rfl rfl (jp ?_)))))))
   obtain ⟨o, h2, h3⟩ := bindO hm
   refine jF (ι := Unit) (fun j => o = .inl j) (fun j => []) (fun j => []) (fun j => []) ?_ ?_
   ·replace hm := h2
    refine jn ?_
    refine jL (ι := Unit) hm (fun s l => True) (fun s l => [(0, .slice qa0 na0 ca0), (1, .slice qa1 na1 ca1), (12, .int .i64 (s10.length : Int)), (13, .int .i64 s)]) (fun s l => []) (fun s l => []) () (trivial) (sE rfl) (fun w hh => hh) (fun s l r hpl hm h4 => ?_)
    unfold qL at hm
    refine jq (yY rfl rfl rfl (jp (jj ?_)))
    refine js rfl (fun h5 => ?_) (fun h5 => ?_)
    ·replace hm := ifD h5 hm
     refine ju (ja (jj (jn (jq (je rfl rfl (jk rfl rfl (jp ?_)))))))
     refine jj ?_
     refine jX none (.free 0 (.free 1 (.free 2 (.hoist 3 (.free 4 (.free 5 (.free 6 (.hoist 7 (.free 8 .done))))))))) _ rfl (by decide +kernel) (fun w k hh => hh.draw k) (fun w hh => hh) ?_
     refine ku rfl rfl rfl (ku rfl rfl rfl ?_)
     obtain ⟨t18, h6, hm⟩ := bindO hm
     refine ji rfl rfl rfl rfl (fun w _ => ki h6 (Tryz.runUnderlying22 w) (Tryz.sizeOf85 w) rfl rfl hna0 hqa0) ?_
     refine jD rfl rfl rfl rfl (fun w hh => kt RSt 0 [.int .i64 t18.tenant, .int .i64 t18.lay.lo, .int .i64 t18.lay.hi, .int .i64 t18.seeded.lo, .int .i64 t18.seeded.hi, .int .i64 t18.left.lo, .int .i64 t18.left.hi] h6 (Tryz.isAgg85 w) (Tryz.sizeOf85 w) rfl (hh.seg 0 rfl) rfl (Nat.add_zero _).symm) ?_
     refine ku rfl rfl rfl (ku rfl rfl rfl ?_)
     obtain ⟨t22, h7, hm⟩ := bindO hm
     refine ji rfl rfl rfl rfl (fun w _ => ki h7 (Tryz.runUnderlying22 w) (Tryz.sizeOf85 w) rfl rfl hna1 hqa1) ?_
     refine jD rfl rfl rfl rfl (fun w hh => kt RSt 0 [.int .i64 t22.tenant, .int .i64 t22.lay.lo, .int .i64 t22.lay.hi, .int .i64 t22.seeded.lo, .int .i64 t22.seeded.hi, .int .i64 t22.left.lo, .int .i64 t22.left.hi] h7 (Tryz.isAgg85 w) (Tryz.sizeOf85 w) rfl (hh.seg 1 rfl) rfl (Nat.add_zero _).symm) ?_
     refine ji rfl rfl rfl rfl (fun w _ => ZP (jbh (⟨t18.tenant, (⟨t18.lay.lo, t18.lay.hi⟩ : Span), (⟨t18.seeded.lo, t18.seeded.hi⟩ : Span), (⟨t18.left.lo, t18.left.hi⟩ : Span)⟩ : Strip) (⟨t22.tenant, (⟨t22.lay.lo, t22.lay.hi⟩ : Span), (⟨t22.seeded.lo, t22.seeded.hi⟩ : Span), (⟨t22.left.lo, t22.left.hi⟩ : Span)⟩ : Strip) w) ja4 rfl rfl) ?_
     refine jM (ja ?_)
     refine js rfl (fun h8 => ?_) (fun h8 => ?_)
     ·replace hm := ifF (of_ndec_true h8) hm
      refine jq (jk rfl rfl (jp (jw (jx (jf (jf (jx ?_)))))))
      obtain rfl := sj hm
      have hbo := h4 _ rfl
      subst hbo
      refine jf ?_
      replace hm := ocR h3
      refine jf ?_
      obtain rfl := sj hm
      refine jm rfl (fun w hh => (.tmp rfl .nil)) (fun w hh => ⟨(), rfl, trivial, hh.se [] [] 2 rfl rfl rfl rfl⟩)
     ·replace hm := ifT (of_ndec_false h8) hm
      refine ju (jt (ja (jh ?_)))
      obtain ⟨t25, h9, hm⟩ := bindO hm
      refine qs h9 rfl rfl rfl (je rfl rfl (jv ?_))
      obtain rfl := sj hm
      refine ja ?_
      exact jA _ () rfl (trivial) (sE rfl) (fun w hh => hh)
    ·replace hm := ifE h5 hm
     refine jS (jl (jl (jG ?_)))
     obtain rfl := sj hm
     have hbo := h4 _ rfl
     subst hbo
     exact jg () (rfl) (.nil) (fun w hh => hh)
   ·intro j hj
    have h10 := hj
    subst h10
    replace hm := ocL h3
    refine ja (jq (jk rfl rfl (jp (jw ?_))))
    obtain rfl := sj hm
    refine jm rfl (fun w hh => (.tmp rfl .nil)) (fun w hh => ⟨(), rfl, trivial, hh.se [] [] 2 rfl rfl rfl rfl⟩)
def qk (a0 : (List Strip)) (b1 : (List Strip)) : Option Bool :=
 (Ji a0 b1).bind fun t7 =>
 some t7
theorem QS (a0 : (List Strip)) (b1 : (List Strip)) (qa0 : Option Addr) (na0 ca0 : Nat) (qa1 : Option Addr) (na1 ca1 : Nat) (w : World) (hw : HV w (keys [] []) [] [] [(aB qa0, aO qa0, RSt.enc a0), (aB qa1, aO qa1, RSt.enc b1)] w) (hna0 : a0.length = na0) (hqa0 : AOK na0 qa0) (hla0 : na0 ≤ ca0) (hna1 : b1.length = na1) (hqa1 : AOK na1 qa1) (hla1 : na1 ≤ ca1) {res : Bool} (hm : qk a0 b1 = some res) :
    Calls Tryz.prog 76 #[.slice qa0 na0 ca0, .slice qa1 na1 ca1] w (fun en w' => ∃ l : Unit, en = .returned (.bool res) ∧ (True) ∧ HV w (keys [] []) [] [] [] w') := by
  unfold qk at hm
  refine j5 Tryz.func76 rfl Tryz.ntmps76 rfl (e := [(0, _), (1, _)]) rfl hw (jq (jk rfl rfl (j0 (je rfl rfl (je rfl rfl ?_)))))
  obtain ⟨t7, h1, hm⟩ := bindO hm
  refine jd [] [] rfl rfl rfl rfl rfl rfl rfl Tryz.call117 (fun w hh => Y2 a0 b1 qa0 na0 ca0 qa1 na1 ca1 w (HV.callee (S0 := []) (vs0 := []) hh (roR hh 0 rfl (roR hh 1 rfl roN))) hna0 hqa0 hla0 hna1 hqa1 hla1 h1) (fun l h2 => ?_)
  refine jk rfl rfl (jp (jw ?_))
  obtain rfl := sj hm
  refine jm rfl (fun w hh => (.tmp rfl .nil)) (fun w hh => ⟨(), rfl, trivial, hh.se [] [] 2 rfl rfl rfl rfl⟩)
def qH (s10 : (List Span)) (s21 : (List Span)) (s : Int) : Option (Int ⊕ (Unit ⊕ Bool)) :=
 if s < (s10.length : Int) then
 ((ix s10 s).bind fun t18 =>
 (ix s21 s).bind fun t22 =>
 if (⟨t18.lo, t18.hi⟩ : Span) = (⟨t22.lo, t22.hi⟩ : Span) then
 ((addc s 1).bind fun t25 =>
 some (.inl t25)) else
 (some (.inr (.inr false)))) else
 (some (.inr (.inl ())))
def Jp (s10 : (List Span)) (s21 : (List Span)) : Option Bool :=
 if (s10.length : Int) = (s21.length : Int) then
 ((iterM FU (qH s10 s21) 0).bind fun o =>
 oc o (fun j => some true) (fun r_1 => some r_1)) else
 (some false)
theorem YW (s10 : (List Span)) (s21 : (List Span)) (qa0 : Option Addr) (na0 ca0 : Nat) (qa1 : Option Addr) (na1 ca1 : Nat) (w : World) (hw : HV w (keys [] []) [] [] [(aB qa0, aO qa0, RSp.enc s10), (aB qa1, aO qa1, RSp.enc s21)] w) (hna0 : s10.length = na0) (hqa0 : AOK na0 qa0) (hla0 : na0 ≤ ca0) (hna1 : s21.length = na1) (hqa1 : AOK na1 qa1) (hla1 : na1 ≤ ca1) {res : Bool} (hm : Jp s10 s21 = some res) :
    Calls Tryz.prog 118 #[.slice qa0 na0 ca0, .slice qa1 na1 ca1] w (fun en w' => ∃ l : Unit, en = .returned (.bool res) ∧ (True) ∧ HV w (keys [] []) [] [] [] w') := by
  unfold Jp at hm
  refine j5 Tryz.func118 rfl Tryz.ntmps118 rfl (e := [(0, _), (1, _)]) rfl hw (jq (jk rfl rfl (jp (jj (jq (je rfl rfl (jc rfl rfl rfl (fun w _ => jI hna0 (Tryz.runUnderlying23 w) rfl) ?_)))))))
  refine je rfl rfl (jc rfl rfl rfl (fun w _ => jI hna1 (Tryz.runUnderlying23 w) rfl) (jc rfl rfl rfl (fun _ _ => q8 rfl rfl) (jp ?_)))
  refine js rfl (fun h1 => ?_) (fun h1 => ?_)
  ·replace hm := ifF (of_ndec_true h1) hm
   refine jq (jk rfl rfl (jp (jw (jf ?_))))
   obtain rfl := sj hm
   refine jm rfl (fun w hh => (.tmp rfl .nil)) (fun w hh => ⟨(), rfl, trivial, hh.se [] [] 2 rfl rfl rfl rfl⟩)
  ·replace hm := ifT (of_ndec_false h1) hm
   refine ju (ja (jj (jq (je rfl rfl (jc rfl rfl rfl (fun w _ => jI hna0 (Tryz.runUnderlying23 w) rfl) (je rfl rfl (jp ?_)))))))
   obtain ⟨o, h2, h3⟩ := bindO hm
   refine jF (ι := Unit) (fun j => o = .inl j) (fun j => []) (fun j => []) (fun j => []) ?_ ?_
   ·replace hm := h2
    refine jn ?_
    refine jL (ι := Unit) hm (fun s l => True) (fun s l => [(0, .slice qa0 na0 ca0), (1, .slice qa1 na1 ca1), (12, .int .i64 (s10.length : Int)), (13, .int .i64 s)]) (fun s l => []) (fun s l => []) () (trivial) (sE rfl) (fun w hh => hh) (fun s l r hpl hm h4 => ?_)
    unfold qH at hm
    refine jq (yY rfl rfl rfl (jp (jj ?_)))
    refine js rfl (fun h5 => ?_) (fun h5 => ?_)
    ·replace hm := ifD h5 hm
     refine ju (ja (jj (jn (jq (je rfl rfl (jk rfl rfl (jp ?_)))))))
     refine jj ?_
     refine jX none (.free 0 (.free 1 (.free 2 (.hoist 3 (.free 4 (.free 5 (.free 6 (.hoist 7 (.free 8 .done))))))))) _ rfl (by decide +kernel) (fun w k hh => hh.draw k) (fun w hh => hh) ?_
     refine ku rfl rfl rfl (ku rfl rfl rfl ?_)
     obtain ⟨t18, h6, hm⟩ := bindO hm
     refine ji rfl rfl rfl rfl (fun w _ => ki h6 (Tryz.runUnderlying23 w) (Tryz.sizeOf32 w) rfl rfl hna0 hqa0) ?_
     refine jD rfl rfl rfl rfl (fun w hh => kt RSp 0 [.int .i64 t18.lo, .int .i64 t18.hi] h6 (Tryz.isAgg32 w) (Tryz.sizeOf32 w) rfl (hh.seg 0 rfl) rfl (Nat.add_zero _).symm) ?_
     refine ku rfl rfl rfl (ku rfl rfl rfl ?_)
     obtain ⟨t22, h7, hm⟩ := bindO hm
     refine ji rfl rfl rfl rfl (fun w _ => ki h7 (Tryz.runUnderlying23 w) (Tryz.sizeOf32 w) rfl rfl hna1 hqa1) ?_
     refine jD rfl rfl rfl rfl (fun w hh => kt RSp 0 [.int .i64 t22.lo, .int .i64 t22.hi] h7 (Tryz.isAgg32 w) (Tryz.sizeOf32 w) rfl (hh.seg 1 rfl) rfl (Nat.add_zero _).symm) ?_
     refine ji rfl rfl rfl rfl (fun w _ => ZP (Zi (⟨t18.lo, t18.hi⟩ : Span) (⟨t22.lo, t22.hi⟩ : Span) w) Ye rfl rfl) (jM (ja ?_))
     refine js rfl (fun h8 => ?_) (fun h8 => ?_)
     ·replace hm := ifF (of_ndec_true h8) hm
      refine jq (jk rfl rfl (jp (jw (jx (jf (jf (jx ?_)))))))
      obtain rfl := sj hm
      have hbo := h4 _ rfl
      subst hbo
      refine jf ?_
      replace hm := ocR h3
      refine jf ?_
      obtain rfl := sj hm
      refine jm rfl (fun w hh => (.tmp rfl .nil)) (fun w hh => ⟨(), rfl, trivial, hh.se [] [] 2 rfl rfl rfl rfl⟩)
     ·replace hm := ifT (of_ndec_false h8) hm
      refine ju (jt (ja (jh ?_)))
      obtain ⟨t25, h9, hm⟩ := bindO hm
      refine qs h9 rfl rfl rfl (je rfl rfl (jv ?_))
      obtain rfl := sj hm
      refine ja ?_
      exact jA _ () rfl (trivial) (sE rfl) (fun w hh => hh)
    ·replace hm := ifE h5 hm
     refine jS (jl (jl (jG ?_)))
     obtain rfl := sj hm
     have hbo := h4 _ rfl
     subst hbo
     exact jg () (rfl) (.nil) (fun w hh => hh)
   ·intro j hj
    have h10 := hj
    subst h10
    replace hm := ocL h3
    refine ja (jq (jk rfl rfl (jp (jw ?_))))
    obtain rfl := sj hm
    refine jm rfl (fun w hh => (.tmp rfl .nil)) (fun w hh => ⟨(), rfl, trivial, hh.se [] [] 2 rfl rfl rfl rfl⟩)
end Go.Proofs.Ws

