/- What the functions that the law TideAsked reaches come to, and why it holds: part 6. -/
import Derived.Deep.Slices
import Derived.ChangeArms
import Derived.Below
import Derived.KernelRfl
import Derived.Test.YtaicfimbclibpaaTideAsked5
namespace Go.Proofs.Wk
open Go Go.Gx Go.Pl
set_option linter.unusedVariables false
/-! ### numbers out of bytes -/
def HOK (l : List Int) (p : Int) : Prop := 0 ≤ p ∧ (p < (l.length : Int) ∨ p = 0)
theorem pick_ok {l : List Int} {p r : Int} (hl : l.length ≤ 9223372036854775807) (hp : HOK l p) : ∃ x, m_laurelkit_Heap_pick l p r = some x ∧ (0 ≤ x.r0 ∧ x.r0 ≤ 32767) ∧ HOK l x.h0_1 := by
  obtain ⟨h0, h1⟩ := hp
  unfold m_laurelkit_Heap_pick
  have e1 : addc p 1 = some (p + 1) := addc_eq (by omega)
  by_cases hlt : p < (l.length : Int)
  · rw [if_pos hlt, ix_eq 0 h0 hlt, e1]
    simp only [Option.bind_some]
    by_cases hge : (l.length : Int) ≤ p + 1
    · rw [if_pos hge]
      refine ⟨_, rfl, Go.Fw.and_bound _ _ rfl, ?_⟩
      exact ⟨Int.le_refl _, .inr rfl⟩
    · rw [if_neg hge]
      refine ⟨_, rfl, Go.Fw.and_bound _ _ rfl, ?_⟩
      exact ⟨by simp only; omega, .inl (by simp only; omega)⟩
  · rw [if_neg hlt, e1]
    simp only [Option.bind_some]
    by_cases hge : (l.length : Int) ≤ p + 1
    · rw [if_pos hge]
      refine ⟨_, rfl, Go.Fw.and_bound _ _ rfl, ?_⟩
      exact ⟨Int.le_refl _, .inr rfl⟩
    · rw [if_neg hge]
      refine ⟨_, rfl, Go.Fw.and_bound _ _ rfl, ?_⟩
      exact ⟨by simp only; omega, .inl (by simp only; omega)⟩
theorem upto_ok {l : List Int} {p r n : Int} (hl : l.length ≤ 9223372036854775807) (hp : HOK l p) (hn : -1000000 ≤ n ∧ n ≤ 1000000) : ∃ x, m_laurelkit_Heap_Upto l p r n = some x ∧ (0 ≤ x.r0 ∧ x.r0 ≤ max 0 n) ∧ HOK l x.h0_1 := by
  obtain ⟨x, hx, hb, hk⟩ := pick_ok (r := r) hl hp
  unfold m_laurelkit_Heap_Upto
  rw [hx]
  simp only [Option.bind_some]
  rw [addc_eq (by omega)]
  simp only [Option.bind_some]
  rw [remc_eq (by omega)]
  simp only [Option.bind_some]
  refine ⟨_, rfl, ?_, hk⟩
  have h1 := Int.tmod_nonneg (max 1 (n + 1)) hb.1
  have h2 := Int.tmod_lt_of_pos x.r0 (show 0 < max 1 (n + 1) by omega)
  simp only
  omega
theorem from_ok {l : List Int} {p r lo hi : Int} (hl : l.length ≤ 9223372036854775807) (hp : HOK l p) (hn : (-400000 ≤ lo ∧ lo ≤ 400000) ∧ -400000 ≤ hi ∧ hi ≤ 400000) : ∃ x, m_laurelkit_Heap_From l p r lo hi = some x ∧ (lo ≤ x.r0 ∧ x.r0 ≤ max lo hi) ∧ HOK l x.h0_1 := by
  unfold m_laurelkit_Heap_From
  rw [subc_eq (by omega)]
  simp only [Option.bind_some]
  obtain ⟨x, hx, hb, hk⟩ := upto_ok (r := r) (n := hi - lo) hl hp (by omega)
  rw [hx]
  simp only [Option.bind_some]
  rw [addc_eq (by omega)]
  simp only [Option.bind_some]
  exact ⟨_, rfl, by simp only; omega, hk⟩
theorem once_ok {l : List Int} {p r n : Int} (hl : l.length ≤ 9223372036854775807) (hp : HOK l p) (hn : -400000 ≤ n ∧ n ≤ 400000) : ∃ x, m_laurelkit_Heap_Once l p r n = some x ∧ HOK l x.h0_1 := by
  unfold m_laurelkit_Heap_Once
  rw [subc_eq (by omega)]
  simp only [Option.bind_some]
  obtain ⟨x, hx, hb, hk⟩ := upto_ok (r := r) (n := n - 1) hl hp (by omega)
  rw [hx]
  simp only [Option.bind_some]
  exact ⟨_, rfl, hk⟩
/-! ### sands out of bytes -/
theorem made_L0 {l : List Int} (hl : l.length ≤ 9223372036854775807) {t : m_laurelkit_Heap_From_R} (ht : 0 ≤ t.r0 ∧ t.r0 ≤ 4) {a p r : Int} (ha : 0 ≤ a ∧ a ≤ 20) (hp : HOK l p) :
    ∃ o, iterM FU (m_laurellaw01_Made_L0 t l) ⟨a, 0, p, r, []⟩ = some o ∧ (∃ e, TabOK o.s7_table e ∧ e ≤ 140) ∧ (o.s7_table.length : Int) = t.r0 ∧ HOK l o.b0_1 := by
  refine iterM_inv (fun s => (0 ≤ s.t23 ∧ s.t23 ≤ t.r0) ∧ (s.s7_table.length : Int) = s.t23 ∧ TabOK s.s7_table s.at8 ∧ (0 ≤ s.at8 ∧ s.at8 ≤ 20 + 30 * s.t23) ∧ HOK l s.b0_1) (fun s => (t.r0 - s.t23).toNat) _ (fun s hs => ?_) FU _ (FU_lt (by simp only; omega)) ⟨⟨Int.le_refl _, ht.1⟩, rfl, TabOK.nil, by simp only; omega, hp⟩
  obtain ⟨h1, h2, h3, h4, h5⟩ := hs
  unfold m_laurellaw01_Made_L0
  by_cases hc : s.t23 < t.r0
  · left
    obtain ⟨x, hx, hxb, hxk⟩ := upto_ok (r := s.b0_2) (n := 60) hl h5 (by omega)
    obtain ⟨y, hy, hyb, hyk⟩ := from_ok (r := x.h0_2) (lo := 1) (hi := 30) hl hxk (by omega)
    have e1 : appc 16 s.s7_table [(⟨s.at8, x.r0⟩ : Water)] = some (s.s7_table ++ [⟨s.at8, x.r0⟩]) := appc_eq (by simp; omega)
    have e2 : addc s.at8 y.r0 = some (s.at8 + y.r0) := addc_eq (by omega)
    have e3 : addc s.t23 1 = some (s.t23 + 1) := addc_eq (by omega)
    simp only [if_pos hc, hx, e1, hy, e2, e3, Option.bind_some]
    refine ⟨_, rfl, ⟨by simp only; omega, by simp; omega, h3.snoc h4.1 (by simp only; omega) (by omega), by simp only; omega, hyk⟩, by simp only; omega⟩
  · right
    rw [if_neg hc]
    exact ⟨_, rfl, ⟨s.at8, h3, by omega⟩, by simp only; omega, h5⟩
theorem made_L1 {l : List Int} (hl : l.length ≤ 9223372036854775807) {t : m_laurelkit_Heap_From_R} (ht : 0 ≤ t.r0 ∧ t.r0 ≤ 8) {p r : Int} (hp : HOK l p) :
    ∃ o, iterM FU (m_laurellaw01_Made_L1 t l) ⟨0, p, r, []⟩ = some o ∧ (∀ x, x ∈ o.s7_floors → 0 ≤ x ∧ x ≤ 50) ∧ (o.s7_floors.length : Int) = t.r0 ∧ HOK l o.b0_1 := by
  refine iterM_inv (fun s => (0 ≤ s.t42 ∧ s.t42 ≤ t.r0) ∧ (s.s7_floors.length : Int) = s.t42 ∧ (∀ x, x ∈ s.s7_floors → 0 ≤ x ∧ x ≤ 50) ∧ HOK l s.b0_1) (fun s => (t.r0 - s.t42).toNat) _ (fun s hs => ?_) FU _ (FU_lt (by simp only; omega)) ⟨⟨Int.le_refl _, ht.1⟩, rfl, (fun x hx => by cases hx), hp⟩
  obtain ⟨h1, h2, h3, h5⟩ := hs
  unfold m_laurellaw01_Made_L1
  by_cases hc : s.t42 < t.r0
  · left
    obtain ⟨x, hx, hxb, hxk⟩ := upto_ok (r := s.b0_2) (n := 50) hl h5 (by omega)
    have e1 : appc 8 s.s7_floors [x.r0] = some (s.s7_floors ++ [x.r0]) := appc_eq (by simp; omega)
    have e3 : addc s.t42 1 = some (s.t42 + 1) := addc_eq (by omega)
    simp only [if_pos hc, hx, e1, e3, Option.bind_some]
    refine ⟨_, rfl, ⟨by simp only; omega, by simp; omega, fun y hy => ?_, hxk⟩, by simp only; omega⟩
    rcases List.mem_append.1 hy with h | h
    · exact h3 y h
    · simp only [List.mem_singleton] at h
      subst h; omega
  · right
    rw [if_neg hc]
    exact ⟨_, rfl, h3, by simp only; omega, h5⟩
theorem made_L2 {l : List Int} (hl : l.length ≤ 9223372036854775807) {t : m_laurelkit_Heap_Upto_R} {sl : Int} (hsl : 0 ≤ sl ∧ sl ≤ 16) (ht : 0 ≤ t.r0 ∧ t.r0 ≤ sl) {o1 : m_laurellaw01_Made_C1} (ho : 1 ≤ o1.s7_floors.length ∧ o1.s7_floors.length ≤ 8) {p r : Int} (hp : HOK l p) :
    ∃ o, iterM FU (m_laurellaw01_Made_L2 t o1 l) ⟨0, p, r, []⟩ = some o ∧ (∀ x, x ∈ o.s7_sills → sillOK (o1.s7_floors.length : Int) x) ∧ (o.s7_sills.length : Int) ≤ t.r0 ∧ HOK l o.b0_1 := by
  refine iterM_inv (fun s => (0 ≤ s.t55 ∧ s.t55 ≤ t.r0) ∧ (s.s7_sills.length : Int) ≤ s.t55 ∧ (∀ x, x ∈ s.s7_sills → sillOK (o1.s7_floors.length : Int) x) ∧ HOK l s.b0_1) (fun s => (t.r0 - s.t55).toNat) _ (fun s hs => ?_) FU _ (FU_lt (by simp only; omega)) ⟨⟨Int.le_refl _, ht.1⟩, by simp, (fun x hx => by cases hx), hp⟩
  obtain ⟨h1, h2, h3, h5⟩ := hs
  unfold m_laurellaw01_Made_L2
  by_cases hc : s.t55 < t.r0
  · left
    have e62 : subc (o1.s7_floors.length : Int) 1 = some ((o1.s7_floors.length : Int) - 1) := subc_eq (by omega)
    have e66 : subc (min s.t55 ((o1.s7_floors.length : Int) - 1)) 1 = some (min s.t55 ((o1.s7_floors.length : Int) - 1) - 1) := subc_eq (by omega)
    obtain ⟨x, hx, hxb, hxk⟩ := from_ok (r := s.b0_2) (lo := -1) (hi := min s.t55 ((o1.s7_floors.length : Int) - 1) - 1) hl h5 (by omega)
    obtain ⟨y, hy, hyb, hyk⟩ := upto_ok (r := x.h0_2) (n := 50) hl hxk (by omega)
    have e110 : addc s.t55 1 = some (s.t55 + 1) := addc_eq (by omega)
    simp only [if_pos hc, e62, e66, hx, hy, e110, Option.bind_some]
    -- the ends
    obtain ⟨c4, hc4, hca, hcb, hck⟩ : ∃ c4 : m_laurellaw01_Made_C4, (if (o1.s7_floors.length : Int) ≤ s.t55 then (m_laurelkit_Heap_From l y.h0_1 y.h0_2 (-1) ((o1.s7_floors.length : Int) - 1)).bind fun t82 => (m_laurelkit_Heap_Upto l t82.h0_1 t82.h0_2 ((o1.s7_floors.length : Int) - 1)).bind fun t88 => some (⟨t82.r0, t88.r0, t88.h0_1, t88.h0_2⟩ : m_laurellaw01_Made_C4) else some (⟨x.r0, min s.t55 ((o1.s7_floors.length : Int) - 1), y.h0_1, y.h0_2⟩ : m_laurellaw01_Made_C4)) = some c4 ∧ (-1 ≤ c4.x11_a ∧ c4.x11_a < o1.s7_floors.length) ∧ (-1 ≤ c4.x11_b ∧ c4.x11_b < o1.s7_floors.length) ∧ HOK l c4.b0_1 := by
      by_cases hf : (o1.s7_floors.length : Int) ≤ s.t55
      · obtain ⟨u, hu, hub, huk⟩ := from_ok (r := y.h0_2) (lo := -1) (hi := (o1.s7_floors.length : Int) - 1) hl hyk (by omega)
        obtain ⟨v, hv, hvb, hvk⟩ := upto_ok (r := u.h0_2) (n := (o1.s7_floors.length : Int) - 1) hl huk (by omega)
        simp only [if_pos hf, hu, hv, Option.bind_some]
        exact ⟨_, rfl, by simp only; omega, by simp only; omega, hvk⟩
      · simp only [if_neg hf]
        exact ⟨_, rfl, by simp only; omega, by simp only; omega, hyk⟩
    rw [hc4]
    simp only [Option.bind_some]
    obtain ⟨z, hz, hzk⟩ := once_ok (r := c4.b0_2) (n := 3) hl hck (by omega)
    rw [hz]
    simp only [Option.bind_some]
    obtain ⟨c5, hc5, hda, hdb, hdk⟩ : ∃ c5 : m_laurellaw01_Made_C5, (if z.r0 = true then some (⟨c4.x11_b, c4.x11_a, z.h0_1, z.h0_2⟩ : m_laurellaw01_Made_C5) else some (⟨c4.x11_a, c4.x11_b, z.h0_1, z.h0_2⟩ : m_laurellaw01_Made_C5)) = some c5 ∧ (-1 ≤ c5.x11_a ∧ c5.x11_a < o1.s7_floors.length) ∧ (-1 ≤ c5.x11_b ∧ c5.x11_b < o1.s7_floors.length) ∧ HOK l c5.b0_1 := by
      cases z.r0 with
      | true => exact ⟨_, rfl, hcb, hca, hzk⟩
      | false => exact ⟨_, rfl, hca, hcb, hzk⟩
    rw [hc5]
    simp only [Option.bind_some]
    by_cases hab : c5.x11_a = c5.x11_b
    · rw [if_pos hab]
      simp only [Option.bind_some]
      exact ⟨_, rfl, ⟨by simp only; omega, by simp only; omega, h3, hdk⟩, by simp only; omega⟩
    · rw [if_neg hab, appc_eq (by simp; omega)]
      simp only [Option.bind_some]
      refine ⟨_, rfl, ⟨by simp only; omega, by simp; omega, fun q hq => ?_, hdk⟩, by simp only; omega⟩
      rcases List.mem_append.1 hq with h | h
      · exact h3 q h
      · simp only [List.mem_singleton] at h
        subst h
        exact ⟨hda, hdb, hab, by simp only; omega⟩
  · right
    rw [if_neg hc]
    exact ⟨_, rfl, h3, by simp only; omega, h5⟩
theorem made_ok {l : List Int} (hl : l.length ≤ 9223372036854775807) {p r pl sl : Int} (hp : HOK l p) (hpl : 1 ≤ pl ∧ pl ≤ 8) (hsl : 0 ≤ sl ∧ sl ≤ 16) :
    ∃ o, m_laurellaw01_Made l p r pl sl = some o ∧ MadeOK pl sl o.r0 ∧ HOK l o.b0_1 := by
  unfold m_laurellaw01_Made
  obtain ⟨a, ha, hab, hak⟩ := upto_ok (r := r) (n := 8) hl hp (by omega)
  have e14 : negc a.r0 = some (-a.r0) := negc_eq (by omega)
  obtain ⟨b, hb, hbb, hbk⟩ := upto_ok (r := a.h0_2) (n := 8) hl hak (by omega)
  obtain ⟨c, hc, hcb, hck⟩ := upto_ok (r := b.h0_2) (n := 20) hl hbk (by omega)
  obtain ⟨d, hd, hdb, hdk⟩ := from_ok (r := c.h0_2) (lo := 2) (hi := 4) hl hck (by omega)
  simp only [ha, e14, hb, hc, hd, Option.bind_some]
  obtain ⟨o, ho, ⟨e, hte, hee⟩, hol, hok⟩ := made_L0 hl (t := d) (by omega) (a := c.r0) (r := d.h0_2) (by omega) hdk
  simp only [ho, Option.bind_some]
  obtain ⟨f, hf, hfb, hfk⟩ := from_ok (r := o.b0_2) (lo := 1) (hi := pl) hl hok (by omega)
  simp only [hf, Option.bind_some]
  obtain ⟨o1, ho1, hof, hofl, hok1⟩ := made_L1 hl (t := f) (by omega) (r := f.h0_2) hfk
  simp only [ho1, Option.bind_some]
  obtain ⟨g, hg, hgb, hgk⟩ := upto_ok (r := o1.b0_2) (n := sl) hl hok1 (by omega)
  simp only [hg, Option.bind_some]
  obtain ⟨o2, ho2, hos, hosl, hok2⟩ := made_L2 hl hsl (t := g) (by omega) (o1 := o1) (by omega) (r := g.h0_2) hgk
  simp only [ho2, Option.bind_some]
  exact ⟨_, rfl, ⟨by simp only; omega, ⟨e, hte, hee⟩, by simp only; omega, by simp only; omega, by simp only; omega, hof, by simp only; omega, hos⟩, hok2⟩
end Go.Proofs.Wk

namespace Go.Proofs.Wk
open Go Go.Gx Go.Pl
set_option linter.unusedVariables false
theorem n_bd {s : Sands} (hG : Good s) {m : Int} {p : Nat} : 0 ≤ nF s m p ∧ nF s m p ≤ allW s := by
  have := hG.lo
  have := hG.hi
  have := hG.wind
  unfold nF yesF allW
  omega
/-- the search so far -/
def AskInv (s : Sands) (st : Int × Look) (D : Int → Nat → Prop) : Prop :=
  ((∀ m p, ¬ D m p) ∧ st = (allW s + 1, ⟨0, 0, false⟩)) ∨ ∃ (m : Int) (p : Nat), D m p ∧ st = (nF s m p, ⟨m, (p : Int), true⟩) ∧ ∀ m' p', D m' p' → nF s m p ≤ nF s m' p' ∧ (nF s m' p' = nF s m p → m < m' ∨ (m = m' ∧ p ≤ p'))
theorem AskInv.step {s : Sands} (hG : Good s) {st : Int × Look} {D : Int → Nat → Prop} (h : AskInv s st D) {m : Int} {p : Nat} (hlt : ∀ m' p', D m' p' → m' < m ∨ (m' = m ∧ p' < p)) : AskInv s (askStep s m st p) (fun m' p' => D m' p' ∨ (m' = m ∧ p' = p)) := by
  have hb := n_bd hG (m := m) (p := p)
  right
  unfold askStep
  rcases h with ⟨h1, rfl⟩ | ⟨a, b, hD, rfl, hmin⟩
  · rw [if_pos (show nF s m p < allW s + 1 by omega)]
    refine ⟨m, p, .inr ⟨rfl, rfl⟩, rfl, fun m' p' h => ?_⟩
    rcases h with h | ⟨rfl, rfl⟩
    · exact (h1 _ _ h).elim
    · exact ⟨Int.le_refl _, fun _ => .inr ⟨rfl, Nat.le_refl _⟩⟩
  · by_cases hc : nF s m p < nF s a b
    · rw [if_pos hc]
      refine ⟨m, p, .inr ⟨rfl, rfl⟩, rfl, fun m' p' h => ?_⟩
      rcases h with h | ⟨rfl, rfl⟩
      · have := (hmin m' p' h).1
        exact ⟨by omega, fun he => by omega⟩
      · exact ⟨Int.le_refl _, fun _ => .inr ⟨rfl, Nat.le_refl _⟩⟩
    · rw [if_neg hc]
      refine ⟨a, b, .inl hD, rfl, fun m' p' h => ?_⟩
      rcases h with h | ⟨rfl, rfl⟩
      · exact hmin m' p' h
      · refine ⟨by omega, fun _ => ?_⟩
        rcases hlt a b hD with h2 | ⟨h2, h3⟩
        · exact .inl h2
        · exact .inr ⟨h2, by omega⟩
theorem AskInv.congr {s : Sands} {st : Int × Look} {D E : Int → Nat → Prop} (h : AskInv s st D) (he : ∀ m p, D m p ↔ E m p) : AskInv s st E := by
  have : D = E := by funext m p; exact propext (he m p)
  rw [← this]; exact h
theorem askPl_inv {s : Sands} (hG : Good s) {st : Int × Look} {D : Int → Nat → Prop} (h : AskInv s st D) {m : Int} (hlt : ∀ m' p', D m' p' → m' < m) : ∀ k, AskInv s (askPl s m st k) (fun m' p' => D m' p' ∨ (m' = m ∧ p' < k))
  | 0 => h.congr fun m' p' => ⟨.inl, fun h => h.elim id fun h => absurd h.2 (Nat.not_lt_zero _)⟩
  | k + 1 => by
    rw [askPl_succ]
    refine ((askPl_inv hG h hlt k).step hG (m := m) (p := k) (fun m' p' h2 => ?_)).congr fun m' p' => ⟨fun h2 => ?_, fun h2 => ?_⟩
    · rcases h2 with h2 | h2
      · exact .inl (hlt _ _ h2)
      · exact .inr h2
    · rcases h2 with (h2 | h2) | h2
      · exact .inl h2
      · exact .inr ⟨h2.1, by omega⟩
      · exact .inr ⟨h2.1, by omega⟩
    · rcases h2 with h2 | h2
      · exact .inl (.inl h2)
      · by_cases hk : p' < k
        · exact .inl (.inr ⟨h2.1, hk⟩)
        · exact .inr ⟨h2.1, by omega⟩
theorem askDay_inv {s : Sands} (hG : Good s) : ∀ k : Nat, AskInv s (askDay s k) (fun m p => firstM s ≤ m ∧ m < firstM s + (k : Int) ∧ p < s.floors.length)
  | 0 => .inl ⟨fun m p h => by omega, rfl⟩
  | k + 1 => by
    rw [askDay_succ]
    refine (askPl_inv hG (askDay_inv hG k) (m := firstM s + (k : Int)) (fun m' p' h => h.2.1) s.floors.length).congr fun m' p' => ⟨fun h2 => ?_, fun h2 => ?_⟩
    · rcases h2 with h2 | h2
      · exact ⟨h2.1, by omega, h2.2.2⟩
      · exact ⟨by omega, by omega, h2.2⟩
    · by_cases hk : m' < firstM s + (k : Int)
      · exact .inl ⟨h2.1, hk, h2.2.2⟩
      · exact .inr ⟨by omega, h2.2.2⟩
theorem ask_best {s : Sands} (hG : Good s) : ∃ (m : Int) (p : Nat), dayF s m = true ∧ p < s.floors.length ∧ askDay s (dayN s) = (nF s m p, ⟨m, (p : Int), true⟩) ∧ ∀ m' p', dayF s m' = true → p' < s.floors.length → nF s m p ≤ nF s m' p' ∧ (nF s m' p' = nF s m p → m < m' ∨ (m = m' ∧ p ≤ p')) := by
  have hds := day_span hG
  have hn := dayN_eq' hG
  have hfl := hG.fl
  rcases askDay_inv hG (dayN s) with ⟨h, _⟩ | ⟨m, p, hD, he, hmin⟩
  · exact (h (firstM s) 0 ⟨by omega, by omega, by omega⟩).elim
  · refine ⟨m, p, by simp only [dayF, inr_iff]; omega, hD.2.2, he, fun m' p' hd hp => ?_⟩
    simp only [dayF, inr_iff] at hd
    exact hmin m' p' ⟨by omega, by omega, hp⟩
/-- one look -/
theorem looks_one {s : Sands} (hG : Good s) {m : Int} {p : Nat} (hd : dayF s m = true) (hp : p < s.floors.length) (b : Bool) :
    LooksR s [⟨m, (p : Int), b⟩] = if (if b = true then (⟨max s.wind.lo (mostF s m p + 1), s.wind.hi⟩ : Span) else ⟨s.wind.lo, min s.wind.hi (mostF s m p)⟩).hi < (if b = true then (⟨max s.wind.lo (mostF s m p + 1), s.wind.hi⟩ : Span) else ⟨s.wind.lo, min s.wind.hi (mostF s m p)⟩).lo then (⟨0, 0⟩, 7) else ((if b = true then (⟨max s.wind.lo (mostF s m p + 1), s.wind.hi⟩ : Span) else ⟨s.wind.lo, min s.wind.hi (mostF s m p)⟩), 0) := by
  have hpl : isPlace s (p : Int) = true := isPlace_iff.2 ⟨by omega, by omega⟩
  have hE : lookedE s [⟨m, (p : Int), b⟩] = 0 := by
    have h1 : lookE s [⟨m, (p : Int), b⟩] = 0 := lookE_ok (fun i hi => by
      have : i = 0 := by simpa using hi
      subst this
      exact ⟨hd, hpl⟩)
    unfold lookedE
    rw [check_of_good hG, h1]
    simp
  have hl : leftG s (gatesOf s) [⟨m, (p : Int), b⟩] = if b = true then (⟨max s.wind.lo (mostF s m p + 1), s.wind.hi⟩ : Span) else ⟨s.wind.lo, min s.wind.hi (mostF s m p)⟩ := by
    show leftStep s (gatesOf s) s.wind ⟨m, (p : Int), b⟩ = _
    unfold leftStep
    rfl
  unfold LooksR
  rw [hE, if_neg (by simp), hl]
theorem x_Looks_eq {s : Sands} {k : List Look} (hs : Short s) (hk : k.length ≤ 1000) : x_Looks s k = some (LooksR s k) := by
  have h1 := hs.t
  have h2 := hs.f
  have h3 := hs.s
  unfold x_Looks
  rw [if_pos ⟨by omega, by omega, by omega, by omega⟩]
/-- what one answer leaves -/
def ansF (s : Sands) (m : Int) (p : Nat) (b : Bool) : Int := if b = true then yesF s m p else allW s - yesF s m p
theorem most_step {s : Sands} (hG : Good s) {l : Look} {p : Nat} (hl : l.place = (p : Int)) (hd : dayF s l.min = true) (hp : p < s.floors.length) {out t : Int} (ht : 0 ≤ t ∧ t < 2) (ho : 0 ≤ out) (b : Bool) :
    m_laurellaw01_TideAsked_1_1_L0 s.table s.wind.lo s.wind.hi s.floors s.sills l ⟨out, t, b⟩ = some (.inl ⟨max out (ansF s l.min p b), t + 1, !b⟩) := by
  have hS := Good.short hG
  have hlo := hG.lo
  have hhi := hG.hi
  have hwi := hG.wind
  have e : (⟨s.table, (⟨s.wind.lo, s.wind.hi⟩ : Span), s.floors, s.sills⟩ : Sands) = s := rfl
  unfold m_laurellaw01_TideAsked_1_1_L0
  dsimp only
  rw [if_pos ht.2, e, hl, x_Looks_eq hS (by simp), Option.bind_some, looks_one hG hd hp]
  have hy := yes_bd hG (m := l.min) (p := p)
  have hyd : yesF s l.min p = max 0 (s.wind.hi - max s.wind.lo (mostF s l.min p + 1) + 1) := rfl
  have had : allW s = s.wind.hi - s.wind.lo + 1 := rfl
  have hgo := gates_ok (s := s)
  have hg0 := hgo.lo p
  have hg1 := hgo.hi p
  have hh := height_tight hG hd
  have hm : -1000 ≤ mostF s l.min p ∧ mostF s l.min p ≤ 1000 := by unfold mostF; split <;> omega
  cases b with
  | true =>
    simp only [if_true]
    have ha : ansF s l.min p true = yesF s l.min p := rfl
    rw [ha]
    by_cases hc : s.wind.hi < max s.wind.lo (mostF s l.min p + 1)
    · rw [if_pos hc, if_neg (show ¬ ((7 : Int) = 0) by decide), Option.bind_some, if_neg (by decide), Option.bind_some, addc_eq (by omega), Option.bind_some]
      rw [show max out (yesF s l.min p) = out by omega]
    · rw [if_neg hc]
      simp only
      rw [if_pos trivial, if_pos (by omega), decide_eq_true (Int.le_refl _), Option.bind_some, if_pos rfl, subc_eq (by omega), Option.bind_some, addc_eq (by omega), Option.bind_some, Option.bind_some, addc_eq (by omega), Option.bind_some]
      rw [show yesF s l.min p = s.wind.hi - max s.wind.lo (mostF s l.min p + 1) + 1 by omega]
  | false =>
    simp only [Bool.false_eq_true, if_false]
    have ha : ansF s l.min p false = allW s - yesF s l.min p := rfl
    rw [ha]
    by_cases hc : min s.wind.hi (mostF s l.min p) < s.wind.lo
    · rw [if_pos hc, if_neg (show ¬ ((7 : Int) = 0) by decide), Option.bind_some, if_neg (by decide), Option.bind_some, addc_eq (by omega), Option.bind_some]
      rw [show max out (allW s - yesF s l.min p) = out by omega]
    · rw [if_neg hc]
      simp only
      rw [if_pos trivial, if_pos (Int.le_refl _), decide_eq_true (show min s.wind.hi (mostF s l.min p) ≤ s.wind.hi by omega), Option.bind_some, if_pos rfl, subc_eq (by omega), Option.bind_some, addc_eq (by omega), Option.bind_some, Option.bind_some, addc_eq (by omega), Option.bind_some]
      rw [show allW s - yesF s l.min p = min s.wind.hi (mostF s l.min p) - s.wind.lo + 1 by omega]
theorem most_eq {s : Sands} (hG : Good s) {l : Look} {p : Nat} (hl : l.place = (p : Int)) (hd : dayF s l.min = true) (hp : p < s.floors.length) : m_laurellaw01_TideAsked_1_1 l s.table s.wind.lo s.wind.hi s.floors s.sills = some (nF s l.min p) := by
  have hy := yes_bd hG (m := l.min) (p := p)
  have hb := n_bd hG (m := l.min) (p := p)
  have hfu : FU = (FU - 3) + 1 + 1 + 1 := by have := FU_lt (n := 3) (by omega); omega
  have hnd : nF s l.min p = max (yesF s l.min p) (allW s - yesF s l.min p) := rfl
  have hab : 0 ≤ ansF s l.min p l.wet ∧ 0 ≤ ansF s l.min p (!l.wet) ∧ max (ansF s l.min p l.wet) (ansF s l.min p (!l.wet)) = nF s l.min p := by
    have hyd : yesF s l.min p = max 0 (s.wind.hi - max s.wind.lo (mostF s l.min p + 1) + 1) := rfl
    have had : allW s = s.wind.hi - s.wind.lo + 1 := rfl
    have hwi := hG.wind
    cases l.wet with
    | true => show 0 ≤ yesF s l.min p ∧ 0 ≤ allW s - yesF s l.min p ∧ max (yesF s l.min p) (allW s - yesF s l.min p) = _; omega
    | false => show 0 ≤ allW s - yesF s l.min p ∧ 0 ≤ yesF s l.min p ∧ max (allW s - yesF s l.min p) (yesF s l.min p) = _; omega
  unfold m_laurellaw01_TideAsked_1_1
  rw [hfu, iterM_step (most_step hG hl hd hp (by omega) (Int.le_refl 0) l.wet), iterM_step (most_step hG hl hd hp (by omega) (by omega) (!l.wet))]
  have hlast : ∀ N x b, iterM (N + 1) (m_laurellaw01_TideAsked_1_1_L0 s.table s.wind.lo s.wind.hi s.floors s.sills l) ⟨x, 0 + 1 + 1, b⟩ = some ⟨x, b⟩ := fun N x b => by
    have : m_laurellaw01_TideAsked_1_1_L0 s.table s.wind.lo s.wind.hi s.floors s.sills l ⟨x, 0 + 1 + 1, b⟩ = some (.inr ⟨x, b⟩) := by
      unfold m_laurellaw01_TideAsked_1_1_L0
      dsimp only
      rw [if_neg (by omega)]
    simp only [iterM, this]
  rw [hlast, Option.bind_some]
  dsimp only
  congr 1
  omega
end Go.Proofs.Wk

namespace Go.Proofs.Wk
open Go Go.Gx Go.Pl
set_option linter.unusedVariables false
theorem pile_eqA (l : List Int) : m_laurelkit_Pile l = some ⟨0, 0⟩ := rfl
theorem asked_step {l : List Int} (hl : l.length ≤ 9223372036854775807) {o : m_laurellaw01_Made_R} (hG : Good o.r0) {a : m_tide_Ask_1_R} {m : Int} {p : Nat} (hp : p < o.r0.floors.length) (hd : dayF o.r0 m = true) (ha : a = ⟨⟨m, (p : Int), true⟩, nF o.r0 m p, 0⟩)
    (hmin : ∀ m' p', dayF o.r0 m' = true → p' < o.r0.floors.length → nF o.r0 m p ≤ nF o.r0 m' p' ∧ (nF o.r0 m' p' = nF o.r0 m p → m < m' ∨ (m = m' ∧ p ≤ p'))) {t q r : Int} (ht : 0 ≤ t ∧ t < 12) (hq : HOK l q) :
    ∃ q' r', m_laurellaw01_TideAsked_L0 o l a ⟨t, q, r⟩ = some (.inl ⟨t + 1, q', r'⟩) ∧ HOK l q' := by
  have hS := Good.short hG
  have htl := hG.tl
  have hfl := hG.fl
  have hds := day_span hG
  obtain ⟨x, hx, hxb, hxk⟩ := from_ok (r := r) (lo := firstM o.r0) (hi := lastM o.r0) hl hq (by omega)
  obtain ⟨y, hy, hyb, hyk⟩ := upto_ok (r := x.h0_2) (n := (o.r0.floors.length : Int) - 1) hl hxk (by omega)
  have hdx : dayF o.r0 x.r0 = true := by simp only [dayF, inr_iff]; omega
  have hpy : y.r0.toNat < o.r0.floors.length := by omega
  obtain ⟨k1, k2⟩ := hmin x.r0 y.r0.toNat hdx hpy
  unfold m_laurellaw01_TideAsked_L0
  dsimp only
  rw [if_pos ht.2, subc_eq (by omega), Option.bind_some, lawfirst_eq (by omega), Option.bind_some, lawlast_eq hS (by omega), Option.bind_some, hx, Option.bind_some, hy, Option.bind_some, Option.bind_some]
  dsimp only
  rw [most_eq hG (l := ⟨x.r0, y.r0, true⟩) (p := y.r0.toNat) (by show y.r0 = _; omega) hdx hpy, Option.bind_some, ha]
  dsimp only
  rw [if_neg (show ¬ (nF o.r0 x.r0 y.r0.toNat < nF o.r0 m p) by omega)]
  by_cases he : nF o.r0 x.r0 y.r0.toNat = nF o.r0 m p
  · have h3 := k2 he
    rw [if_pos he, if_neg (show ¬ (x.r0 < m) by omega)]
    by_cases hm : x.r0 = m
    · rw [if_pos hm, decide_eq_false (show ¬ (y.r0 < (p : Int)) by omega), Option.bind_some, if_neg (by decide), addc_eq (by omega), Option.bind_some]
      exact ⟨_, _, rfl, hyk⟩
    · rw [if_neg hm, Option.bind_some, if_neg (by decide), addc_eq (by omega), Option.bind_some]
      exact ⟨_, _, rfl, hyk⟩
  · rw [if_neg he, Option.bind_some, if_neg (by decide), addc_eq (by omega), Option.bind_some]
    exact ⟨_, _, rfl, hyk⟩
/-- TideAsked is true of all bytes -/
theorem asked_true {l l2 : List Int} (hl : l.length ≤ 9223372036854775807) (hl2 : l2.length ≤ 9223372036854775807) : m_laurellaw01_TideAsked l l2 = some true := by
  unfold m_laurellaw01_TideAsked
  obtain ⟨o, ho, hM, _⟩ := made_ok (r := 0) hl (p := 0) ⟨Int.le_refl _, .inr rfl⟩ (pl := 6) (sl := 9) (by omega) (by omega)
  have hG := MadeOK.good hM (by omega) (by omega)
  have hS := Good.short hG
  rw [pile_eqA, Option.bind_some, ho, Option.bind_some, pile_eqA, Option.bind_some, ask_eq hS, Option.bind_some]
  unfold AskR
  rw [if_neg (show ¬ (check o.r0 ≠ 0) by rw [check_of_good hG]; simp)]
  by_cases he : o.r0.wind.lo = o.r0.wind.hi
  · rw [if_pos he, if_pos he]
    dsimp only
    rw [if_pos rfl, x_awake_eq, Option.bind_some, Option.bind_some]
  · rw [if_neg he, if_neg he]
    obtain ⟨m, p, hd, hp, hb, hmin⟩ := ask_best hG
    rw [hb]
    dsimp only
    rw [if_pos rfl, if_neg (by decide), most_eq hG (l := ⟨m, (p : Int), true⟩) (p := p) rfl hd hp, Option.bind_some]
    dsimp only
    have e1 : (!decide (nF o.r0 m p = nF o.r0 m p)) = false := by simp
    rw [e1, Option.bind_some, if_neg (by decide)]
    obtain ⟨b, hb2, hQ⟩ := iterM_inv (f := m_laurellaw01_TideAsked_L0 o l2 ⟨⟨m, (p : Int), true⟩, nF o.r0 m p, 0⟩) (fun x => (0 ≤ x.t51 ∧ x.t51 ≤ 12) ∧ HOK l2 x.t5_1) (fun x => (12 - x.t51).toNat) (fun b => ∃ c, b = .inl c)
      (fun x ⟨hx, hk⟩ => by
        obtain ⟨t, q, r⟩ := x
        simp only at hx hk
        by_cases hlt : t < 12
        · left
          obtain ⟨q', r', h1, h2⟩ := asked_step hl2 hG hp hd rfl hmin (t := t) (q := q) (r := r) ⟨hx.1, hlt⟩ hk
          exact ⟨_, h1, ⟨by simp only; omega, h2⟩, by simp only; omega⟩
        · right
          unfold m_laurellaw01_TideAsked_L0
          dsimp only
          rw [if_neg hlt]
          exact ⟨_, rfl, _, rfl⟩) FU ⟨0, 0, 0⟩ (FU_lt (by simp)) ⟨by simp only; omega, Int.le_refl _, .inr rfl⟩
    obtain ⟨c, rfl⟩ := hQ
    rw [hb2, Option.bind_some]
    unfold oc
    simp only
    rw [x_awake_eq, Option.bind_some]
end Go.Proofs.Wk

namespace Go.Gx
open Go Go.Fw Go.RowKit
/-! ### arguments, as they come in -/
section
variable {H : Type} {enc : TypeId × Value → H} {P : Program} {w : World} {base : Nat} {sp : Nat → Bool} {held : Bool}
/-- what of this type comes in is, cell by cell, a value of this row -/
def Opens (enc : TypeId × Value → H) (P : Program) (w : World) (base : Nat) (sp : Nat → Bool) (held : Bool) {α : Type} (R : Row α) (wf : α → Prop) (t : TypeId) : Prop :=
  ∀ fuel cs x, DataW.trod enc P w base sp held fuel t cs = some x → ∃ a, cs = R.cells a ∧ wf a
def i64P (n : Int) : Prop := -9223372036854775808 ≤ n ∧ n ≤ 9223372036854775807
theorem wf_i64P {n : Int} (h : (Lit.int .i64 n).wf = true) : i64P n := by
  simp [Lit.wf, IntKind.min, IntKind.max, IntKind.signed, IntKind.bits] at h
  unfold i64P; omega
def u8P (n : Int) : Prop := 0 ≤ n ∧ n ≤ 255
theorem wf_u8P {n : Int} (h : (Lit.int .u8 n).wf = true) : u8P n := by
  simp [Lit.wf, IntKind.min, IntKind.max, IntKind.signed, IntKind.bits] at h
  unfold u8P; omega
theorem opens_i64 {t : TypeId} (ht : P.underlying t = some (.int .i64)) : Opens enc P w base sp held RI i64P t := fun fuel cs x h => by
  obtain ⟨n, rfl, _, hw⟩ := DataW.trod_int ht h
  exact ⟨n, rfl, wf_i64P hw⟩
theorem opens_u8 {t : TypeId} (ht : P.underlying t = some (.int .u8)) : Opens enc P w base sp held RU8 u8P t := fun fuel cs x h => by
  obtain ⟨n, rfl, _, hw⟩ := DataW.trod_int ht h
  exact ⟨n, rfl, wf_u8P hw⟩
theorem opens_bool {t : TypeId} (ht : P.underlying t = some .bool) : Opens enc P w base sp held RB (fun _ => True) t := fun fuel cs x h => by
  obtain ⟨b, rfl, _⟩ := DataW.trod_bool ht h
  exact ⟨b, rfl, trivial⟩
/-- a field of a struct, by its cells -/
theorem fieldAt {fs : Array Field} {t : TypeId} {fuel : Nat} {cs : List Value} {x : DataW H × List MemPlace} (ht : P.underlying t = some (.struct fs)) (h : DataW.trod enc P w base sp held fuel t cs = some x) {α : Type} {R : Row α} {wf : α → Prop} (i : Nat) {T o k : Nat}
    (hf : (fs[i]?).map (fun fd => (fd.type, fd.offset)) = some (T, o)) (hk : P.cellsOf T = k) (hR : Opens enc P w base sp held R wf T) : ∃ a, (cs.drop o).take k = R.cells a ∧ wf a := by
  obtain ⟨xs, n, rfl, _, hlen, hxl, hx⟩ := DataW.trod_struct ht h
  obtain ⟨fd, hfd, he⟩ : ∃ fd, fs[i]? = some fd ∧ (fd.type, fd.offset) = (T, o) := by
    cases hh : fs[i]? with
    | none => simp [hh] at hf
    | some fd => exact ⟨fd, rfl, by simpa [hh] using hf⟩
  simp only [Prod.mk.injEq] at he
  obtain ⟨rfl, rfl⟩ := he
  have h1 := hx i fd hfd
  rw [hk] at h1
  have hi : i < xs.length := by rw [hxl]; exact (Array.getElem?_eq_some_iff.1 hfd).1
  rw [List.getElem?_eq_getElem hi] at h1
  exact hR _ _ _ h1
theorem structLen {fs : Array Field} {t : TypeId} {fuel : Nat} {cs : List Value} {x : DataW H × List MemPlace} (ht : P.underlying t = some (.struct fs)) (h : DataW.trod enc P w base sp held fuel t cs = some x) : cs.length = P.cellsOf t := by
  obtain ⟨xs, n, _, _, hlen, _⟩ := DataW.trod_struct ht h
  exact hlen
/-- a slice that came in -/
structure SlIn {α : Type} (R : Row α) (wf : α → Prop) (w : World) (v : Value) (A : Option Addr) (n c : Nat) (l : List α) : Prop where
  val : v = .slice A n c
  len : l.length = n
  ok : AOK n A
  le : n ≤ c
  max : c ≤ maxLen
  seg : segOK w (aB A, aO A, R.enc l)
  wf : ∀ x, x ∈ l → wf x
theorem choose_list {α : Type} {p : Nat → α → Prop} : ∀ (n : Nat), (∀ i, i < n → ∃ a, p i a) → ∃ l : List α, l.length = n ∧ ∀ i (h : i < l.length), p i l[i]
  | 0, _ => ⟨[], rfl, fun i h => by simp at h⟩
  | n + 1, h => by
    obtain ⟨l, hl, hp⟩ := choose_list n (fun i hi => h i (by omega))
    obtain ⟨a, ha⟩ := h n (by omega)
    refine ⟨l ++ [a], by simp [hl], fun i hi => ?_⟩
    by_cases hil : i < l.length
    · rw [List.getElem_append_left hil]; exact hp i hil
    · have : i = l.length := by simp at hi; omega
      subst this
      rw [List.getElem_append_right (by omega)]
      simp only [Nat.sub_self, List.getElem_cons_zero]
      rw [hl]; exact ha
theorem openSl {α : Type} {R : Row α} {wf : α → Prop} {t e : TypeId} (ht : P.underlying t = some (.slice e)) (hc : P.cellsOf e = R.sz) (hR : Opens enc P w base sp held R wf e) (h0 : Nat.blt 0 R.sz = true)
    {fuel : Nat} {cs : List Value} {x : DataW H × List MemPlace} (h : DataW.trod enc P w base sp held fuel t cs = some x) : ∃ (v : Value) (A : Option Addr) (n c : Nat) (l : List α), cs = [v] ∧ SlIn R wf w v A n c l := by
  have hsz : 0 < R.sz := by simpa using h0
  rcases Go.Deep.open_slice ht h with ⟨rfl, _⟩ | ⟨a, len, cap, m, n, D, Pl, rfl, hb, hl, hm, hmm, _, hi⟩
  · exact ⟨_, none, 0, 0, [], rfl, rfl, rfl, AOK.nil, Nat.le_refl _, Nat.zero_le _, segOK.nil, by simp⟩
  · have hlm : len ≤ m := by rw [hmm]; split <;> omega
    have hcell : ∀ i, i < len → ∃ x : α, (∀ f (hf : f < (R.cells x).length), w.cell? (a.add (i * R.sz + f)) = some (R.cells x)[f]) ∧ wf x := fun i hil => by
      obtain ⟨cs', h1, h2⟩ := hi i (by omega)
      obtain ⟨x, rfl, hw⟩ := hR _ _ _ h2
      obtain ⟨_, _, hat⟩ := World.cells?_some h1
      refine ⟨x, fun f hf => ?_, hw⟩
      have := hat f (by rw [hc, ← R.len x]; exact hf)
      rw [hc] at this
      rw [List.getElem?_eq_getElem hf] at this
      have e : (a.add (i * R.sz)).add f = a.add (i * R.sz + f) := by
        unfold Addr.add
        by_cases h1 : i * R.sz = 0
        · simp [h1]
        · by_cases h2 : f = 0
          · simp [h2]
          · simp [h1, h2, Nat.add_assoc]
      rw [e] at this
      exact this
    obtain ⟨l, hll, hlp⟩ := choose_list len hcell
    have hspot : 0 < len → a.spot = none := fun h0 => by
      obtain ⟨x, hx, _⟩ := hcell 0 h0
      have := World.cell?_spot (hx 0 (by rw [R.len]; exact hsz))
      simpa [Addr.add] using this
    refine ⟨_, some a, len, cap, l, rfl, rfl, hll, fun h0 => ?_, hl, hm, fun j hj => ?_, fun x hx => ?_⟩
    · obtain ⟨b, o, s⟩ := a
      have := hspot h0
      simp only at this
      subst this
      exact ⟨b, o, rfl⟩
    · have hj' : j < l.length * R.sz := by rw [← R.enc_len]; exact hj
      have hpos : 0 < len := by
        rcases Nat.eq_zero_or_pos len with h | h
        · rw [hll, h, Nat.zero_mul] at hj'; omega
        · exact h
      obtain ⟨b, o, s⟩ := a
      have hs := hspot hpos
      simp only at hs
      subst hs
      have hq : j / R.sz < l.length := Nat.div_lt_of_lt_mul (by rw [Nat.mul_comm]; exact hj')
      have hr : j % R.sz < R.sz := Nat.mod_lt _ hsz
      have hd : j / R.sz * R.sz + j % R.sz = j := by rw [Nat.mul_comm]; exact Nat.div_add_mod j R.sz
      have h1 := (hlp (j / R.sz) hq).1 (j % R.sz) (by rw [R.len]; exact hr)
      rw [hd] at h1
      have h2 := R.enc_get l (j / R.sz) (j % R.sz) l[j / R.sz] (List.getElem?_eq_getElem hq) hr
      rw [hd] at h2
      have h3 : (⟨b, o, none⟩ : Addr).add j = ⟨b, o + j, none⟩ := addr_add b o j
      rw [h3] at h1
      simp only [aB, aO, Option.map_some, Option.getD_some]
      rw [h1, ← List.getElem?_eq_getElem, ← h2, List.getElem?_eq_getElem hj]
    · obtain ⟨i, hi', rfl⟩ := List.getElem_of_mem hx
      exact (hlp i hi').2
theorem fieldSl {fs : Array Field} {t : TypeId} {fuel : Nat} {cs : List Value} {x : DataW H × List MemPlace} (ht : P.underlying t = some (.struct fs)) (h : DataW.trod enc P w base sp held fuel t cs = some x) {α : Type} {R : Row α} {wf : α → Prop} (i : Nat) {T o e : Nat}
    (hf : (fs[i]?).map (fun fd => (fd.type, fd.offset)) = some (T, o)) (hk : P.cellsOf T = 1) (hT : P.underlying T = some (.slice e)) (hc : P.cellsOf e = R.sz) (hR : Opens enc P w base sp held R wf e) (h0 : Nat.blt 0 R.sz = true) :
    ∃ (v : Value) (A : Option Addr) (n c : Nat) (l : List α), (cs.drop o).take 1 = [v] ∧ SlIn R wf w v A n c l := by
  obtain ⟨xs, m, rfl, _, hlen, hxl, hx⟩ := DataW.trod_struct ht h
  obtain ⟨fd, hfd, he⟩ : ∃ fd, fs[i]? = some fd ∧ (fd.type, fd.offset) = (T, o) := by
    cases hh : fs[i]? with
    | none => simp [hh] at hf
    | some fd => exact ⟨fd, rfl, by simpa [hh] using hf⟩
  simp only [Prod.mk.injEq] at he
  obtain ⟨rfl, rfl⟩ := he
  have h1 := hx i fd hfd
  rw [hk] at h1
  have hi : i < xs.length := by rw [hxl]; exact (Array.getElem?_eq_some_iff.1 hfd).1
  rw [List.getElem?_eq_getElem hi] at h1
  exact openSl hT hc hR h0 h1
theorem HV.begin {ro : List Sg} (h : ∀ s, s ∈ ro → segOK w s) : HV w (keys [] []) [] [] ro w :=
  ⟨rfl, rfl, rfl, Nat.le_refl _, fun _ _ _ => rfl, by simp [vbl], by simp [vbl], by simp [vbl], h, by simp [vbl]⟩
theorem segCons {s : Sg} {ro : List Sg} (h : segOK w s) (hr : ∀ t, t ∈ ro → segOK w t) : ∀ t, t ∈ s :: ro → segOK w t := fun t ht => by
  rcases List.mem_cons.1 ht with rfl | ht
  · exact h
  · exact hr t ht
theorem segNil : ∀ t, t ∈ ([] : List Sg) → segOK w t := fun t ht => by cases ht
theorem HV.below {w' : World} (h : HV w (keys [] []) [] [] [] w') : Below w.heap.size w w' := by
  have : Ext [] w w' := HS.toExt h
  exact this.below
end
end Go.Gx

namespace Go.Proofs.Wk
open Go Go.Fw Go.Gx Go.Pl Go.RowKit
section
variable {H : Type} {enc : TypeId × Value → H} {w : World} {base : Nat} {sp : Nat → Bool} {held : Bool}
theorem list2 {α : Type} {cs : List α} {a b : α} (hl : cs.length = 2) (h0 : (cs.drop 0).take 1 = [a]) (h1 : (cs.drop 1).take 1 = [b]) : cs = [a, b] := by
  match cs, hl with
  | [x, y], _ => simp at h0 h1; simp [h0, h1]
theorem list3 {α : Type} {cs : List α} {a b c : α} (hl : cs.length = 3) (h0 : (cs.drop 0).take 1 = [a]) (h1 : (cs.drop 1).take 1 = [b]) (h2 : (cs.drop 2).take 1 = [c]) : cs = [a, b, c] := by
  match cs, hl with
  | [x, y, z], _ => simp at h0 h1 h2; simp [h0, h1, h2]
theorem list5 {α : Type} {cs : List α} {a b c d e : α} (hl : cs.length = 5) (h0 : (cs.drop 0).take 1 = [a]) (h1 : (cs.drop 1).take 2 = [b, c]) (h2 : (cs.drop 3).take 1 = [d]) (h3 : (cs.drop 4).take 1 = [e]) : cs = [a, b, c, d, e] := by
  match cs, hl with
  | [x, y, z, u, v], _ => simp at h0 h1 h2 h3; simp [h0, h1, h2, h3]
theorem opI : Opens enc Try.prog w base sp held RI i64P 3 := opens_i64 Try.underlying3
theorem opB : Opens enc Try.prog w base sp held RB (fun _ => True) 4 := opens_bool Try.underlying4
set_option maxRecDepth 100000 in
theorem opWater : Opens enc Try.prog w base sp held RW (fun x => i64P x.min ∧ i64P x.h) 68 := fun fuel cs x h => by
  obtain ⟨a, ha, wa⟩ := fieldAt Try.underlying68 h 0 (T := 3) (o := 0) (k := 1) rfl (by kernel_rfl) opI
  obtain ⟨b, hb, wb⟩ := fieldAt Try.underlying68 h 1 (T := 3) (o := 1) (k := 1) rfl (by kernel_rfl) opI
  have hl := structLen Try.underlying68 h
  rw [show Try.prog.cellsOf 68 = 2 by kernel_rfl] at hl
  exact ⟨⟨a, b⟩, list2 hl ha hb, wa, wb⟩
set_option maxRecDepth 100000 in
theorem opSill : Opens enc Try.prog w base sp held RS (fun x => i64P x.a ∧ i64P x.b ∧ i64P x.h) 51 := fun fuel cs x h => by
  obtain ⟨a, ha, wa⟩ := fieldAt Try.underlying51 h 0 (T := 3) (o := 0) (k := 1) rfl (by kernel_rfl) opI
  obtain ⟨b, hb, wb⟩ := fieldAt Try.underlying51 h 1 (T := 3) (o := 1) (k := 1) rfl (by kernel_rfl) opI
  obtain ⟨c, hc, wc⟩ := fieldAt Try.underlying51 h 2 (T := 3) (o := 2) (k := 1) rfl (by kernel_rfl) opI
  have hl := structLen Try.underlying51 h
  rw [show Try.prog.cellsOf 51 = 3 by kernel_rfl] at hl
  exact ⟨⟨a, b, c⟩, list3 hl ha hb hc, wa, wb, wc⟩
set_option maxRecDepth 100000 in
theorem opSpan : Opens enc Try.prog w base sp held RP (fun x => i64P x.lo ∧ i64P x.hi) 25 := fun fuel cs x h => by
  obtain ⟨a, ha, wa⟩ := fieldAt Try.underlying25 h 0 (T := 3) (o := 0) (k := 1) rfl (by kernel_rfl) opI
  obtain ⟨b, hb, wb⟩ := fieldAt Try.underlying25 h 1 (T := 3) (o := 1) (k := 1) rfl (by kernel_rfl) opI
  have hl := structLen Try.underlying25 h
  rw [show Try.prog.cellsOf 25 = 2 by kernel_rfl] at hl
  exact ⟨⟨a, b⟩, list2 hl ha hb, wa, wb⟩
set_option maxRecDepth 100000 in
theorem opLook : Opens enc Try.prog w base sp held RL (fun x => i64P x.min ∧ i64P x.place) 89 := fun fuel cs x h => by
  obtain ⟨a, ha, wa⟩ := fieldAt Try.underlying89 h 0 (T := 3) (o := 0) (k := 1) rfl (by kernel_rfl) opI
  obtain ⟨b, hb, wb⟩ := fieldAt Try.underlying89 h 1 (T := 3) (o := 1) (k := 1) rfl (by kernel_rfl) opI
  obtain ⟨c, hc, _⟩ := fieldAt Try.underlying89 h 2 (T := 4) (o := 2) (k := 1) rfl (by kernel_rfl) opB
  have hl := structLen Try.underlying89 h
  rw [show Try.prog.cellsOf 89 = 3 by kernel_rfl] at hl
  exact ⟨⟨a, b, c⟩, list3 hl ha hb hc, wa, wb⟩
/-- numbers that are numbers of the machine -/
structure WfS (s : Sands) : Prop where
  t : ∀ x, x ∈ s.table → i64P x.min ∧ i64P x.h
  lo : i64P s.wind.lo
  hi : i64P s.wind.hi
  f : ∀ x, x ∈ s.floors → i64P x
  s : ∀ x, x ∈ s.sills → i64P x.a ∧ i64P x.b ∧ i64P x.h
set_option maxRecDepth 100000 in
theorem opSands {fuel : Nat} {cs : List Value} {x : DataW H × List MemPlace} (h : DataW.trod enc Try.prog w base sp held fuel 29 cs = some x) :
    ∃ (s : Sands) (A1 A2 A3 : Option Addr) (n1 c1 n2 c2 n3 c3 : Nat) (v1 v2 v3 : Value), cs = [.slice A1 n1 c1, .int .i64 s.wind.lo, .int .i64 s.wind.hi, .slice A2 n2 c2, .slice A3 n3 c3] ∧
      SlIn RW (fun x => i64P x.min ∧ i64P x.h) w v1 A1 n1 c1 s.table ∧ SlIn RI i64P w v2 A2 n2 c2 s.floors ∧ SlIn RS (fun x => i64P x.a ∧ i64P x.b ∧ i64P x.h) w v3 A3 n3 c3 s.sills ∧ WfS s := by
  obtain ⟨v1, A1, n1, c1, l1, e1, h1⟩ := fieldSl Try.underlying29 h 0 (T := 23) (o := 0) (e := 68) rfl (by kernel_rfl) Try.underlying23 (by kernel_rfl) opWater rfl
  obtain ⟨p, ep, wp⟩ := fieldAt Try.underlying29 h 1 (T := 25) (o := 1) (k := 2) rfl (by kernel_rfl) opSpan
  obtain ⟨v2, A2, n2, c2, l2, e2, h2⟩ := fieldSl Try.underlying29 h 2 (T := 26) (o := 3) (e := 3) rfl (by kernel_rfl) Try.underlying26 (by kernel_rfl) opI rfl
  obtain ⟨v3, A3, n3, c3, l3, e3, h3⟩ := fieldSl Try.underlying29 h 3 (T := 27) (o := 4) (e := 51) rfl (by kernel_rfl) Try.underlying27 (by kernel_rfl) opSill rfl
  have hl := structLen Try.underlying29 h
  rw [show Try.prog.cellsOf 29 = 5 by kernel_rfl] at hl
  have hv1 := h1.val
  have hv2 := h2.val
  have hv3 := h3.val
  subst hv1 hv2 hv3
  exact ⟨⟨l1, p, l2, l3⟩, A1, A2, A3, n1, c1, n2, c2, n3, c3, _, _, _, list5 hl e1 ep e2 e3, h1, h2, h3, h1.wf, wp.1, wp.2, h2.wf, h3.wf⟩
end
end Go.Proofs.Wk
namespace Go.Proofs.Wk
open Go Go.Gx
theorem opU8 {H : Type} {enc : TypeId × Value → H} {w : World} {base : Nat} {sp : Nat → Bool} {held : Bool} : Opens enc Try.prog w base sp held RU8 u8P 5 := opens_u8 Try.underlying5
end Go.Proofs.Wk

