/- What the functions that the law BranchMarked reaches come to, and why it holds: part 10. -/
import Derived.Test.YtpjnpibgnkgnaaaGreatBranchMarked9
import Derived.Deep.Slices
import Derived.ChangeArms
namespace Go.Proofs.Wb
open Go Go.Fw Go.Gx Go.Sb
set_option linter.unusedVariables false
def agC (sg : List Sight) (crs : List (List Int)) : Bool := sg.all fun s => decide (s.cell ∈ crs.getD s.after.toNat []) == s.upright
theorem getDm {α : Type} {l : List α} {i : Nat} (d : α) (h : i < l.length) : l.getD i d ∈ l := by
  rw [List.getD_eq_getElem?_getD, List.getElem?_eq_getElem h]
  exact List.getElem_mem _
theorem agC_iff {c : Channel} (r : Right c) {crs : List (List Int)} : agC c.sights crs = true ↔ ∀ k : Nat, k ≤ c.tides.toNat → agP tt c.sights (k : Int) (crs.getD k []) = true := by
  unfold agC
  rw [List.all_eq_true]
  constructor
  · intro h k hk
    rw [agP_iff]
    intro i hi _ ha
    have := h _ (getDm default hi)
    rw [ha] at this
    simpa using this
  · intro h s hs
    have ha := r.after s hs
    obtain ⟨i, hi, e⟩ := List.getElem_of_mem hs
    have e2 : c.sights.getD i default = s := by rw [List.getD_eq_getElem?_getD, List.getElem?_eq_getElem hi, ← e]; rfl
    have := agP_iff.1 (h s.after.toNat (by omega)) i hi rfl (by rw [e2]; omega)
    rw [e2] at this
    simpa using this
theorem fitB_walk {c : Channel} (r : Right c) {crs : List (List Int)} (hw : WalkC c c.tides.toNat crs) : fitB tt c crs = agC c.sights crs := by
  have ht := r.tides
  have hl := hw.len
  rw [Bool.eq_iff_iff, agC_iff r]
  unfold fitB okAt
  simp only [Bool.and_eq_true, decide_eq_true_eq, List.all_eq_true, List.mem_range, Bool.or_eq_true]
  constructor
  · rintro ⟨_, _, h⟩ k hk
    exact (h k (by omega)).2.2
  · intro h
    refine ⟨by omega, hw.fst, fun k hk => ⟨hw.row k (by omega), ?_, h k (by omega)⟩⟩
    cases k with
    | zero => exact .inl rfl
    | succ k => exact .inr (hw.can k (by omega))
theorem walk_on {c : Channel} (r : Right c) {crs : List (List Int)} (hw : WalkC c c.tides.toNat crs) (h : agC c.sights crs = true) : ∀ k : Nat, k ≤ c.tides.toNat → onB c k (crs.getD k []) = true := real_on r hw ((agC_iff r).1 h)
theorem walk_pos {cnt : Nat → Bool} {c : Channel} (r : Right c) {crs : List (List Int)} (hw : WalkC c c.tides.toNat crs) (hag : ∀ k : Nat, k ≤ c.tides.toNat → agP cnt c.sights (k : Int) (crs.getD k []) = true) : 0 < cntS cnt c := by
  have bwd : ∀ j k : Nat, k + j = c.tides.toNat → 0 < R (nxS c) (agS cnt c) j (stL k (crs.getD k [])) := by
    intro j
    induction j with
    | zero =>
      intro k hk
      rw [R, agS_stL r (hw.row k (by omega)), if_pos (hag k (by omega))]
      omega
    | succ j ih =>
      intro k hk
      refine R_succ_pos.2 ⟨?_, stL (k + 1) (crs.getD (k + 1) []), ?_, ih (k + 1) (by omega)⟩
      · rw [agS_stL r (hw.row k (by omega))]; exact hag k (by omega)
      · exact (mem_nx_stL r (hw.row k (by omega)) (hw.row (k + 1) (by omega))).2 (hw.can k (by omega))
  have := bwd c.tides.toNat 0 (by omega)
  rw [hw.fst] at this
  exact this
def mvsC (crs : List (List Int)) (k : Nat) : Int := sumI (fun i => movL (crs.getD i []) (crs.getD (i + 1) [])) k
theorem jbg {c : Channel} (r : Right c) (h8 : c.sights.length ≤ 20) {crs : List (List Int)} (hl : crs.length = c.tides.toNat + 1) (hr : ∀ l ∈ crs, l.length ≤ 100) : qz c crs = some (agC c.sights crs) := by
  unfold qz j6 kp
  have := any_loop c.sights default (fun x => zh ⟨x.after, x.cell, x.upright⟩ crs) (fun x => !(decide (x.cell ∈ crs.getD x.after.toNat []) == x.upright)) (by omega) (fun x hx => by
    have ha := r.after x hx
    have ht := r.tides
    unfold zh Ja
    rw [ix_eq [] (by simp only; omega) (by simp only; omega), Option.bind_some, yL (by have := hr _ (getDm [] (show x.after.toNat < crs.length by omega)); simp only; omega)]
    rfl) (f := kW c.sights crs) (fun s => rfl)
  rw [this, Option.bind_some, not_any_not]
  rfl
theorem rows_small {c : Channel} (r : Right c) {crs : List (List Int)} (hw : WalkC c c.tides.toNat crs) : ∀ l ∈ crs, l.length ≤ 100 := by
  intro l hl
  obtain ⟨i, hi, e⟩ := List.getElem_of_mem hl
  have hf := r.fords
  have hlen := hw.len
  have := (rowB_iff.1 (hw.row i (by omega))).1
  rw [List.getD_eq_getElem?_getD, List.getElem?_eq_getElem hi] at this
  simp only [Option.getD_some, e] at this
  omega
theorem moved_L1 {a b : List Int} (h : a.length = b.length) (h3 : a.length ≤ 3) (ha : ∀ x ∈ a, 0 ≤ x ∧ x < 10) (hb : ∀ x ∈ b, 0 ≤ x ∧ x < 10) {crs : List (List Int)} {k : Nat} (hk : k + 1 < crs.length) (hkl : crs.length ≤ 1000) (hB : crs.getD (k + 1) [] = b) {n : Int} (hn : 0 ≤ n ∧ n ≤ 1000000) :
    iterM FU (qF a ⟨n, (k : Int)⟩ crs) ⟨n, 0⟩ = some (n + movL a b) := by
  have hM : ∀ i, i < a.length → 0 ≤ mvI (a.getD i (-1)) (b.getD i (-1)) ∧ mvI (a.getD i (-1)) (b.getD i (-1)) ≤ 11 := by
    intro i hi
    have h1 := ha _ (getD_mem (d := -1) hi)
    have h2 := hb _ (getD_mem (d := -1) (show i < b.length by omega))
    unfold mvI
    omega
  have key := iterM_run (f := qF a ⟨n, (k : Int)⟩ crs) (fun i => ⟨n + sumI (fun i => mvI (a.getD i (-1)) (b.getD i (-1))) i, (i : Int)⟩) a.length (b := n + movL a b) (fun i hi => ?_) ?_ FU (FU_lt (by omega))
  · have e0 : sumI (fun i => mvI (a.getD i (-1)) (b.getD i (-1))) 0 = 0 := rfl
    rw [e0, Int.add_zero] at key
    exact key
  · have h1 := ha _ (getD_mem (d := -1) hi)
    have h2 := hb _ (getD_mem (d := -1) (show i < b.length by omega))
    have h4 := sumI_bnd (f := fun i => mvI (a.getD i (-1)) (b.getD i (-1))) (B := 11) i (fun j hj => hM j (by omega))
    have e1 : sumI (fun i => mvI (a.getD i (-1)) (b.getD i (-1))) (i + 1) = sumI (fun i => mvI (a.getD i (-1)) (b.getD i (-1))) i + max (a.getD i (-1) - b.getD i (-1)) (b.getD i (-1) - a.getD i (-1)) := rfl
    rw [e1]
    have e2 : ((k : Int) + 1) = ((k + 1 : Nat) : Int) := by omega
    generalize sumI (fun i => mvI (a.getD i (-1)) (b.getD i (-1))) i = z at h4 ⊢
    unfold qF
    simp only
    rw [if_pos (by omega), ix_nat (-1) hi, Option.bind_some, addc_eq (by omega), Option.bind_some, e2, ix_nat [] hk, Option.bind_some, hB, ix_nat (-1) (by omega), Option.bind_some, subc_eq (by omega), Option.bind_some, Option.bind_some, ix_nat [] hk, Option.bind_some, hB, ix_nat (-1) (by omega), Option.bind_some, subc_eq (by omega), Option.bind_some, addc_eq (by omega), Option.bind_some, addc_eq (by omega), Option.bind_some, Int.add_assoc]
    rfl
  · unfold qF
    simp only
    rw [if_neg (by omega)]
    rfl
theorem mvsC_bnd {c : Channel} (r : Right c) {crs : List (List Int)} (hw : WalkC c c.tides.toNat crs) : ∀ k : Nat, k ≤ c.tides.toNat → 0 ≤ mvsC crs k ∧ mvsC crs k ≤ 33 * k := by
  intro k hk
  have := sumI_bnd (f := fun i => movL (crs.getD i []) (crs.getD (i + 1) [])) (B := 33) k (fun j hj => movL_bnd r (hw.row j (by omega)) (hw.row (j + 1) (by omega)))
  unfold mvsC
  omega
theorem moved_L2 {c : Channel} (hf : c.fords.length ≤ 3) {crs : List (List Int)} {T : Nat} (hl : crs.length = T + 1) (hT : T ≤ 100) (hr : (crs.getD T []).length = c.fords.length) : iterM FU (k3 c.fords crs) ⟨0, 0⟩ = some (anL c (crs.getD T []) : Int) := by
  have key := iterM_run (f := k3 c.fords crs) (fun i => ⟨((((List.range i).filter fun i => decide ((crs.getD T []).getD i (-1) ≠ c.fords.getD i 0)).length : Nat) : Int), (i : Int)⟩) c.fords.length (b := (anL c (crs.getD T []) : Int)) (fun i hi => ?_) ?_ FU (FU_lt (by omega))
  · exact key
  · have hb := filt_le (fun i => decide ((crs.getD T []).getD i (-1) ≠ c.fords.getD i 0)) i
    have e2 : (crs.length : Int) - 1 = (T : Int) := by omega
    unfold k3
    simp only
    rw [if_pos (by omega), ix_nat 0 hi, Option.bind_some, subc_eq (by omega), Option.bind_some, e2, ix_nat [] (by omega), Option.bind_some, ix_nat (-1) (by omega), Option.bind_some, filt_succ]
    by_cases hq : (crs.getD T []).getD i (-1) = c.fords.getD i 0
    · rw [if_pos hq, if_neg (by simp only [decide_eq_true_eq]; exact fun q => q hq), Option.bind_some, addc_eq (by omega), Option.bind_some]; rfl
    · rw [if_neg hq, if_pos (by simp only [decide_eq_true_eq]; exact hq), addc_eq (by omega), Option.bind_some, Option.bind_some, addc_eq (by omega), Option.bind_some]; rfl
  · unfold k3
    simp only
    rw [if_neg (by omega)]
    rfl
theorem row_small {c : Channel} (r : Right c) {l : List Int} (h : rowB c l = true) : ∀ x ∈ l, 0 ≤ x ∧ x < 10 := fun x hx => by
  have := (rowB_iff.1 h).2.2 x hx
  have := r.cells
  omega
theorem ja3 {c : Channel} (r : Right c) {crs : List (List Int)} (hw : WalkC c c.tides.toNat crs) : qk crs = some ⟨mvsC crs c.tides.toNat, (anL c (crs.getD c.tides.toNat []) : Int)⟩ := by
  have hl := hw.len
  have ht := r.tides
  have hf := r.fords
  unfold qk
  rw [if_pos (by omega)]
  have key := iterM_run (f := yz crs) (fun k => ⟨mvsC crs k, (k : Int)⟩) c.tides.toNat (b := mvsC crs c.tides.toNat) (fun k hk => ?_) ?_ FU (FU_lt (by omega))
  · have e0 : mvsC crs 0 = 0 := rfl
    rw [e0] at key
    rw [show (⟨0, 0⟩ : qE) = ⟨0, ((0 : Nat) : Int)⟩ from rfl, key, Option.bind_some, show (0 : Int) = ((0 : Nat) : Int) from rfl, ix_nat [] (by omega), Option.bind_some, hw.fst]
    show (iterM FU (k3 c.fords crs) ⟨0, 0⟩).bind _ = _
    rw [moved_L2 hf.2 hl (by omega) (rowB_iff.1 (hw.row _ (Nat.le_refl _))).1, Option.bind_some]
  · have hb := mvsC_bnd r hw k (by omega)
    have h1 := hw.row k (by omega)
    have h2 := hw.row (k + 1) (by omega)
    have e1 := (rowB_iff.1 h1).1
    have e2 := (rowB_iff.1 h2).1
    have hm := movL_bnd r h1 h2
    unfold yz
    simp only
    rw [if_pos (by rw [List.length_drop]; simp; omega), ix_nat [] (by omega), Option.bind_some, moved_L1 (b := crs.getD (k + 1) []) (by omega) (by omega) (row_small r h1) (row_small r h2) (by omega) (by omega) rfl ⟨hb.1, by omega⟩, Option.bind_some, addc_eq (by omega), Option.bind_some]
    rfl
  · unfold yz
    simp only
    rw [if_neg (by rw [List.length_drop]; simp; omega)]
end Go.Proofs.Wb

namespace Go.Proofs.Wb
open Go Go.Fw Go.Gx Go.Sb
set_option linter.unusedVariables false
theorem shift_in {c : Channel} (r : Right c) {i : Nat} (hi : i < c.fords.length) {l : List Int} (hl : l ∈ LL c) (ho : onB c c.tides.toNat l = true) : (shiftC c i).lo ≤ l.getD i (-1) - c.fords.getD i 0 ∧ l.getD i (-1) - c.fords.getD i 0 ≤ (shiftC c i).hi := by
  have hm := where_real r hl ho hi
  have hn : whereL c c.tides.toNat i ≠ [] := List.ne_nil_of_mem hm
  have h1 : (whereL c c.tides.toNat i).headD 0 ≤ l.getD i (-1) := (asc_head filtL_asc hn).1 _ hm
  have h2 : l.getD i (-1) ≤ (whereL c c.tides.toNat i).getLastD 0 := (asc_last filtL_asc hn).1 _ hm
  unfold shiftC
  simp only
  omega
theorem fate_stay {c : Channel} (r : Right c) {i : Nat} (hi : i < c.fords.length) {l : List Int} (hl : l ∈ LL c) (ho : onB c c.tides.toNat l = true) (h : fateI c i = 1) : l.getD i (-1) = c.fords.getD i 0 := by
  have hm := where_real r hl ho hi
  unfold fateI at h
  split at h
  · rename_i hf
    split at h
    · rename_i h1
      exact (asc_one filtL_asc hf).1 h1 _ hm
    · omega
  · omega
theorem fate_move {c : Channel} (r : Right c) {i : Nat} (hi : i < c.fords.length) {l : List Int} (hl : l ∈ LL c) (ho : onB c c.tides.toNat l = true) (h : fateI c i = 2) : l.getD i (-1) ≠ c.fords.getD i 0 := by
  have hm := where_real r hl ho hi
  unfold fateI at h
  split at h
  · split at h <;> omega
  · rename_i hf
    intro e
    rw [e] at hm
    exact hf hm
theorem anew_in {c : Channel} {l : List Int} (hl : l ∈ LL c) (ho : onB c c.tides.toNat l = true) : (anewC c).lo ≤ (anL c l : Int) ∧ (anL c l : Int) ≤ (anewC c).hi := by
  have hm : (anL c l : Int) ∈ anewQ c := List.mem_map.2 ⟨l, List.mem_filter.2 ⟨hl, ho⟩, rfl⟩
  unfold anewC
  exact ⟨(foMin_spec 9 _).2.1 _ hm, (foMax_spec (-1) _).2.1 _ hm⟩
theorem where_short {c : Channel} (hc : c.cells ≤ 10) (k i : Nat) : (whereL c k i).length ≤ 1000 := by
  have := filtL_len (p := fun x => (LL c).any fun l => onB c k l && decide (l.getD i (-1) = (x : Int))) (k := c.cells.toNat)
  unfold whereL
  omega
theorem shift_at {c : Channel} (hF : Few c) (h0 : chk c = 0) (hp : 0 < cntS tt c) {i : Nat} (hi : i < c.fords.length) : zs c (i : Int) = some ⟨shiftC c i, 0⟩ := by
  rw [ja0 hF, if_pos h0, if_pos (inb_iff.2 (by omega)), if_neg (by omega), Int.toNat_natCast]
section
variable {x : jQ} {y : jE}
theorem mk_L2 (r : Right (cS x.r0 y.r0)) (hF : Few (cS x.r0 y.r0)) (hk0 : chk (cS x.r0 y.r0) = 0) (hp : 0 < cntS tt (cS x.r0 y.r0)) {w : kb} (hw : WalkC (cS x.r0 y.r0) x.r0.tides.toNat w.r0) (ha : agC y.r0 w.r0 = true) {i : Nat} (hi : i < x.r0.fords.length) : iterM FU (kh w x y (i : Int)) 0 = some (.inl ()) := by
  have ht : 0 ≤ x.r0.tides ∧ x.r0.tides ≤ 4 := r.tides
  have hc : 2 ≤ x.r0.cells ∧ x.r0.cells ≤ 10 := r.cells
  have hl := hw.len
  have hon := walk_on r (crs := w.r0) hw ha
  have key := iterM_any0 (f := kh w x y (i : Int)) w.r0.length (fun _ => false) false (fun k hk => ?_) ?_ (N := FU) (FU_lt (by omega))
  · rw [show (List.range w.r0.length).any (fun _ => false) = false from by simp, if_neg Bool.false_ne_true] at key
    exact key
  · have hrow := hw.row k (by omega)
    have hrl : (w.r0.getD k []).length = x.r0.fords.length := (rowB_iff.1 hrow).1
    have hm : w.r0.getD k [] ∈ LL (cS x.r0 y.r0) := (mem_LL (show 0 ≤ (cS x.r0 y.r0).cells from by show 0 ≤ x.r0.cells; omega)).2 hrow
    have hwr := where_real r hm (hon k (by show k ≤ x.r0.tides.toNat; omega)) (i := i) hi
    have hcS : (⟨x.r0.cells, x.r0.tides, x.r0.fords, x.r0.sands, y.r0⟩ : Channel) = cS x.r0 y.r0 := rfl
    have hws := where_short (c := cS x.r0 y.r0) hc.2 k i
    unfold kh
    rw [if_pos (by omega), ix_nat [] hk, Option.bind_some, hcS, cells_at hF hk0 hp (by show (k : Int) ≤ x.r0.tides; omega) hi, Option.bind_some]
    dsimp only
    rw [if_pos rfl, ix_nat (-1) (by omega), Option.bind_some, yL (by omega), Option.bind_some, decide_eq_true hwr, Option.bind_some, if_neg (by decide), addc_eq (by omega), Option.bind_some]
    rfl
  · unfold kh
    rw [if_neg (by omega)]
theorem mk_L1 (r : Right (cS x.r0 y.r0)) (hF : Few (cS x.r0 y.r0)) (hk0 : chk (cS x.r0 y.r0) = 0) (hp : 0 < cntS tt (cS x.r0 y.r0)) {w : kb} (hw : WalkC (cS x.r0 y.r0) x.r0.tides.toNat w.r0) (ha : agC y.r0 w.r0 = true) {F : kX} (hFa : F.r0 = fatesL (cS x.r0 y.r0)) : iterM FU (jX x w y F) 0 = some (.inl ()) := by
  have ht : 0 ≤ x.r0.tides ∧ x.r0.tides ≤ 4 := r.tides
  have hc : 2 ≤ x.r0.cells ∧ x.r0.cells ≤ 10 := r.cells
  have hf : 1 ≤ x.r0.fords.length ∧ x.r0.fords.length ≤ 3 := r.fords
  have hl := hw.len
  have hon := walk_on r (crs := w.r0) hw ha x.r0.tides.toNat (Nat.le_refl _)
  have hrow := hw.row _ (Nat.le_refl _)
  have hrl : (w.r0.getD x.r0.tides.toNat []).length = x.r0.fords.length := (rowB_iff.1 hrow).1
  have hm : w.r0.getD x.r0.tides.toNat [] ∈ LL (cS x.r0 y.r0) := (mem_LL (show 0 ≤ (cS x.r0 y.r0).cells from by show 0 ≤ x.r0.cells; omega)).2 hrow
  have hcS : (⟨x.r0.cells, x.r0.tides, x.r0.fords, x.r0.sands, y.r0⟩ : Channel) = cS x.r0 y.r0 := rfl
  have key := iterM_any0 (f := jX x w y F) x.r0.fords.length (fun _ => false) false (fun i hi => ?_) ?_ (N := FU) (FU_lt (by omega))
  · rw [show (List.range x.r0.fords.length).any (fun _ => false) = false from by simp, if_neg Bool.false_ne_true] at key
    exact key
  · have hs := shift_in r (i := i) hi hm hon
    have h1 := fate_stay r (i := i) hi hm hon
    have h2 := fate_move r (i := i) hi hm hon
    have hxb := (rowB_iff.1 hrow).2.2 _ (getDm (-1) (show i < (w.r0.getD x.r0.tides.toNat []).length by omega))
    have hfb := r.fcell _ (getDm 0 (show i < (cS x.r0 y.r0).fords.length from hi))
    have eF : (cS x.r0 y.r0).fords = x.r0.fords := rfl
    have eC : (cS x.r0 y.r0).cells = x.r0.cells := rfl
    rw [eF] at hs h1 h2 hfb
    rw [eC] at hxb hfb
    unfold jX
    rw [if_pos (by omega), mk_L2 r hF hk0 hp hw ha hi, Option.bind_some, oc_inl, ix_eq [] (by omega) (by omega), Option.bind_some, ix_nat (-1) (by omega), Option.bind_some, ix_nat 0 hi, Option.bind_some, hcS, shift_at hF hk0 hp hi, Option.bind_some, Option.bind_some, ix_nat (-1) (by omega), Option.bind_some, Option.bind_some]
    dsimp only
    rw [subc_eq (by omega), Option.bind_some, if_pos rfl, if_neg (by omega), if_neg (by omega), hFa, fates_ix (c := cS x.r0 y.r0) hi, Option.bind_some, addc_eq (by omega)]
    by_cases q1 : fateI (cS x.r0 y.r0) i = 1
    · rw [if_pos q1, if_pos (h1 q1), Option.bind_some, if_neg (by omega), Option.bind_some, if_neg Bool.false_ne_true, Option.bind_some]
      rfl
    · rw [if_neg q1, Option.bind_some]
      by_cases q2 : fateI (cS x.r0 y.r0) i = 2
      · rw [if_pos q2, Option.bind_some, if_neg (by rw [decide_eq_true_eq]; exact h2 q2), Option.bind_some]
        rfl
      · rw [if_neg q2, Option.bind_some, if_neg Bool.false_ne_true, Option.bind_some]
        rfl
  · unfold jX
    rw [if_neg (by omega)]
theorem mk_body (r : Right (cS x.r0 y.r0)) (hF : Few (cS x.r0 y.r0)) (hk0 : chk (cS x.r0 y.r0) = 0) (hp : 0 < cntS tt (cS x.r0 y.r0)) {w : kb} (hw : WalkC (cS x.r0 y.r0) x.r0.tides.toNat w.r0) {F : kX} (hFa : F.r0 = fatesL (cS x.r0 y.r0)) {A : yU} (hA : A.r0 = anewC (cS x.r0 y.r0)) (Z : jA) :
    ((zY (⟨x.r0.cells, x.r0.tides, x.r0.fords, x.r0.sands, y.r0⟩ : Channel) w.r0).bind fun t104 =>
 (if t104.r1 = 0 then
 ((qz (⟨x.r0.cells, x.r0.tides, x.r0.fords, x.r0.sands, y.r0⟩ : Channel) w.r0).bind fun t113 =>
 some (!(t104.r0 == t113))) else
 (some true)).bind fun o_4 =>
 if o_4 = true then
 (some (.inr false)) else
 (if (!t104.r0) = true then
 (some (.inl Z)) else
 ((qk w.r0).bind fun t120 =>
 (if t120.r1 < A.r0.lo then
 (some true) else
 (some (decide (A.r0.hi < t120.r1)))).bind fun o_5 =>
 if o_5 = true then
 (some (.inr false)) else
 ((iterM FU (jX x w y F) 0).bind fun o_6 =>
 oc o_6 (fun j_2 => some (.inl Z)) (fun r_4 => some (.inr r_4)))))) = (some (.inl Z) : Option (jA ⊕ Bool)) := by
  have ht : 0 ≤ x.r0.tides ∧ x.r0.tides ≤ 4 := r.tides
  have hg : y.r0.length ≤ 20 := r.sights
  have hc : 2 ≤ x.r0.cells ∧ x.r0.cells ≤ 10 := r.cells
  have hcS : (⟨x.r0.cells, x.r0.tides, x.r0.fords, x.r0.sands, y.r0⟩ : Channel) = cS x.r0 y.r0 := rfl
  have hl := hw.len
  have hfw : fitB tt (cS x.r0 y.r0) w.r0 = agC y.r0 w.r0 := fitB_walk r hw
  rw [hcS, jbp hF (by omega) (rows_small r hw), if_pos hk0, Option.bind_some]
  dsimp only
  rw [if_pos rfl, jbg r hg hl (rows_small r hw), Option.bind_some, Option.bind_some]
  rw [show fitB (fun _ => true) (cS x.r0 y.r0) w.r0 = agC y.r0 w.r0 from hfw, show (cS x.r0 y.r0).sights = y.r0 from rfl, beq_self_eq_true, if_neg (by decide)]
  cases ha : agC y.r0 w.r0 with
  | false => rfl
  | true =>
    have hon := walk_on r (crs := w.r0) hw ha x.r0.tides.toNat (Nat.le_refl _)
    have hm : w.r0.getD x.r0.tides.toNat [] ∈ LL (cS x.r0 y.r0) := (mem_LL (show 0 ≤ (cS x.r0 y.r0).cells from by show 0 ≤ x.r0.cells; omega)).2 (hw.row _ (Nat.le_refl _))
    have hai := anew_in hm hon
    rw [if_neg (by decide), ja3 r hw, Option.bind_some, hA]
    dsimp only
    rw [if_neg (by have := hai.1; show ¬ (anL (cS x.r0 y.r0) (w.r0.getD x.r0.tides.toNat []) : Int) < _; omega), Option.bind_some, decide_eq_false (by have := hai.2; show ¬ _ < (anL (cS x.r0 y.r0) (w.r0.getD x.r0.tides.toNat []) : Int); omega), if_neg Bool.false_ne_true, mk_L1 r hF hk0 hp hw ha hFa, Option.bind_some, oc_inl]
end
theorem getDset {α : Type} {l : List α} {i j : Nat} {v d : α} (hi : i < l.length) : (l.set i v).getD j d = if j = i then v else l.getD j d := by
  rw [List.getD_eq_getElem?_getD, List.getElem?_set, List.getD_eq_getElem?_getD]
  by_cases h : j = i
  · subst h; rw [if_pos rfl, if_pos rfl, if_pos hi]; rfl
  · rw [if_neg (fun q => h q.symm), if_neg h]
def turnB (tn : Int) (i : Nat) : Bool := decide ((IntKind.u8.wrap (BitVec.ofInt IntKind.u8.bits (Int.fdiv tn (2 ^ min i IntKind.u8.bits)) &&& BitVec.ofInt IntKind.u8.bits 1).toNat) = 1)
def flipS (s : Sight) : Sight := ⟨s.after, s.cell, !s.upright⟩
structure TurnI (tn : Int) (sg : List Sight) (k : Nat) (wr : Int) (o : List Sight) : Prop where
  len : o.length = sg.length
  wr : wr = (((List.range k).filter (turnB tn)).length : Nat)
  get : ∀ i, i < sg.length → o.getD i default = if (decide (i < k) && turnB tn i) = true then flipS (sg.getD i default) else sg.getD i default
theorem mk_turn {t : jE} {tn : Int} (hn : t.r0.length ≤ 8) : ∃ o, iterM FU (kT t tn) ⟨0, 0, t.r0⟩ = some o ∧ TurnI tn t.r0 t.r0.length o.wrong31 o.r0 := by
  refine iterM_inv (f := kT t tn) (fun s => ∃ k : Nat, s.t239 = (k : Int) ∧ k ≤ t.r0.length ∧ TurnI tn t.r0 k s.wrong31 s.r0) (fun s => ((t.r0.length : Int) - s.t239).toNat) _ (fun s hs => ?_) FU _ (FU_lt (by simp only; omega)) ⟨0, rfl, Nat.zero_le _, rfl, rfl, fun i hi => by simp⟩
  obtain ⟨k, h0, h1, h2⟩ := hs
  have hb := List.length_filter_le (turnB tn) (List.range k)
  rw [List.length_range] at hb
  have hwr := h2.wr
  have hlen := h2.len
  unfold kT
  rw [h0]
  by_cases hlt : (k : Int) < (t.r0.length : Int)
  · left
    have a1 : addc (k : Int) 1 = some ((k : Int) + 1) := addc_eq (by omega)
    rw [if_pos hlt, if_pos (by omega), a1, Int.toNat_natCast]
    by_cases hq : turnB tn k = true
    · have hq' := of_decide_eq_true hq
      rw [if_pos hq', ix_nat default (by omega), Option.bind_some, Option.bind_some, Option.bind_some, addc_eq (by omega), Option.bind_some, Option.bind_some, Option.bind_some]
      refine ⟨_, rfl, ⟨k + 1, rfl, by omega, ⟨by simp only [List.length_set]; exact hlen, ?_, fun i hi => ?_⟩⟩, by simp only; omega⟩
      · rw [List.range_succ, List.filter_append, List.length_append, List.filter_cons, if_pos hq]
        simp only [List.filter_nil, List.length_singleton]
        omega
      · show (s.r0.set k _).getD i default = _
        have hks : k < s.r0.length := by omega
        rw [getDset hks]
        by_cases he : i = k
        · subst he
          rw [if_pos rfl, decide_eq_true (by omega), hq]
          have := h2.get i hi
          rw [decide_eq_false (by omega)] at this
          simp only [Bool.false_and, Bool.false_eq_true, if_false] at this
          rw [this]
          rfl
        · rw [if_neg he, h2.get i hi]
          have : decide (i < k + 1) = decide (i < k) := by rw [decide_eq_decide]; omega
          rw [this]
    · have hq' : ¬ _ := fun h => hq (decide_eq_true h)
      rw [if_neg hq', Option.bind_some, Option.bind_some]
      refine ⟨_, rfl, ⟨k + 1, rfl, by omega, ⟨hlen, ?_, fun i hi => ?_⟩⟩, by simp only; omega⟩
      · rw [List.range_succ, List.filter_append, List.length_append, List.filter_cons, if_neg hq]
        simp only [List.filter_nil, List.length_nil]
        omega
      · rw [h2.get i hi]
        by_cases he : i = k
        · subst he
          have : turnB tn i = false := by simpa using hq
          rw [this, Bool.and_false, Bool.and_false]
        · have : decide (i < k + 1) = decide (i < k) := by rw [decide_eq_decide]; omega
          rw [this]
  · right
    obtain rfl : k = t.r0.length := by omega
    rw [if_neg hlt]
    exact ⟨_, rfl, h2⟩
end Go.Proofs.Wb

namespace Go.Proofs.Wb
open Go Go.Fw Go.Gx Go.Sb
set_option linter.unusedVariables false
theorem mk_body3 {x : jQ} {y : jE} (r : Right (cS x.r0 y.r0)) (hF : Few (cS x.r0 y.r0)) (hk0 : chk (cS x.r0 y.r0) = 0) (hp : 0 < cntS tt (cS x.r0 y.r0)) (hw : WalkC (cS x.r0 y.r0) x.r0.tides.toNat x.r1) {F : kX} (hFa : F.r0 = fatesL (cS x.r0 y.r0)) {A : yU} (hA : A.r0 = anewC (cS x.r0 y.r0)) (Z : jA) :
    ((zY (⟨x.r0.cells, x.r0.tides, x.r0.fords, x.r0.sands, y.r0⟩ : Channel) x.r1).bind fun t104 =>
 (if t104.r1 = 0 then
 ((qz (⟨x.r0.cells, x.r0.tides, x.r0.fords, x.r0.sands, y.r0⟩ : Channel) x.r1).bind fun t113 =>
 some (!(t104.r0 == t113))) else
 (some true)).bind fun o_4 =>
 if o_4 = true then
 (some (.inr false)) else
 (if (!t104.r0) = true then
 (some (.inl Z)) else
 ((qk x.r1).bind fun t120 =>
 (if t120.r1 < A.r0.lo then
 (some true) else
 (some (decide (A.r0.hi < t120.r1)))).bind fun o_5 =>
 if o_5 = true then
 (some (.inr false)) else
 ((iterM FU (zc x y F) 0).bind fun o_6 =>
 oc o_6 (fun j_2 => some (.inl Z)) (fun r_4 => some (.inr r_4)))))) = (some (.inl Z) : Option (jA ⊕ Bool)) :=
  mk_body r hF hk0 hp (w := ⟨0, 0, x.r1⟩) hw hFa hA Z
theorem mk_L0 {x : jQ} {y : jE} {q : List Int} (hq : q.length ≤ 9223372036854775807) (r : Right (cS x.r0 y.r0)) (hF : Few (cS x.r0 y.r0)) (hk0 : chk (cS x.r0 y.r0) = 0) (hp : 0 < cntS tt (cS x.r0 y.r0)) (hw : WalkC (cS x.r0 y.r0) x.r0.tides.toNat x.r1) {F : kX} (hFa : F.r0 = fatesL (cS x.r0 y.r0)) {A : yU} (hA : A.r0 = anewC (cS x.r0 y.r0)) :
    ∃ Z, iterM FU (kS q x y A F) ⟨0, 0, 0⟩ = some (.inl Z) := by
  obtain ⟨b, h1, h2⟩ := iterM_inv (f := kS q x y A F) (fun s => (0 ≤ s.t92 ∧ s.t92 ≤ 6) ∧ HOK q s.t5_1) (fun s => (6 - s.t92).toNat) (fun b => ∃ Z, b = .inl Z) (fun s hs => by
    obtain ⟨h0, h1⟩ := hs
    unfold kS
    by_cases hlt : s.t92 < 6
    · left
      rw [if_pos hlt]
      by_cases hz : 0 < s.t92
      · obtain ⟨w, w1, w2, w3⟩ := walked_ok hq r (p := s.t5_1) (q := s.t5_2) h1
        have w1' : k4 q s.t5_1 s.t5_2 (⟨x.r0.cells, x.r0.tides, x.r0.fords, x.r0.sands, y.r0⟩ : Channel) = some w := w1
        rw [if_pos hz, w1', Option.bind_some, mk_body r hF hk0 hp w3 hFa hA ⟨w.b0_1, w.b0_2⟩, Option.bind_some, oc_inl, addc_eq (by omega), Option.bind_some]
        exact ⟨_, rfl, ⟨by simp only; omega, w2⟩, by simp only; omega⟩
      · rw [if_neg hz, mk_body3 r hF hk0 hp hw hFa hA ⟨s.t5_1, s.t5_2⟩, Option.bind_some, oc_inl, addc_eq (by omega), Option.bind_some]
        exact ⟨_, rfl, ⟨by simp only; omega, h1⟩, by simp only; omega⟩
    · right
      rw [if_neg hlt]
      exact ⟨_, rfl, _, rfl⟩) FU ⟨0, 0, 0⟩ (FU_lt (by simp only; omega)) ⟨by simp only; omega, HOK_zero q⟩
  obtain ⟨Z, rfl⟩ := h2
  exact ⟨Z, h1⟩
def restW (n : Nat) (w : List Int) : List Int := (fullL n).filter fun i => !decide (i ∈ w)
theorem mk_rest {o : qB} (ho : o.r0.length ≤ 8) {W : qU} (hW : W.r0.length ≤ 1000) : iterM FU (kk o W) ⟨0, []⟩ = some (restW o.r0.length W.r0) := by
  have key := iterM_run (f := kk o W) (fun j => ⟨(j : Int), restW j W.r0⟩) o.r0.length (b := restW o.r0.length W.r0) (fun j hj => ?_) ?_ FU (FU_lt (by omega))
  · exact key
  · have e : restW (j + 1) W.r0 = restW j W.r0 ++ if (!decide ((j : Int) ∈ W.r0)) = true then [(j : Int)] else [] := by
      unfold restW fullL
      rw [List.range_succ, List.map_append, List.filter_append]
      congr 1
      rw [List.map_cons, List.map_nil, List.filter_cons, List.filter_nil]
    have hlen : (restW j W.r0).length ≤ j := by
      unfold restW
      have := List.length_filter_le (fun i => !decide (i ∈ W.r0)) (fullL j)
      unfold fullL at this ⊢
      simpa using this
    unfold kk
    simp only
    rw [if_pos (by omega), yL (by omega), Option.bind_some, addc_eq (by omega), e]
    by_cases h1 : (j : Int) ∈ W.r0
    · rw [decide_eq_true h1, if_neg (by decide), if_neg (by decide), List.append_nil]
      rfl
    · rw [decide_eq_false h1, if_pos (by decide), if_pos (by decide), appc_eq (by rw [List.length_singleton]; omega)]
      rfl
  · unfold kk
    simp only
    rw [if_neg (by omega)]
theorem restW_len {n : Nat} {w : List Int} (h1 : w.Pairwise (· < ·)) (h2 : ∀ x ∈ w, 0 ≤ x ∧ x < (n : Int)) : (restW n w).length + w.length = n := by
  have e : w = (fullL n).filter fun i => decide (i ∈ w) := asc_ext h1 ((full_pw n).filter _) (fun x => by
    rw [List.mem_filter, mem_full, decide_eq_true_eq]
    exact ⟨fun h => ⟨h2 x h, h⟩, fun h => h.2⟩)
  have h3 := List.length_eq_countP_add_countP (fun i => decide (i ∈ w)) (l := fullL n)
  rw [List.countP_eq_length_filter, List.countP_eq_length_filter, ← e] at h3
  have h4 : (fullL n).length = n := by unfold fullL; simp
  have h5 : restW n w = (fullL n).filter fun i => decide ¬(decide (i ∈ w)) = true := by
    unfold restW
    congr 1
    funext i
    simp
  rw [h5]
  omega
theorem restW_mem {n : Nat} {w : List Int} {i : Int} : i ∈ restW n w ↔ (0 ≤ i ∧ i < (n : Int)) ∧ i ∉ w := by
  unfold restW
  rw [List.mem_filter, mem_full]
  simp
theorem BranchMarked_true {l q : List Int} (hl : l.length ≤ 9223372036854775807) (hq : q.length ≤ 9223372036854775807) (tn : Int) : yv l q tn = some true := by
  unfold yv
  rw [pile_eq, Option.bind_some, awake_true]
  obtain ⟨x, y, h1, h2, hM, hW, _, hn, hS⟩ := made_seen hl (cells := 9) (fords := 3) (tides := 4) (most := 5) (by omega) (by omega) (by omega) (by omega)
  simp only
  rw [h1, Option.bind_some, h2, Option.bind_some]
  have r0 := hM.right
  have r : Right (cS x.r0 y.r0) := cS_right r0 (by omega) hS
  have hlen : (cS x.r0 y.r0).sights.length = y.r0.length := rfl
  have hF : Few (cS x.r0 y.r0) := few_right r (by omega)
  have hk0 : chk (cS x.r0 y.r0) = 0 := chk_right r (by omega)
  have hp := cS_pos r0 hW (by omega) hS
  have hw : WalkC (cS x.r0 y.r0) x.r0.tides.toNat x.r1 := hW.sights y.r0
  have hcS : (⟨x.r0.cells, x.r0.tides, x.r0.fords, x.r0.sands, y.r0⟩ : Channel) = cS x.r0 y.r0 := rfl
  obtain ⟨Z, hZ⟩ := mk_L0 hq r hF hk0 hp hw (F := ⟨0, fatesL (cS x.r0 y.r0)⟩) rfl (A := ⟨anewC (cS x.r0 y.r0), 0⟩) rfl
  have hfl := fatesL_len (cS x.r0 y.r0)
  have eF : (cS x.r0 y.r0).fords = x.r0.fords := rfl
  rw [eF] at hfl
  obtain ⟨o, ho, hT⟩ := mk_turn (t := y) (tn := tn) (by omega)
  have hol := hT.len
  rw [hcS, Z4 hF, if_pos hk0, Option.bind_some, Y0, Option.bind_some, if_pos hk0]
  dsimp only
  rw [if_pos rfl, decide_eq_false (by omega), Option.bind_some, if_neg Bool.false_ne_true, pile_eq, Option.bind_some, jbr hF, if_pos hk0, if_neg (by omega), Option.bind_some, ja5 hF, if_pos hk0, if_neg (by omega), Option.bind_some]
  dsimp only
  rw [if_pos rfl, if_pos rfl, decide_eq_true (by omega), Option.bind_some, if_neg (by decide), hZ, Option.bind_some, oc_inl, ho, Option.bind_some]
  -- the channel with sights that are turned
  have hcO : (⟨x.r0.cells, x.r0.tides, x.r0.fords, x.r0.sands, o.r0⟩ : Channel) = cS x.r0 o.r0 := rfl
  have hget : ∀ i, i < y.r0.length → (o.r0.getD i default).after = (y.r0.getD i default).after ∧ (o.r0.getD i default).cell = (y.r0.getD i default).cell ∧ (turnB tn i = false → o.r0.getD i default = y.r0.getD i default) := fun i hi => by
    rw [hT.get i hi]
    split
    · rename_i h
      refine ⟨rfl, rfl, fun h2 => ?_⟩
      rw [h2, Bool.and_false] at h
      exact absurd h (by decide)
    · exact ⟨rfl, rfl, fun _ => rfl⟩
  have hok : ∀ s ∈ o.r0, (0 ≤ s.after ∧ s.after ≤ x.r0.tides) ∧ 0 ≤ s.cell ∧ s.cell < x.r0.cells := fun s hs => by
    obtain ⟨i, hi, e⟩ := List.getElem_of_mem hs
    have e2 : o.r0.getD i default = s := by rw [List.getD_eq_getElem?_getD, List.getElem?_eq_getElem hi, ← e]; rfl
    have h3 := hget i (by omega)
    rw [e2] at h3
    have h4 := hS _ (getDm default (show i < y.r0.length by omega))
    rw [h3.1, h3.2.1]
    exact ⟨h4.after, h4.cell⟩
  have rO : Right (cS x.r0 o.r0) := right_sights r0 (by omega) hok
  have hlO : (cS x.r0 o.r0).sights.length = o.r0.length := rfl
  have hFO : Few (cS x.r0 o.r0) := few_right rO (by omega)
  have hkO : chk (cS x.r0 o.r0) = 0 := chk_right rO (by omega)
  have hwO : WalkC (cS x.r0 o.r0) x.r0.tides.toNat x.r1 := hW.sights o.r0
  obtain ⟨w, w1, w2, w3⟩ := find_wrong rO
  obtain ⟨m1, m2, m3⟩ := mem_E0.1 w3
  rw [hlO] at m1 m3
  -- the turned ones are enough
  have hturn : ((filtL (turnB tn) o.r0.length).length : Int) = o.wrong31 := by
    rw [hT.wr]
    unfold filtL
    rw [List.length_map, hol]
  have hin : filtL (turnB tn) o.r0.length ∈ E0 (cS x.r0 o.r0).sights.length := mem_E0.2 ⟨by rw [hlO]; exact filtL_len, filtL_asc, fun z hz => by rw [hlO]; have := mem_filtL.1 hz; omega⟩
  have hpW : pW (cS x.r0 o.r0) (filtL (turnB tn) o.r0.length) = true := by
    unfold pW
    rw [decide_eq_true_eq]
    refine walk_pos rO hwO (fun k hk => agP_iff.2 fun i hi hc ha => ?_)
    have hi' : i < y.r0.length := by rw [← hol]; exact hi
    have hnt : turnB tn i = false := by
      unfold cOut at hc
      cases hq : turnB tn i with
      | false => rfl
      | true =>
        have hm : (i : Int) ∈ filtL (turnB tn) o.r0.length := mem_filtL.2 ⟨by omega, by rw [hol]; omega, by rw [Int.toNat_natCast]; exact hq⟩
        rw [decide_eq_true hm] at hc
        exact absurd hc (by decide)
    have e := (hget i hi').2.2 hnt
    have ha' : (o.r0.getD i default).after = (k : Int) := ha
    show decide ((o.r0.getD i default).cell ∈ x.r1.getD k []) = (o.r0.getD i default).upright
    rw [e] at ha' ⊢
    have hs := (hS _ (getDm default hi')).up
    rw [ha', Int.toNat_natCast] at hs
    exact hs.symm
  have hlew : (w.length : Int) ≤ o.wrong31 := by
    rw [← hturn]
    have : ¬ (filtL (turnB tn) o.r0.length).length < w.length := fun hlt => by
      have := find_min w1 hin hlt
      rw [hpW] at this
      exact absurd this (by decide)
    omega
  have hwz : decide ((w.length : Int) = 0) = decide (0 < ((cntS tt (cS x.r0 o.r0) : Nat) : Int)) := by
    rw [decide_eq_decide]
    constructor
    · intro h
      have : w = [] := List.length_eq_zero_iff.1 (by omega)
      rw [this, pW_nil, decide_eq_true_eq] at w2
      omega
    · intro h
      rw [E0_cons, List.find?_cons, pW_nil, decide_eq_true (by omega)] at w1
      rw [← Option.some.inj w1]
      rfl
  have hcr : cntS (cIn (restW o.r0.length w)) (cS x.r0 o.r0) = cntS (cOut w) (cS x.r0 o.r0) := cnt_congr fun i hi => by
    unfold cIn cOut
    rw [Bool.eq_iff_iff, decide_eq_true_eq, restW_mem]
    simp only [Bool.not_eq_true', decide_eq_false_iff_not]
    rw [hlO] at hi
    exact ⟨fun h => h.2, fun h => ⟨by omega, h⟩⟩
  have hrl := restW_len m2 m3
  have hAr := agree_sub hFO hkO (l := restW o.r0.length w) ((full_pw _).filter _) (fun i hi => by rw [hlO]; exact (restW_mem.1 hi).1) (by omega)
  rw [hcr] at hAr
  unfold pW at w2
  rw [w2] at hAr
  have hwr : ¬ o.wrong31 < (w.length : Int) := by omega
  rw [hcO, ja6 hFO, if_pos hkO, w1, Option.getD_some, Option.bind_some, Z4 hFO, if_pos hkO, Option.bind_some]
  dsimp only
  rw [if_pos rfl, if_pos rfl, if_neg hwr, Option.bind_some, hwz, beq_self_eq_true, if_neg (by decide), mk_rest (W := ⟨0, w⟩) (by omega) (by simp only; omega), Option.bind_some, hAr, Option.bind_some]
  dsimp only
  rw [if_pos rfl, if_pos rfl, subc_eq (by omega), Option.bind_some, if_pos (by omega), Option.bind_some, Option.bind_some]
end Go.Proofs.Wb

namespace Go.Gx
open Go Go.Fw Go.RowKit
section
variable {H : Type} {enc : TypeId × Value → H} {P : Program} {w : World} {base : Nat} {sp : Nat → Bool} {held : Bool}
def Opens (enc : TypeId × Value → H) (P : Program) (w : World) (base : Nat) (sp : Nat → Bool) (held : Bool) {α : Type} (R : Row α) (wf : α → Prop) (t : TypeId) : Prop :=
  ∀ fuel cs x, DataW.trod enc P w base sp held fuel t cs = some x → ∃ a, cs = R.cells a ∧ wf a
def u8P (n : Int) : Prop := 0 ≤ n ∧ n ≤ 255
theorem wf_u8P {n : Int} (h : (Lit.int .u8 n).wf = true) : u8P n := by
  simp [Lit.wf, IntKind.min, IntKind.max, IntKind.signed, IntKind.bits] at h
  unfold u8P; omega
theorem opens_u8 {t : TypeId} (ht : P.underlying t = some (.int .u8)) : Opens enc P w base sp held RU8 u8P t := fun fuel cs x h => by
  obtain ⟨n, rfl, _, hw⟩ := DataW.trod_int ht h
  exact ⟨n, rfl, wf_u8P hw⟩
theorem fieldAt {fs : Array Field} {t : TypeId} {fuel : Nat} {cs : List Value} {x : DataW H × List MemPlace} (ht : P.underlying t = some (.struct fs)) (h : DataW.trod enc P w base sp held fuel t cs = some x) {α : Type} {R : Row α} {wf : α → Prop} (i : Nat) {T o k : Nat}
    (hf : (fs[i]?).map (fun fd => (fd.type, fd.offset)) = some (T, o)) (hk : P.cellsOf T = k) (hR : Opens enc P w base sp held R wf T) : ∃ a, (cs.drop o).take k = R.cells a ∧ wf a := by
  obtain ⟨xs, n, rfl, _, hlen, hxl, hx⟩ := DataW.trod_struct ht h
  obtain ⟨fd, hfd, he⟩ : ∃ fd, fs[i]? = some fd ∧ (fd.type, fd.offset) = (T, o) := by
    cases hh : fs[i]? with
    | none => simp [hh] at hf
    | some fd => exact ⟨fd, rfl, by simpa [hh] using hf⟩
  simp only [Prod.mk.injEq] at he
  obtain ⟨rfl, rfl⟩ := he
  have h1 := hx i fd hfd
  rw [hk] at h1
  have hi : i < xs.length := by rw [hxl]; exact (Array.getElem?_eq_some_iff.1 hfd).1
  rw [List.getElem?_eq_getElem hi] at h1
  exact hR _ _ _ h1
structure SlIn {α : Type} (R : Row α) (wf : α → Prop) (w : World) (v : Value) (A : Option Addr) (n c : Nat) (l : List α) : Prop where
  val : v = .slice A n c
  len : l.length = n
  ok : AOK n A
  le : n ≤ c
  max : c ≤ maxLen
  seg : segOK w (aB A, aO A, R.enc l)
  wf : ∀ x, x ∈ l → wf x
theorem choose_list {α : Type} {p : Nat → α → Prop} : ∀ (n : Nat), (∀ i, i < n → ∃ a, p i a) → ∃ l : List α, l.length = n ∧ ∀ i (h : i < l.length), p i l[i]
  | 0, _ => ⟨[], rfl, fun i h => by simp at h⟩
  | n + 1, h => by
    obtain ⟨l, hl, hp⟩ := choose_list n (fun i hi => h i (by omega))
    obtain ⟨a, ha⟩ := h n (by omega)
    refine ⟨l ++ [a], by simp [hl], fun i hi => ?_⟩
    by_cases hil : i < l.length
    · rw [List.getElem_append_left hil]; exact hp i hil
    · have : i = l.length := by simp at hi; omega
      subst this
      rw [List.getElem_append_right (by omega)]
      simp only [Nat.sub_self, List.getElem_cons_zero]
      rw [hl]; exact ha
theorem openSl {α : Type} {R : Row α} {wf : α → Prop} {t e : TypeId} (ht : P.underlying t = some (.slice e)) (hc : P.cellsOf e = R.sz) (hR : Opens enc P w base sp held R wf e) (h0 : Nat.blt 0 R.sz = true)
    {fuel : Nat} {cs : List Value} {x : DataW H × List MemPlace} (h : DataW.trod enc P w base sp held fuel t cs = some x) : ∃ (v : Value) (A : Option Addr) (n c : Nat) (l : List α), cs = [v] ∧ SlIn R wf w v A n c l := by
  have hsz : 0 < R.sz := by simpa using h0
  rcases Go.Deep.open_slice ht h with ⟨rfl, _⟩ | ⟨a, len, cap, m, n, D, Pl, rfl, hb, hl, hm, hmm, _, hi⟩
  · exact ⟨_, none, 0, 0, [], rfl, rfl, rfl, AOK.nil, Nat.le_refl _, Nat.zero_le _, segOK.nil, by simp⟩
  · have hlm : len ≤ m := by rw [hmm]; split <;> omega
    have hcell : ∀ i, i < len → ∃ x : α, (∀ f (hf : f < (R.cells x).length), w.cell? (a.add (i * R.sz + f)) = some (R.cells x)[f]) ∧ wf x := fun i hil => by
      obtain ⟨cs', h1, h2⟩ := hi i (by omega)
      obtain ⟨x, rfl, hw⟩ := hR _ _ _ h2
      obtain ⟨_, _, hat⟩ := World.cells?_some h1
      refine ⟨x, fun f hf => ?_, hw⟩
      have := hat f (by rw [hc, ← R.len x]; exact hf)
      rw [hc] at this
      rw [List.getElem?_eq_getElem hf] at this
      have e : (a.add (i * R.sz)).add f = a.add (i * R.sz + f) := by
        unfold Addr.add
        by_cases h1 : i * R.sz = 0
        · simp [h1]
        · by_cases h2 : f = 0
          · simp [h2]
          · simp [h1, h2, Nat.add_assoc]
      rw [e] at this
      exact this
    obtain ⟨l, hll, hlp⟩ := choose_list len hcell
    have hspot : 0 < len → a.spot = none := fun h0 => by
      obtain ⟨x, hx, _⟩ := hcell 0 h0
      have := World.cell?_spot (hx 0 (by rw [R.len]; exact hsz))
      simpa [Addr.add] using this
    refine ⟨_, some a, len, cap, l, rfl, rfl, hll, fun h0 => ?_, hl, hm, fun j hj => ?_, fun x hx => ?_⟩
    · obtain ⟨b, o, s⟩ := a
      have := hspot h0
      simp only at this
      subst this
      exact ⟨b, o, rfl⟩
    · have hj' : j < l.length * R.sz := by rw [← R.enc_len]; exact hj
      have hpos : 0 < len := by
        rcases Nat.eq_zero_or_pos len with h | h
        · rw [hll, h, Nat.zero_mul] at hj'; omega
        · exact h
      obtain ⟨b, o, s⟩ := a
      have hs := hspot hpos
      simp only at hs
      subst hs
      have hq : j / R.sz < l.length := Nat.div_lt_of_lt_mul (by rw [Nat.mul_comm]; exact hj')
      have hr : j % R.sz < R.sz := Nat.mod_lt _ hsz
      have hd : j / R.sz * R.sz + j % R.sz = j := by rw [Nat.mul_comm]; exact Nat.div_add_mod j R.sz
      have h1 := (hlp (j / R.sz) hq).1 (j % R.sz) (by rw [R.len]; exact hr)
      rw [hd] at h1
      have h2 := R.enc_get l (j / R.sz) (j % R.sz) l[j / R.sz] (List.getElem?_eq_getElem hq) hr
      rw [hd] at h2
      have h3 : (⟨b, o, none⟩ : Addr).add j = ⟨b, o + j, none⟩ := addr_add b o j
      rw [h3] at h1
      simp only [aB, aO, Option.map_some, Option.getD_some]
      rw [h1, ← List.getElem?_eq_getElem, ← h2, List.getElem?_eq_getElem hj]
    · obtain ⟨i, hi', rfl⟩ := List.getElem_of_mem hx
      exact (hlp i hi').2
theorem HV.begin {ro : List Sg} (h : ∀ s, s ∈ ro → segOK w s) : HV w (keys [] []) [] [] ro w :=
  ⟨rfl, rfl, rfl, Nat.le_refl _, fun _ _ _ => rfl, by simp [vbl], by simp [vbl], by simp [vbl], h, by simp [vbl]⟩
theorem segCons {s : Sg} {ro : List Sg} (h : segOK w s) (hr : ∀ t, t ∈ ro → segOK w t) : ∀ t, t ∈ s :: ro → segOK w t := fun t ht => by
  rcases List.mem_cons.1 ht with rfl | ht
  · exact h
  · exact hr t ht
theorem segNil : ∀ t, t ∈ ([] : List Sg) → segOK w t := fun t ht => by cases ht
theorem HV.below {w' : World} (h : HV w (keys [] []) [] [] [] w') : Below w.heap.size w w' := by
  have : Ext [] w w' := HS.toExt h
  exact this.below
end
end Go.Gx

