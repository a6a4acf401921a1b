/- What the functions that the law BranchNumbered reaches come to, and why it holds: part 3. -/
import Derived.Test.YtpjnpibgnkgnaaaGreatBranchNumbered2
import Derived.Shelf.Slices.CompactI
namespace Go.Proofs
open Go.Shelf
def laysCompact_ren : Go.Shelf.Ren := ⟨fun | 20 => 114 | n => n, fun | 0 => 0 | 3 => 3 | 4 => 4 | 22 => 22 | n => n, fun | n => n⟩
theorem laysCompact : Go.Proofs.Lays2.n20 Tryz.prog laysCompact_ren := {
  mixed := by kernel_rfl,
  f20 := Tryz.func114.trans (congrArg some (by kernel_rfl)),
  t0 := Tryz.underlying0,
  a0 := Tryz.isAgg0,
  z0 := Tryz.sizeOf0,
  v0 := Tryz.zeroValue0,
  t3 := Tryz.underlying3,
  a3 := Tryz.isAgg3,
  z3 := Tryz.sizeOf3,
  v3 := Tryz.zeroValue3,
  t4 := Tryz.underlying4,
  a4 := Tryz.isAgg4,
  z4 := Tryz.sizeOf4,
  v4 := Tryz.zeroValue4,
  t22 := Tryz.underlying22,
  a22 := Tryz.isAgg22,
  z22 := Tryz.sizeOf22,
  v22 := Tryz.zeroValue22,
  i3 := by kernel_rfl }
end Go.Proofs
namespace Go.Proofs.Wb
open Go Go.Fw Go.Gx Go.Sb
theorem RI_len (l : List Int) : (RI.enc l).length = l.length := by rw [RI.enc_len]; exact Nat.mul_one _
theorem RI_get {l : List Int} {j : Nat} (h : j < l.length) : (RI.enc l)[j]? = some (.int .i64 l[j]!) := by
  have := RI.enc_get l j 0 l[j]! (by simp [h]) (by decide)
  simpa [RI] using this
def yH (l : List Int) : Option (List Int) := if l.length ≤ 4611686018427387903 then some (Go.Lib.compact l) else none
theorem compact_le (l : List Int) : (Go.Lib.compact l).length ≤ l.length := by
  unfold Go.Lib.compact Go.Lib.compactUpTo
  rw [List.length_map]
  exact Nat.le_trans (List.length_filter_le _ _) (by simp)
theorem put_cells {l s : List Int} {sp : List Value} (hs : s.length = l.length) : Go.Sort.putCells (Value.int .i64) 0 s.toArray (RI.enc l ++ sp).toArray = (RI.enc s ++ sp).toArray := by
  apply Array.toList_inj.1
  apply List.ext_getElem?
  intro k
  unfold Go.Sort.putCells
  rw [Array.getElem?_toList, Array.getElem?_mapIdx]
  simp only [List.getElem?_toArray, Nat.zero_le, true_and, Nat.zero_add, List.size_toArray, Nat.sub_zero]
  by_cases hk : k < s.length
  · rw [List.getElem?_append_left (by rw [RI_len]; omega), List.getElem?_append_left (by rw [RI_len]; omega), RI_get (by omega), RI_get hk]
    simp [hk]
  · rw [List.getElem?_append_right (by rw [RI_len]; omega), List.getElem?_append_right (by rw [RI_len]; omega), RI_len, RI_len, hs]
    have h2 : ¬ k < l.length := by omega
    simp [hk, h2]
theorem Qu (l : List Int) (V : VL) (w : World) (hw : HV w (keys [] [⟨3, RI.enc l, V.sp, V.q, []⟩]) [] [⟨3, RI.enc l, V.sp, V.q, []⟩] [] w) (hv : VOK 1 V.n V.cap (RI.enc l) V.sp V.q) {res : List Int} (hm : yH l = some res) :
    Calls Tryz.prog 114 #[slv V.q V.n V.cap] w (fun en w' => ∃ l' : VL, en = .returned (slv l'.q l'.n l'.cap) ∧ (VOK 1 l'.n l'.cap (RI.enc res) l'.sp l'.q) ∧ HV w (keys [] [⟨3, RI.enc l, V.sp, V.q, []⟩]) [] [⟨3, RI.enc res, l'.sp, l'.q, []⟩] [] w') := by
  unfold yH at hm
  obtain ⟨hl, hm⟩ := ifO hm
  obtain rfl := Option.some.inj hm
  have hn := vlen RI hv rfl
  obtain ⟨q, n, cap, sp⟩ := V
  simp only at hw hv hn ⊢
  subst hn
  have hle := compact_le l
  generalize hc : Go.Lib.compact l = r at *
  have hv' : VOK 1 r.length cap (RI.enc r) (RI.enc (List.replicate (l.length - r.length) 0) ++ sp) q := ⟨by rw [RI_len, Nat.mul_one], by
      have := hv.hcap
      rw [List.length_append, RI_len] at this
      rw [List.length_append, List.length_append, RI_len, RI_len, List.length_replicate]
      omega, by have := hv.hle; omega, hv.hmax, fun h => by
        have h1 := hv.hnone h
        have h2 : l.length = 0 := h1.1
        exact ⟨by omega, h1.2⟩, hv.hoff⟩
  cases q with
  | none =>
    have h0 := (hv.hnone rfl).1
    have e : l = [] := List.length_eq_zero_iff.1 h0
    subst e
    have er : r = [] := by rw [← hc]; rfl
    subst er
    refine Calls.mono (Any.slices_Compact_int_empty laysCompact none cap w) ?_
    rintro en w' ⟨rfl, rfl⟩
    exact ⟨⟨none, 0, cap, sp⟩, rfl, hv', by simpa using hw⟩
  | some p =>
    have ho := hv.hoff p rfl
    have hb : w.heap[p.1]? = some (.cells (RI.enc l ++ sp).toArray 3 (0, 0)) := hw.hs.ownOK (p.1, _) (by simp [vbl, VR.bl, vown])
    have hlt : p.1 < w.heap.size := (Array.getElem?_eq_some_iff.1 hb).1
    have hH : Go.Sort.Holds (Value.int .i64) w p.1 0 l.toArray := fun j hj => by
      have hj' : j < l.length := by simpa using hj
      refine ⟨?_, by simp [World.frozen?, hb]⟩
      have : (RI.enc l ++ sp)[j]? = some (.int .i64 l[j]!) := by rw [List.getElem?_append_left (by rw [RI_len]; exact hj')]; exact RI_get hj'
      simp [World.cell?, hb, this]
    have e1 : slv (some p) l.length cap = Value.slice (some ⟨p.1, 0, none⟩) l.length cap := by simp [slv, ho]
    rw [e1]
    refine Calls.mono (Any.slices_Compact_int laysCompact p.1 0 cap l w hH (by omega) hv.hle) ?_
    rw [hc]
    rintro en w' ⟨rfl, k, rfl⟩
    have e2 : Value.slice (some ⟨p.1, 0, none⟩) r.length cap = slv (some p) r.length cap := by simp [slv, ho]
    refine ⟨⟨some p, r.length, cap, RI.enc (List.replicate (l.length - r.length) 0) ++ sp⟩, by rw [e2], hv', ?_⟩
    have hput := put_cells (l := l) (s := r ++ List.replicate (l.length - r.length) 0) (sp := sp) (by simp; omega)
    have henc : RI.enc (r ++ List.replicate (l.length - r.length) 0) ++ sp = RI.enc r ++ (RI.enc (List.replicate (l.length - r.length) 0) ++ sp) := by rw [RI.enc_append, List.append_assoc]
    rw [henc] at hput
    have hmod : ∀ i : Nat, (Go.Sort.putRow (Value.int .i64) (Go.Sort.ahead w k) p.1 0 (r ++ List.replicate (l.length - r.length) 0).toArray).heap[i]? = if i = p.1 then some (.cells (RI.enc r ++ (RI.enc (List.replicate (l.length - r.length) 0) ++ sp)).toArray 3 (0, 0)) else w.heap[i]? := fun i => by
      simp only [Go.Sort.putRow, Go.Sort.mapBlock, Go.Sort.ahead]
      rw [Array.getElem?_modify]
      by_cases h : p.1 = i
      · subst h
        rw [if_pos rfl, if_pos rfl, hb]
        simp only [Option.map_some, Go.Sort.onCells, hput]
      · rw [if_neg h, if_neg (fun e => h e.symm)]
    have hhs := hw.hs
    refine ⟨rfl, rfl, rfl, ?_, fun i hi hM => ?_, fun x hx => ?_, fun x hx => ?_, ?_, fun x hx => by simp at hx, fun x hx => by simp at hx⟩
    · simp [Go.Sort.putRow, Go.Sort.mapBlock, Go.Sort.ahead]
    · have : i ≠ p.1 := fun e => hM (by simp [keys, vbl, VR.bl, vown, e])
      exact (hmod i).trans (if_neg this)
    · simp only [vbl, VR.bl, vown, List.nil_append, List.append_nil, List.mem_singleton] at hx
      subst hx
      exact (hmod p.1).trans (if_pos rfl)
    · simp only [vbl, VR.bl, vown, List.nil_append, List.append_nil, List.mem_singleton] at hx
      subst hx
      exact .inr (by simp [keys, vbl, VR.bl, vown])
    · simp [vbl, VR.bl, vown]
end Go.Proofs.Wb

namespace Go.Sb
def insI (x : Int) : List Int → List Int
  | [] => [x]
  | y :: l => if x ≤ y then x :: y :: l else y :: insI x l
def sortI : List Int → List Int
  | [] => []
  | x :: l => insI x (sortI l)
theorem insI_perm (x : Int) : ∀ l, (insI x l).Perm (x :: l)
  | [] => List.Perm.refl _
  | y :: l => by
    rw [insI]
    split
    · exact List.Perm.refl _
    · exact ((insI_perm x l).cons y).trans (List.Perm.swap x y l)
theorem sortI_perm : ∀ l, (sortI l).Perm l
  | [] => List.Perm.refl _
  | x :: l => (insI_perm x _).trans ((sortI_perm l).cons x)
theorem insI_sorted (x : Int) : ∀ {l : List Int}, l.Pairwise (· ≤ ·) → (insI x l).Pairwise (· ≤ ·)
  | [], _ => by simp [insI]
  | y :: l, h => by
    rw [insI]
    obtain ⟨h1, h2⟩ := List.pairwise_cons.1 h
    split
    · rename_i hxy
      refine List.pairwise_cons.2 ⟨fun z hz => ?_, h⟩
      rcases List.mem_cons.1 hz with rfl | hz
      · exact hxy
      · have := h1 z hz; omega
    · rename_i hxy
      refine List.pairwise_cons.2 ⟨fun z hz => ?_, insI_sorted x h2⟩
      rcases List.mem_cons.1 ((insI_perm x l).mem_iff.1 hz) with rfl | hz
      · omega
      · exact h1 z hz
theorem sortI_sorted : ∀ l, (sortI l).Pairwise (· ≤ ·)
  | [] => List.Pairwise.nil
  | x :: l => insI_sorted x (sortI_sorted l)
theorem sortI_ms (l : List Int) : (l.mergeSort fun x y => decide (x ≤ y)) = sortI l := by
  refine List.Perm.eq_of_pairwise (le := fun x y : Int => x ≤ y) (fun a b _ _ h1 h2 => by omega) ?_ (sortI_sorted l) ((List.mergeSort_perm l _).trans (sortI_perm l).symm)
  have := List.pairwise_mergeSort (le := fun x y : Int => decide (x ≤ y)) (fun a b c h1 h2 => by simp at h1 h2 ⊢; omega) (fun a b => by simp; omega) l
  exact this.imp (fun h => by simpa using h)
theorem mem_sortI {l : List Int} {x : Int} : x ∈ sortI l ↔ x ∈ l := (sortI_perm l).mem_iff
theorem sortI_length (l : List Int) : (sortI l).length = l.length := (sortI_perm l).length_eq
end Go.Sb

