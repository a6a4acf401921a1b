/- What the functions that the law BranchNumbered reaches come to, and why it holds: part 4. -/
import Derived.Test.YtpjnpibgnkgnaaaGreatBranchNumbered3
import Derived.Shelf.Sort.Plain
import Derived.Shelf.Slices.In.SortNone
namespace Go.Proofs
open Go.Shelf
def lays189_ren : Go.Shelf.Ren := ⟨fun | 189 => 113 | 125 => 169 | 257 => 168 | 128 => 200 | 129 => 201 | 294 => 191 | 295 => 192 | 296 => 193 | 297 => 194 | 298 => 195 | 299 => 196 | 216 => 197 | 300 => 198 | 301 => 199 | 328 => 219 | 329 => 220 | 330 => 221 | 331 => 222 | 332 => 223 | 215 => 224 | 343 => 234 | n => n, fun | 0 => 0 | 3 => 3 | 4 => 4 | 5 => 5 | 9 => 9 | 28 => 22 | 46 => 204 | 51 => 197 | 53 => 225 | 131 => 235 | 182 => 238 | 183 => 239 | 218 => 255 | 222 => 110 | 228 => 261 | 229 => 56 | n => n, fun | n => n⟩
theorem lays189 : Go.Proofs.Lays.n189 Tryz.prog lays189_ren := {
  mixed := by kernel_rfl,
  f125 := Tryz.func169.trans (congrArg some (by kernel_rfl)),
  f128 := Tryz.func200.trans (congrArg some (by kernel_rfl)),
  f129 := Tryz.func201.trans (congrArg some (by kernel_rfl)),
  f189 := Tryz.func113.trans (congrArg some (by kernel_rfl)),
  f215 := Tryz.func224.trans (congrArg some (by kernel_rfl)),
  f216 := Tryz.func197.trans (congrArg some (by kernel_rfl)),
  f257 := Tryz.func168.trans (congrArg some (by kernel_rfl)),
  f294 := Tryz.func191.trans (congrArg some (by kernel_rfl)),
  f295 := Tryz.func192.trans (congrArg some (by kernel_rfl)),
  f296 := Tryz.func193.trans (congrArg some (by kernel_rfl)),
  f297 := Tryz.func194.trans (congrArg some (by kernel_rfl)),
  f298 := Tryz.func195.trans (congrArg some (by kernel_rfl)),
  f299 := Tryz.func196.trans (congrArg some (by kernel_rfl)),
  f300 := Tryz.func198.trans (congrArg some (by kernel_rfl)),
  f301 := Tryz.func199.trans (congrArg some (by kernel_rfl)),
  f328 := Tryz.func219.trans (congrArg some (by kernel_rfl)),
  f329 := Tryz.func220.trans (congrArg some (by kernel_rfl)),
  f330 := Tryz.func221.trans (congrArg some (by kernel_rfl)),
  f331 := Tryz.func222.trans (congrArg some (by kernel_rfl)),
  f332 := Tryz.func223.trans (congrArg some (by kernel_rfl)),
  f343 := Tryz.func234.trans (congrArg some (by kernel_rfl)),
  t0 := Tryz.underlying0,
  a0 := Tryz.isAgg0,
  z0 := Tryz.sizeOf0,
  v0 := Tryz.zeroValue0,
  t3 := Tryz.underlying3,
  a3 := Tryz.isAgg3,
  z3 := Tryz.sizeOf3,
  v3 := Tryz.zeroValue3,
  t4 := Tryz.underlying4,
  a4 := Tryz.isAgg4,
  z4 := Tryz.sizeOf4,
  v4 := Tryz.zeroValue4,
  t5 := Tryz.underlying5,
  a5 := Tryz.isAgg5,
  z5 := Tryz.sizeOf5,
  v5 := Tryz.zeroValue5,
  t9 := Tryz.underlying9,
  a9 := Tryz.isAgg9,
  z9 := Tryz.sizeOf9,
  v9 := Tryz.zeroValue9,
  t28 := Tryz.underlying22,
  a28 := Tryz.isAgg22,
  z28 := Tryz.sizeOf22,
  v28 := Tryz.zeroValue22,
  t46 := Tryz.underlying204,
  a46 := Tryz.isAgg204,
  z46 := Tryz.sizeOf204,
  v46 := Tryz.zeroValue204,
  t51 := Tryz.underlying197,
  a51 := Tryz.isAgg197,
  z51 := Tryz.sizeOf197,
  v51 := Tryz.zeroValue197,
  t53 := Tryz.underlying225,
  a53 := Tryz.isAgg225,
  z53 := Tryz.sizeOf225,
  v53 := Tryz.zeroValue225,
  t131 := Tryz.underlying235,
  a131 := Tryz.isAgg235,
  z131 := Tryz.sizeOf235,
  v131 := Tryz.zeroValue235,
  t182 := Tryz.underlying238,
  a182 := Tryz.isAgg238,
  z182 := Tryz.sizeOf238,
  v182 := Tryz.zeroValue238,
  t183 := Tryz.underlying239,
  a183 := Tryz.isAgg239,
  z183 := Tryz.sizeOf239,
  v183 := Tryz.zeroValue239,
  t218 := Tryz.underlying255,
  a218 := Tryz.isAgg255,
  z218 := Tryz.sizeOf255,
  v218 := Tryz.zeroValue255,
  t222 := Tryz.underlying110,
  a222 := Tryz.isAgg110,
  z222 := Tryz.sizeOf110,
  v222 := Tryz.zeroValue110,
  t228 := Tryz.underlying261,
  a228 := Tryz.isAgg261,
  z228 := Tryz.sizeOf261,
  v228 := Tryz.zeroValue261,
  t229 := Tryz.underlying56,
  a229 := Tryz.isAgg56,
  z229 := Tryz.sizeOf56,
  v229 := Tryz.zeroValue56 }
end Go.Proofs
namespace Go.Proofs.Wb
open Go Go.Fw Go.Gx Go.Sb
def sortM (l : List Int) : List Int := l.mergeSort fun x y => decide (x ≤ y)
theorem sortM_len {l : List Int} : (sortM l).length = l.length := List.length_mergeSort _
theorem sortM_eq {l : List Int} : sortM l = sortI l := sortI_ms l
def KB (l : List Int) : Option (List Int) := if l.length ≤ 4611686018427387903 then some (sortI l) else none
theorem put_sort {l s : List Int} {sp : List Value} (hs : s.length = l.length) : Go.Sort.putCells (Value.int .i64) 0 s.toArray (RI.enc l ++ sp).toArray = (RI.enc s ++ sp).toArray := by
  apply Array.toList_inj.1
  apply List.ext_getElem?
  intro k
  unfold Go.Sort.putCells
  rw [Array.getElem?_toList, Array.getElem?_mapIdx]
  simp only [List.getElem?_toArray, Nat.zero_le, true_and, Nat.zero_add, List.size_toArray, Nat.sub_zero]
  by_cases hk : k < s.length
  · rw [List.getElem?_append_left (by rw [RI_len]; omega), List.getElem?_append_left (by rw [RI_len]; omega), RI_get (by omega), RI_get hk]
    simp [hk]
  · rw [List.getElem?_append_right (by rw [RI_len]; omega), List.getElem?_append_right (by rw [RI_len]; omega), RI_len, RI_len, hs]
    have h2 : ¬ k < l.length := by omega
    simp [hk, h2]
theorem Zk (l : List Int) (V : VL) (w : World) (hw : HV w (keys [] [⟨3, RI.enc l, V.sp, V.q, []⟩]) [] [⟨3, RI.enc l, V.sp, V.q, []⟩] [] w) (hv : VOK 1 V.n V.cap (RI.enc l) V.sp V.q) {res : List Int} (hm : KB l = some res) :
    Calls Tryz.prog 113 #[slv V.q V.n V.cap] w (fun en w' => ∃ _ : Unit, en = .returned (.tuple #[]) ∧ VOK 1 V.n V.cap (RI.enc res) V.sp V.q ∧ HV w (keys [] [⟨3, RI.enc l, V.sp, V.q, []⟩]) [] [⟨3, RI.enc res, V.sp, V.q, []⟩] [] w') := by
  unfold KB at hm
  obtain ⟨hl, hm⟩ := ifO hm
  rw [← sortM_eq] at hm
  obtain rfl := Option.some.inj hm
  have hn := vlen RI hv rfl
  obtain ⟨q, n, cap, sp⟩ := V
  simp only at hw hv hn ⊢
  subst hn
  have hv' : VOK 1 l.length cap (RI.enc (sortM l)) sp q := ⟨by rw [RI_len, sortM_len, Nat.mul_one], by have := hv.hcap; rw [List.length_append, RI_len] at this ⊢; rw [sortM_len]; exact this, hv.hle, hv.hmax, hv.hnone, hv.hoff⟩
  cases q with
  | none =>
    have h0 := (hv.hnone rfl).1
    have e : l = [] := List.length_eq_zero_iff.1 h0
    subst e
    refine Calls.mono (Any.slices_Sort_int_none lays189 none cap w) ?_
    rintro en w' ⟨rfl, rfl⟩
    exact ⟨(), rfl, hv', hw⟩
  | some p =>
    have ho := hv.hoff p rfl
    have hb : w.heap[p.1]? = some (.cells (RI.enc l ++ sp).toArray 3 (0, 0)) := hw.hs.ownOK (p.1, _) (by simp [vbl, VR.bl, vown])
    have hlt : p.1 < w.heap.size := (Array.getElem?_eq_some_iff.1 hb).1
    have hH : Go.Sort.Holds (Value.int .i64) w p.1 0 l.toArray := fun j hj => by
      have hj' : j < l.length := by simpa using hj
      refine ⟨?_, by simp [World.frozen?, hb]⟩
      have : (RI.enc l ++ sp)[j]? = some (.int .i64 l[j]!) := by rw [List.getElem?_append_left (by rw [RI_len]; exact hj')]; exact RI_get hj'
      simp [World.cell?, hb, this]
    have e1 : slv (some p) l.length cap = Value.slice (some ⟨p.1, 0, none⟩) l.length cap := by simp [slv, ho]
    rw [e1]
    refine Calls.mono (Any.slices_Sort_int lays189 p.1 0 cap l w hH hlt (by omega)) ?_
    rintro en w' ⟨rfl, k, os, rfl⟩
    refine ⟨(), rfl, hv', ?_⟩
    have hmod : ∀ i : Nat, i < w.heap.size → (Go.Sort.grow (Go.Sort.putRow (Value.int .i64) (Go.Sort.ahead w k) p.1 0 (sortM l).toArray) os).heap[i]? = if i = p.1 then some (.cells (RI.enc (sortM l) ++ sp).toArray 3 (0, 0)) else w.heap[i]? := fun i hi => by
      simp only [Go.Sort.grow, Go.Sort.putRow, Go.Sort.mapBlock, Go.Sort.ahead]
      rw [Array.getElem?_append_left (by simpa using hi), Array.getElem?_modify]
      by_cases h : p.1 = i
      · subst h
        rw [if_pos rfl, if_pos rfl, hb]
        simp [Go.Sort.onCells, put_sort (sp := sp) (sortM_len (l := l))]
      · rw [if_neg h, if_neg (fun e => h e.symm)]
    have hhs := hw.hs
    refine ⟨rfl, rfl, rfl, ?_, fun i hi hM => ?_, fun x hx => ?_, fun x hx => ?_, ?_, fun x hx => by simp at hx, fun x hx => by simp at hx⟩
    · simp [Go.Sort.grow, Go.Sort.putRow, Go.Sort.mapBlock, Go.Sort.ahead]
    · have : i ≠ p.1 := fun e => hM (by simp [keys, vbl, VR.bl, vown, e])
      exact (hmod i hi).trans (if_neg this)
    · simp only [vbl, VR.bl, vown, List.nil_append, List.append_nil, List.mem_singleton] at hx
      subst hx
      exact (hmod p.1 hlt).trans (if_pos rfl)
    · simp only [vbl, VR.bl, vown, List.nil_append, List.append_nil, List.mem_singleton] at hx
      subst hx
      exact .inr (by simp [keys, vbl, VR.bl, vown])
    · simp [vbl, VR.bl, vown]
end Go.Proofs.Wb

