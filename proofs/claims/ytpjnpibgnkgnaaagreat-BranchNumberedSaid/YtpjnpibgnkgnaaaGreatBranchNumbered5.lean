/- What the functions that the law BranchNumbered reaches come to, and why it holds: part 5. -/
import Derived.Test.YtpjnpibgnkgnaaaGreatBranchNumbered4
import Derived.Shelf.Spec.SlicesInsertGrow
namespace Go.Proofs
open Go.Shelf
def laysInsert_ren : Go.Shelf.Ren := ⟨fun | 21 => 149 | 27 => 181 | 28 => 182 | 35 => 204 | 39 => 225 | n => n, fun | 0 => 0 | 3 => 3 | 4 => 4 | 22 => 22 | n => n, fun | n => n⟩
theorem laysInsert : Go.Proofs.Lays2.n21 Tryz.prog laysInsert_ren := {
  mixed := by kernel_rfl,
  f21 := Tryz.func149.trans (congrArg some (by kernel_rfl)),
  f27 := Tryz.func181.trans (congrArg some (by kernel_rfl)),
  f28 := Tryz.func182.trans (congrArg some (by kernel_rfl)),
  f35 := Tryz.func204.trans (congrArg some (by kernel_rfl)),
  f39 := Tryz.func225.trans (congrArg some (by kernel_rfl)),
  t0 := Tryz.underlying0,
  a0 := Tryz.isAgg0,
  z0 := Tryz.sizeOf0,
  v0 := Tryz.zeroValue0,
  t3 := Tryz.underlying3,
  a3 := Tryz.isAgg3,
  z3 := Tryz.sizeOf3,
  v3 := Tryz.zeroValue3,
  t4 := Tryz.underlying4,
  a4 := Tryz.isAgg4,
  z4 := Tryz.sizeOf4,
  v4 := Tryz.zeroValue4,
  t22 := Tryz.underlying22,
  a22 := Tryz.isAgg22,
  z22 := Tryz.sizeOf22,
  v22 := Tryz.zeroValue22,
  i3 := by kernel_rfl }
end Go.Proofs
namespace Go.Gx
open Go Go.Fw
theorem setCells_row (b : Nat) {T : TypeId} {fr : Nat × Nat} : ∀ (vs : List Value) (o : Nat) (w : World) (A X C : List Value), A.length = o → X.length = vs.length → w.heap[b]? = some (.cells (A ++ X ++ C).toArray T fr) → (w.setCells b o vs).heap[b]? = some (.cells (A ++ vs ++ C).toArray T fr)
  | [], o, w, A, X, C, hA, hX, hb => by
    have : X = [] := List.length_eq_zero_iff.1 (by simpa using hX)
    subst this
    exact hb
  | v :: r, o, w, A, [], C, hA, hX, hb => by simp at hX
  | v :: r, o, w, A, x :: X, C, hA, hX, hb => by
    have h1 : (w.setCell ⟨b, o, none⟩ v).heap[b]? = some (.cells ((A ++ [v]) ++ X ++ C).toArray T fr) := by
      unfold World.setCell
      have hlt : b < w.heap.size := (Array.getElem?_eq_some_iff.1 hb).1
      rw [Array.getElem?_modify, if_pos rfl, hb]
      simp only [Option.map_some, Option.isSome_none, Bool.false_eq_true, if_false]
      congr 2
      apply Array.toList_inj.1
      rw [Array.toList_setIfInBounds]
      have e : A ++ x :: X ++ C = A ++ (x :: (X ++ C)) := by simp
      rw [e, List.set_append_right _ _ (by omega), hA]
      simp
    have := setCells_row b r (o + 1) (w.setCell ⟨b, o, none⟩ v) (A ++ [v]) X C (by simp [hA]) (by simpa using hX) h1
    rw [World.setCells, this]
    simp
theorem Ext.setCells (b : Nat) : ∀ (vs : List Value) (o : Nat) (w : World), Ext [b] w (w.setCells b o vs)
  | [], _, _ => Ext.refl _ _
  | v :: r, o, w => by
    have h1 : Ext [b] w (w.setCell ⟨b, o, none⟩ v) := ⟨rfl, rfl, rfl, by simp [World.setCell], fun k _ hk => by
      unfold World.setCell
      rw [Array.getElem?_modify, if_neg (fun e => hk (by simp [← e]))]⟩
    rw [World.setCells]
    exact h1.trans (Ext.setCells b r (o + 1) _)
theorem Ext.drew (w : World) : Ext [] w w.drew := ⟨rfl, rfl, rfl, Nat.le_refl _, fun _ _ _ => rfl⟩
theorem HV.grown {w0 w w' : World} {M : List Nat} {E : TypeId} {xs sp xs' sp' : List Value} {q : Option (Nat × Nat)} {v2 : VR} (h : HV w0 M [] [⟨E, xs, sp, q, []⟩, v2] [] w) (hx : Ext [] w w') (ho : w'.heap[w.heap.size]? = some (.cells (xs' ++ sp').toArray E (0, 0))) : HV w0 M [] [⟨E, xs', sp', some (w.heap.size, 0), []⟩, v2] [] w' := by
  have h0 : HS w0 M (vbl [⟨E, xs, sp, q, []⟩, v2]) [] w := h
  have h1 := h0.push hx (Nat.le_refl _) ho
  refine h1.drop ?_
  simp only [vbl, VR.bl, vown, List.nil_append, List.append_nil, List.singleton_append]
  exact List.Sublist.cons_cons _ (List.sublist_append_right _ _)
end Go.Gx
namespace Go.Proofs.Wb
open Go Go.Fw Go.Gx
theorem RI_map : ∀ l : List Int, RI.enc l = l.map fun n => Value.int .i64 n
  | [] => rfl
  | x :: l => by
    have := RI_map l
    simp only [Row.enc, List.flatMap_cons, List.map_cons] at this ⊢
    rw [this]; rfl
theorem RI_len' (l : List Int) : (RI.enc l).length = l.length := by rw [RI_map, List.length_map]
def z7 (l : List Int) (i : Int) (m : List Int) : Option (List Int) := if 0 ≤ i ∧ i ≤ (l.length : Int) ∧ 0 < m.length ∧ (l.length + m.length) * 8 ≤ 140737488355328 then some (l.take i.toNat ++ m ++ l.drop i.toNat) else none
theorem ins_enc (l m : List Int) (i : Nat) : RI.enc (l.take i ++ m ++ l.drop i) = (RI.enc l).take i ++ RI.enc m ++ (RI.enc l).drop i := by
  rw [RI.enc_append, RI.enc_append, RI_map, RI_map, RI_map, RI_map, List.map_take, List.map_drop]
theorem ins_len {l m : List Int} {i : Nat} (hi : i ≤ l.length) : (l.take i ++ m ++ l.drop i).length = l.length + m.length := by
  simp; omega
theorem int_zero : (Value.int .i64 0).cells.toList = RI.cells 0 := rfl
theorem YU (l : List Int) (i : Int) (m : List Int) (V V2 : VL) (w : World) (hw : HV w (keys [] [⟨3, RI.enc l, V.sp, V.q, []⟩, ⟨3, RI.enc m, V2.sp, V2.q, []⟩]) [] [⟨3, RI.enc l, V.sp, V.q, []⟩, ⟨3, RI.enc m, V2.sp, V2.q, []⟩] [] w) (hv : VOK 1 V.n V.cap (RI.enc l) V.sp V.q) (hv2 : VOK 1 V2.n V2.cap (RI.enc m) V2.sp V2.q) {res : List Int} (hm : z7 l i m = some res) :
    Calls Tryz.prog 149 #[slv V.q V.n V.cap, .int .i64 i, slv V2.q V2.n V2.cap] w (fun en w' => ∃ l' : VL, en = .returned (slv l'.q l'.n l'.cap) ∧ (VOK 1 l'.n l'.cap (RI.enc res) l'.sp l'.q) ∧ HV w (keys [] [⟨3, RI.enc l, V.sp, V.q, []⟩, ⟨3, RI.enc m, V2.sp, V2.q, []⟩]) [] [⟨3, RI.enc res, l'.sp, l'.q, []⟩, ⟨3, RI.enc m, V2.sp, V2.q, []⟩] [] w') := by
  unfold z7 at hm
  obtain ⟨⟨hi0, hi1, hm0, hbig⟩, hm⟩ := ifO hm
  obtain rfl := Option.some.inj hm
  have hn := vlen RI hv rfl
  have hn2 := vlen RI hv2 rfl
  obtain ⟨q, n, cap, sp⟩ := V
  obtain ⟨q2, n2, cap2, sp2⟩ := V2
  simp only at hw hv hn hv2 hn2 ⊢
  subst hn hn2
  obtain ⟨k, rfl⟩ : ∃ k : Nat, i = (k : Int) := ⟨i.toNat, by omega⟩
  rw [Int.toNat_natCast]
  have hk : k ≤ l.length := by omega
  have hrl := ins_len (l := l) (m := m) hk
  have henc := ins_enc l m k
  have hL := RI_len' l
  have hM := RI_len' m
  have hcl : (RI.enc l).length = l.length := hL
  cases q2 with
  | none => have := (hv2.hnone rfl).1; omega
  | some p2 =>
    have ho2 := hv2.hoff p2 rfl
    have hb2 : w.heap[p2.1]? = some (.cells (RI.enc m ++ sp2).toArray 3 (0, 0)) := hw.hs.ownOK (p2.1, _) (HV.vmem (S := []) 1 rfl _ (by simp [VR.bl, vown]))
    have e2 : slv (some p2) m.length cap2 = Value.slice (some ⟨p2.1, 0, none⟩) m.length cap2 := by simp [slv, ho2]
    have hvs : ∀ j v, (RI.enc m)[j]? = some v → w.cell? ⟨p2.1, 0 + j, none⟩ = some v := fun j v hj => by
      have hjl : j < (RI.enc m).length := (List.getElem?_eq_some_iff.1 hj).1
      simp [World.cell?, hb2, List.getElem?_append_left hjl, hj]
    have hgrow : ∀ {w' : World} {G : Nat} {sp' : List Value}, Ext [] w w' → l.length + m.length ≤ G → G ≤ maxLen → sp'.length = G - (l.length + m.length) → w'.heap[w.heap.size]? = some (.cells (RI.enc (l.take k ++ m ++ l.drop k) ++ sp').toArray 3 (0, 0)) → ∃ l' : VL, Value.slice (some ⟨w.heap.size, 0, none⟩) (l.length + m.length) G = slv l'.q l'.n l'.cap ∧ (VOK 1 l'.n l'.cap (RI.enc (l.take k ++ m ++ l.drop k)) l'.sp l'.q) ∧ HV w (keys [] [⟨3, RI.enc l, sp, q, []⟩, ⟨3, RI.enc m, sp2, some p2, []⟩]) [] [⟨3, RI.enc (l.take k ++ m ++ l.drop k), l'.sp, l'.q, []⟩, ⟨3, RI.enc m, sp2, some p2, []⟩] [] w' := fun {w' G sp'} hx hG1 hG2 hsp ho => by
      refine ⟨⟨some (w.heap.size, 0), l.length + m.length, G, sp'⟩, by simp [slv], ⟨by rw [RI_len', hrl, Nat.mul_one], by show (RI.enc _ ++ sp').length = G * 1; rw [List.length_append, RI_len', hrl, hsp, Nat.mul_one]; omega, hG1, hG2, (fun h => by cases h), (fun p hp => by cases hp; rfl)⟩, hw.grown hx ho⟩
    have hz := fun c => zero_rep (R := RI) int_zero c
    cases q with
    | none =>
      have h0 := hv.hnone rfl
      have hl0 : l = [] := List.length_eq_zero_iff.1 h0.1
      subst hl0
      have hk0 : k = 0 := by simpa using hk
      subst hk0
      have hc0 : cap = 0 := h0.2
      subst hc0
      rw [e2, show slv none ([] : List Int).length 0 = Value.slice none 0 0 from rfl]
      refine Calls.mono (Any2.slices_Insert_int_end_grow laysInsert none 0 0 p2.1 0 m.length cap2 [] (RI.enc m) w hm0 (Nat.le_refl _) (by omega) (by simpa using hbig) rfl hM (fun _ => rfl) (fun a ha => by cases ha) hvs (fun v hv' => RI.enc_one _ v hv')) ?_
      rintro en w' ⟨rfl, rfl⟩
      obtain ⟨l', h1, h2, h3⟩ := hgrow (w' := w.drew.alloc (.cells (([] ++ RI.enc m).toArray ++ Builtin.zeroCells (Value.int .i64 0).cells (grownCap w (0 + m.length) 0 3 - (0 + m.length))) 3)) (G := grownCap w (0 + m.length) 0 3) (sp' := RI.enc (List.replicate (grownCap w (0 + m.length) 0 3 - (0 + m.length)) 0)) ((Ext.drew w).trans (Ext.alloc _ _)) (by have := grownCap_ge w (0 + m.length) 0 3; simpa using this) (grownCap_le_maxLen w (0 + m.length) 0 3 (by unfold maxLen; omega)) (by rw [RI_len', List.length_replicate]; simp) (by
        have := heap_alloc_new w.drew (.cells (([] ++ RI.enc m).toArray ++ Builtin.zeroCells (Value.int .i64 0).cells (grownCap w (0 + m.length) 0 3 - (0 + m.length))) 3)
        refine this.trans ?_
        congr 2
        apply Array.toList_inj.1
        simp [hz])
      exact ⟨l', congrArg _ h1, h2, h3⟩
    | some p =>
      have ho := hv.hoff p rfl
      have hb : w.heap[p.1]? = some (.cells (RI.enc l ++ sp).toArray 3 (0, 0)) := hw.hs.ownOK (p.1, _) (HV.vmem (S := []) 0 rfl _ (by simp [VR.bl, vown]))
      have e1 : slv (some p) l.length cap = Value.slice (some ⟨p.1, 0, none⟩) l.length cap := by simp [slv, ho]
      have hcap : (RI.enc l).length + sp.length = cap := by have := hv.hcap; rw [List.length_append, Nat.mul_one] at this; exact this
      have hne : p2.1 ≠ p.1 := by
        have := hw.hs.nodup
        simp only [vbl, VR.bl, vown, List.nil_append, List.append_nil, List.singleton_append, List.map_cons, List.map_nil, List.nodup_cons, List.mem_singleton] at this
        exact fun e => this.1 e.symm
      have hcs : ∀ j v, (RI.enc l)[j]? = some v → w.cell? ⟨p.1, 0 + j, none⟩ = some v := fun j v hj => by
        have hjl : j < (RI.enc l).length := (List.getElem?_eq_some_iff.1 hj).1
        simp [World.cell?, hb, List.getElem?_append_left hjl, hj]
      have hcell : ∀ j, j < cap → (w.cell? ⟨p.1, 0 + j, none⟩).isSome = true := fun j hj => by
        simp only [World.cell?, hb]
        simp [List.getElem?_eq_getElem (show j < (RI.enc l ++ sp).length by rw [List.length_append]; omega)]
      have hfz : ∀ j, w.frozen? ⟨p.1, j, none⟩ = false := fun j => by simp [World.frozen?, hb]
      have hmax : cap ≤ 9223372036854775807 := hv.hmax
      have hroomOK : ∀ {w' : World} {sp' : List Value}, l.length + m.length ≤ cap → sp'.length = cap - (l.length + m.length) → Ext [p.1] w w' → w'.heap[p.1]? = some (.cells (RI.enc (l.take k ++ m ++ l.drop k) ++ sp').toArray 3 (0, 0)) → ∃ l' : VL, Value.slice (some ⟨p.1, 0, none⟩) (l.length + m.length) cap = slv l'.q l'.n l'.cap ∧ (VOK 1 l'.n l'.cap (RI.enc (l.take k ++ m ++ l.drop k)) l'.sp l'.q) ∧ HV w (keys [] [⟨3, RI.enc l, sp, some p, []⟩, ⟨3, RI.enc m, sp2, some p2, []⟩]) [] [⟨3, RI.enc (l.take k ++ m ++ l.drop k), l'.sp, l'.q, []⟩, ⟨3, RI.enc m, sp2, some p2, []⟩] [] w' := fun {w' sp'} hr hsp hx hob =>
        ⟨⟨some p, l.length + m.length, cap, sp'⟩, by simp [slv, ho], ⟨by rw [RI_len', hrl, Nat.mul_one], by show (RI.enc _ ++ sp').length = cap * 1; rw [List.length_append, RI_len', hrl, hsp, Nat.mul_one]; omega, hr, hv.hmax, (fun h => by cases h), (fun p' hp => by cases hp; exact ho)⟩, hw.vupd2 0 rfl hx hob⟩
      rw [e1, e2]
      by_cases hroom : l.length + m.length ≤ cap
      · by_cases hend : k = l.length
        · subst hend
          refine Calls.mono (Any2.slices_Insert_int_end_room laysInsert p.1 0 l.length cap p2.1 0 m.length cap2 (RI.enc m) w hm0 hroom hmax hM (fun j hj => by have := hcell (l.length + j) (by omega); simpa [Nat.add_assoc] using this) (fun j hj => hfz _) hvs (fun v hv' => RI.enc_one _ v hv')) ?_
          rintro en w' ⟨rfl, rfl⟩
          obtain ⟨l', h1, h2, h3⟩ := hroomOK (w' := w.setCells p.1 (0 + l.length) (RI.enc m)) (sp' := sp.drop m.length) hroom (by rw [List.length_drop]; omega) (Ext.setCells _ _ _ _) (by
            have := setCells_row p.1 (T := 3) (fr := (0, 0)) (RI.enc m) (0 + l.length) w (RI.enc l) (sp.take m.length) (sp.drop m.length) (by omega) (by rw [List.length_take]; omega) (by rw [List.append_assoc, List.take_append_drop]; exact hb)
            rw [this, henc]
            simp [← hL])
          exact ⟨l', h1 ▸ rfl, h2, h3⟩
        · have hlt : k < l.length := by omega
          refine Calls.mono (Any2.slices_Insert_int_shift laysInsert p.1 0 l.length cap k p2.1 0 m.length cap2 (RI.enc l) (RI.enc m) w hlt hm0 hroom hmax hne hL hM hcs (fun j hj => hcell j (by omega)) (fun j hj => hfz _) hvs (fun v hv' => RI.enc_one _ v hv') (fun v hv' => RI.enc_one _ v hv') 3 3 (RI.enc m ++ sp2).length (RI.enc l ++ sp).length (by simp [World.shape?, hb2]) (by simp [World.shape?, hb]) (by rw [List.length_append]; omega) (by simp [World.frozen?, hb2]) (by simp [World.frozen?, hb2])) ?_
          rintro en w' ⟨rfl, rfl⟩
          have hlist : RI.enc l ++ sp = ((RI.enc l ++ sp).take (k + m.length)) ++ (((RI.enc l ++ sp).drop (k + m.length)).take (l.length - k)) ++ (RI.enc l ++ sp).drop (l.length + m.length) := by
            rw [List.append_assoc]
            conv => lhs; rw [← List.take_append_drop (k + m.length) (RI.enc l ++ sp)]
            congr 1
            conv => lhs; rw [← List.take_append_drop (l.length - k) ((RI.enc l ++ sp).drop (k + m.length))]
            rw [List.drop_drop, show k + m.length + (l.length - k) = l.length + m.length by omega]
          obtain ⟨l', h1, h2, h3⟩ := hroomOK (w' := (w.drew.setCells p.1 (0 + (k + m.length)) ((RI.enc l).drop k)).setCells p.1 (0 + k) (RI.enc m)) (sp' := (RI.enc l ++ sp).drop (l.length + m.length)) hroom (by rw [List.length_drop, List.length_append]; omega) ((((Ext.drew w).mono (by simp)).trans (Ext.setCells _ _ _ _)).trans (Ext.setCells _ _ _ _)) (by
            have s1 := setCells_row p.1 (T := 3) (fr := (0, 0)) ((RI.enc l).drop k) (0 + (k + m.length)) w.drew ((RI.enc l ++ sp).take (k + m.length)) (((RI.enc l ++ sp).drop (k + m.length)).take (l.length - k)) ((RI.enc l ++ sp).drop (l.length + m.length)) (by rw [List.length_take, List.length_append]; omega) (by rw [List.length_take, List.length_drop, List.length_drop, List.length_append]; omega) (by rw [← hlist]; exact hb)
            have hsplit : (RI.enc l ++ sp).take (k + m.length) = (RI.enc l).take k ++ ((RI.enc l ++ sp).drop k).take m.length := by
              rw [List.take_add, List.take_append_of_le_length (by omega)]
            rw [hsplit, List.append_assoc, List.append_assoc] at s1
            have s2 := setCells_row p.1 (T := 3) (fr := (0, 0)) (RI.enc m) (0 + k) _ ((RI.enc l).take k) (((RI.enc l ++ sp).drop k).take m.length) ((RI.enc l).drop k ++ (RI.enc l ++ sp).drop (l.length + m.length)) (by rw [List.length_take]; omega) (by rw [List.length_take, List.length_drop, List.length_append]; omega) (by rw [List.append_assoc]; exact s1)
            rw [s2, henc]
            simp)
          exact ⟨l', h1 ▸ rfl, h2, h3⟩
      · by_cases hend : k = l.length
        · subst hend
          refine Calls.mono (Any2.slices_Insert_int_end_grow laysInsert (some ⟨p.1, 0, none⟩) l.length cap p2.1 0 m.length cap2 (RI.enc l) (RI.enc m) w hm0 hv.hle (by omega) hbig hL hM (fun h => by cases h) (fun a ha j v hj => by cases ha; have := hcs j v hj; rw [addr_add]; exact this) hvs (fun v hv' => RI.enc_one _ v hv')) ?_
          rintro en w' ⟨rfl, rfl⟩
          obtain ⟨l', h1, h2, h3⟩ := hgrow (w' := w.drew.alloc (.cells ((RI.enc l ++ RI.enc m).toArray ++ Builtin.zeroCells (Value.int .i64 0).cells (grownCap w (l.length + m.length) cap 3 - (l.length + m.length))) 3)) (G := grownCap w (l.length + m.length) cap 3) (sp' := RI.enc (List.replicate (grownCap w (l.length + m.length) cap 3 - (l.length + m.length)) 0)) ((Ext.drew w).trans (Ext.alloc _ _)) (grownCap_ge w (l.length + m.length) cap 3) (grownCap_le_maxLen w (l.length + m.length) cap 3 (by unfold maxLen; omega)) (by rw [RI_len', List.length_replicate]) (by
            have := heap_alloc_new w.drew (.cells ((RI.enc l ++ RI.enc m).toArray ++ Builtin.zeroCells (Value.int .i64 0).cells (grownCap w (l.length + m.length) cap 3 - (l.length + m.length))) 3)
            refine this.trans ?_
            congr 2
            apply Array.toList_inj.1
            rw [henc]
            simp [hz, ← hL])
          exact ⟨l', h1 ▸ rfl, h2, h3⟩
        · have hlt : k < l.length := by omega
          refine Calls.mono (Any2.slices_Insert_int_grow laysInsert p.1 0 l.length cap k p2.1 0 m.length cap2 (RI.enc l) (RI.enc m) w hlt hm0 hv.hle (by omega) hbig hL hM hcs hvs (fun v hv' => RI.enc_one _ v hv') (fun v hv' => RI.enc_one _ v hv')) ?_
          rintro en w' ⟨rfl, rfl⟩
          obtain ⟨G, hG⟩ : ∃ G, grownCap w (l.length + m.length) cap 3 = G := ⟨_, rfl⟩
          have hG1 : l.length + m.length ≤ G := by rw [← hG]; exact grownCap_ge w (l.length + m.length) cap 3
          have hG2 : G ≤ maxLen := by rw [← hG]; exact grownCap_le_maxLen w (l.length + m.length) cap 3 (by unfold maxLen; omega)
          have hrep : RI.enc (List.replicate (l.length + m.length - k) 0) = RI.enc (List.replicate m.length 0) ++ RI.enc (List.replicate (l.length - k) 0) := by
            rw [← RI.enc_append, List.replicate_append_replicate, show m.length + (l.length - k) = l.length + m.length - k by omega]
          have hrow : (((RI.enc l).take k).toArray ++ Builtin.zeroCells (Value.int .i64 0).cells (l.length + m.length - k) ++ Builtin.zeroCells (Value.int .i64 0).cells (G - (l.length + m.length))) = ((RI.enc l).take k ++ RI.enc (List.replicate m.length 0) ++ (RI.enc (List.replicate (l.length - k) 0) ++ RI.enc (List.replicate (G - (l.length + m.length)) 0))).toArray := by
            apply Array.toList_inj.1
            simp [hz, hrep]
          obtain ⟨l', h1, h2, h3⟩ := hgrow (w' := (((w.alloc (.cells (((RI.enc l).take k).toArray ++ Builtin.zeroCells (Value.int .i64 0).cells (l.length + m.length - k) ++ Builtin.zeroCells (Value.int .i64 0).cells (G - (l.length + m.length))) 3)).drew.setCells w.heap.size k (RI.enc m)).drew).setCells w.heap.size (k + m.length) ((RI.enc l).drop k)) (G := G) (sp' := RI.enc (List.replicate (G - (l.length + m.length)) 0)) (by
            have a1 := Ext.alloc w (.cells (((RI.enc l).take k).toArray ++ Builtin.zeroCells (Value.int .i64 0).cells (l.length + m.length - k) ++ Builtin.zeroCells (Value.int .i64 0).cells (G - (l.length + m.length))) 3)
            have a2 := (((a1.trans (Ext.drew _)).mono (M' := [w.heap.size]) (by simp)).trans (Ext.setCells w.heap.size (RI.enc m) k _)).trans (((Ext.drew _).mono (M' := [w.heap.size]) (by simp)).trans (Ext.setCells w.heap.size ((RI.enc l).drop k) (k + m.length) _))
            exact a2.of_new (fun j hj => .inr (by simp at hj; omega))) hG1 hG2 (by rw [RI_len', List.length_replicate]) (by
            have s0 := heap_alloc_new w (.cells (((RI.enc l).take k).toArray ++ Builtin.zeroCells (Value.int .i64 0).cells (l.length + m.length - k) ++ Builtin.zeroCells (Value.int .i64 0).cells (G - (l.length + m.length))) 3)
            rw [hrow] at s0
            have s1 := setCells_row w.heap.size (T := 3) (fr := (0, 0)) (RI.enc m) k (w.alloc (.cells ((RI.enc l).take k ++ RI.enc (List.replicate m.length 0) ++ (RI.enc (List.replicate (l.length - k) 0) ++ RI.enc (List.replicate (G - (l.length + m.length)) 0))).toArray 3)).drew ((RI.enc l).take k) (RI.enc (List.replicate m.length 0)) (RI.enc (List.replicate (l.length - k) 0) ++ RI.enc (List.replicate (G - (l.length + m.length)) 0)) (by rw [List.length_take]; omega) (by rw [RI_len', RI_len', List.length_replicate]) s0
            have s2 := setCells_row w.heap.size (T := 3) (fr := (0, 0)) ((RI.enc l).drop k) (k + m.length) (World.drew ((w.alloc _).drew.setCells w.heap.size k (RI.enc m))) ((RI.enc l).take k ++ RI.enc m) (RI.enc (List.replicate (l.length - k) 0)) (RI.enc (List.replicate (G - (l.length + m.length)) 0)) (by rw [List.length_append, List.length_take]; omega) (by rw [RI_len', List.length_replicate, List.length_drop]; omega) (by rw [List.append_assoc]; exact s1)
            rw [hrow, henc]
            exact s2)
          subst hG
          exact ⟨l', h1 ▸ rfl, h2, h3⟩
end Go.Proofs.Wb

namespace Go.Gx
open Go Go.Fw
section
variable {P : Program}
inductive EqA (P : Program) (xs ys : Array Value) : List Field → Bool → Prop
  | nil : EqA P xs ys [] true
  | int {f : Field} {fs : List Field} {k : IntKind} {a c : Int} {b : Bool} (hn : (f.name == "_") = false) (hg : ∀ w, (isAgg f.type).run P w = .ok false w) (hu : ∃ k', P.underlying f.type = some (.int k')) (hx : xs[f.offset]? = some (.int k a)) (hy : ys[f.offset]? = some (.int k c)) (h : EqA P xs ys fs b) : EqA P xs ys (f :: fs) (decide (a = c) && b)
  | arr {f : Field} {fs : List Field} {us vs : List Int} {k e : Nat} {b : Bool} (hn : (f.name == "_") = false) (hg : ∀ w, (isAgg f.type).run P w = .ok true w) (hz : ∀ w, (sizeOf f.type).run P w = .ok k w) (hlx : us.length = k) (hly : vs.length = k) (hx : (xs.toList.drop f.offset).take k = ints us) (hy : (ys.toList.drop f.offset).take k = ints vs)
      (hu : P.underlying f.type = some (.array k e)) (hze : ∀ w, (sizeOf e).run P w = .ok 1 w) (hge : ∀ w, (isAgg e).run P w = .ok false w) (hue : P.underlying e = some (.int .i64)) (h : EqA P xs ys fs b) : EqA P xs ys (f :: fs) (decide (us = vs) && b)
theorem EqA.run {xs ys : Array Value} {fs : List Field} {b : Bool} (h : EqA P xs ys fs b) (d : Nat) (w : World) : (Op.eqFields (d + 2) xs ys fs).run P w = .ok b w := by
  induction h with
  | nil => rfl
  | @int f fs k a c b hn hg hu hx hy h ih =>
    obtain ⟨k', hu⟩ := hu
    have hn' : f.name ≠ "_" := by simpa using hn
    simp only [Op.eqFields, hn', ne_eq, not_false_eq_true, if_true, Sem.run_bind, part_one (hg w) hx, part_one (hg w) hy, Result.andThen_ok, Go.run_equalIn_int w (d + 1) f.type k k' a c hu, Sem.run_ite]
    by_cases he : a = c
    · subst he; simp [ih]
    · simp [he]
  | @arr f fs us vs k e b hn hg hz hlx hly hx hy hu hze hge hue h ih =>
    have hn' : f.name ≠ "_" := by simpa using hn
    have l1 : (ints us).length = k := by simp [ints, hlx]
    have l2 : (ints vs).length = k := by simp [ints, hly]
    have he := equal_ints_at (P := P) (d := d) hu hze hge hue hlx hly w
    simp only [Op.eqFields, hn', ne_eq, not_false_eq_true, if_true, Sem.run_bind, part_agg (us := ints us) (hg w) (by rw [l1]; exact hz w) (by rw [l1]; exact hx), part_agg (us := ints vs) (hg w) (by rw [l2]; exact hz w) (by rw [l2]; exact hy), Result.andThen_ok, he, Sem.run_ite]
    by_cases hq : us = vs
    · subst hq; simp [ih]
    · simp [hq]
theorem equal_structA {t : TypeId} {fs : Array Field} {xs ys : Array Value} {b : Bool} (hu : P.underlying t = some (.struct fs)) (hp : P.stoodInHeld t = false) (h : EqA P xs ys fs.toList b) (w : World) : (Op.equalIn 10000 t (.agg xs) (.agg ys)).run P w = .ok b w := by
  have hf : P.fieldsOf t = fs := by simp [Program.fieldsOf, hu]
  rw [show (10000 : Nat) = 9999 + 1 from rfl, run_equalIn_agg w 9999 t xs ys (by rw [hf]; exact hu) hp, hf]
  exact h.run 9997 w
inductive CkA (P : Program) (xs : Array Value) : List Field → Prop
  | nil : CkA P xs []
  | int {f : Field} {fs : List Field} {κ k : IntKind} {n : Int} (hg : ∀ w, (isAgg f.type).run P w = .ok false w) (hu : ∀ w, (underlying f.type).run P w = .ok (.int κ) w) (hv : xs[f.offset]? = some (.int k n)) (h : CkA P xs fs) : CkA P xs (f :: fs)
  | arr {f : Field} {fs : List Field} {us : List Int} {k e : Nat} (hg : ∀ w, (isAgg f.type).run P w = .ok true w) (hz : ∀ w, (sizeOf f.type).run P w = .ok k w) (hl : us.length = k) (hx : (xs.toList.drop f.offset).take k = ints us) (hu : ∀ w, (underlying f.type).run P w = .ok (.array k e) w)
      (hze : ∀ w, (sizeOf e).run P w = .ok 1 w) (hge : ∀ w, (isAgg e).run P w = .ok false w) (hue : ∀ w, (underlying e).run P w = .ok (.int .i64) w) (h : CkA P xs fs) : CkA P xs (f :: fs)
theorem checkKey_arr {b : Bool} {d : Nat} {t e : TypeId} {k : Nat} {us : List Int} (hl : us.length = k) (hu : ∀ w, (underlying t).run P w = .ok (.array k e) w) (hze : ∀ w, (sizeOf e).run P w = .ok 1 w) (hge : ∀ w, (isAgg e).run P w = .ok false w) (hue : ∀ w, (underlying e).run P w = .ok (.int .i64) w) (w : World) :
    (Instr.checkKey b (d + 2) t (.agg (ints us).toArray)).run P w = .ok () w := by
  rw [Instr.checkKey]
  simp only [Sem.run_bind, hu, Result.andThen_ok]
  simp only [Std.Legacy.Range.forIn_eq_forIn_range', Std.Legacy.Range.size, Nat.sub_zero, Nat.add_one_sub_one, Nat.div_one]
  have gen : ∃ j m, j + m = k ∧ List.range' 0 k = List.range' j m := ⟨0, k, by omega, rfl⟩
  obtain ⟨j, m, hj, h1⟩ := gen
  rw [h1]
  clear h1
  induction m generalizing j with
  | zero => simp
  | succ m ih =>
    have hja : j < us.length := by omega
    have h1 : (ints us).toArray[j * 1]? = some (.int .i64 us[j]) := by simp [ints, hja]
    simp only [List.range'_succ, List.forIn_cons, Sem.run_bind, hze, Result.andThen_ok, part_one (hge w) h1, checkKey_int (hue w), Sem.run_pure]
    exact ih (j + 1) (by omega)
theorem checkKey_structA {b : Bool} {d : Nat} {t : TypeId} {fs : Array Field} {xs : Array Value} (hu : ∀ w, (underlying t).run P w = .ok (.struct fs) w) (h : CkA P xs fs.toList) (w : World) : (Instr.checkKey b (d + 3) t (.agg xs)).run P w = .ok () w := by
  rw [Instr.checkKey]
  simp only [Sem.run_bind, hu, Result.andThen_ok]
  rw [← Array.forIn_toList]
  generalize fs.toList = l at h
  induction h with
  | nil => simp
  | @int f l κ k n hg hu' hv _ ih =>
    simp only [List.forIn_cons, Sem.run_bind]
    by_cases hn : f.name = "_"
    · simp only [hn, ne_eq, not_true, if_false, Sem.run_pure, Result.andThen_ok]
      exact ih
    · simp only [ne_eq, hn, not_false_iff, if_true, Sem.run_bind, part_one (hg w) hv, Result.andThen_ok, checkKey_int (hu' w), Sem.run_pure]
      exact ih
  | @arr f l us k e hg hz hl hx hu' hze hge hue _ ih =>
    have l1 : (ints us).length = k := by simp [ints, hl]
    simp only [List.forIn_cons, Sem.run_bind]
    by_cases hn : f.name = "_"
    · simp only [hn, ne_eq, not_true, if_false, Sem.run_pure, Result.andThen_ok]
      exact ih
    · simp only [ne_eq, hn, not_false_iff, if_true, Sem.run_bind, part_agg (us := ints us) (hg w) (by rw [l1]; exact hz w) (by rw [l1]; exact hx), Result.andThen_ok, checkKey_arr hl hu' hze hge hue w, Sem.run_pure]
      exact ih
theorem KeyOK.rowA {α : Type} [DecidableEq α] {K : TypeId} {fs : Array Field} (R : Row α) (hu : ∀ w, (underlying K).run P w = .ok (.struct fs) w) (hc : ∀ x, CkA P (R.cells x).toArray fs.toList)
    (heq : ∀ (x y : α) (w : World), (Op.equalIn 10000 K (kR R x) (kR R y)).run P w = .ok (decide (x = y)) w) (hs : ∀ x, ((R.cells x).zip (R.cells x)).all (fun p => Instr.sameBits 9999 p.1 p.2) = true) : KeyOK P K (kR R) where
  chk b k w := checkKey_structA (d := 9997) hu (hc k) w
  fnd ve l j k w := by
    simp only [Instr.findKey, Sem.run_bind, hu, Result.andThen_ok, findNow_struct]
    cases l with
    | nil => simp [afind]
    | cons p r =>
      simp only
      exact findAsking_eq heq ve k w (p :: r) j 0
  sta k w := by
    have : Instr.sameBits 10000 (kR R k) (kR R k) = true := by
      rw [show (10000 : Nat) = 9999 + 1 from rfl, kR, Instr.sameBits]
      simpa using hs k
    simp [Instr.keyThatStays, this]
end
end Go.Gx
namespace Go.Gx
open Go Go.Fw
section
variable {P : Program} {e : EnvL} {w : World} {dst : Option Nat} {ty : TypeId} {pos : String} {after : Array Edge} {g : Option (Nat × Bool)}
theorem ja1 {l : List Int} {i x : Int} (h : ix l i = some x) {t E : TypeId} {xo io : Operand} {len : Nat} {k : IntKind} (hl : l.length = len) (hu : (underlying t).run P w = .ok (.array len E) w) (hz : (sizeOf E).run P w = .ok 1 w) (hg : (isAgg E).run P w = .ok false w)
    (hx : ev e xo = some (.agg (ints l).toArray)) (hi : ev e io = some (.int k i)) : Val P e w ⟨dst, .index t xo io, ty, pos, after, g⟩ (.int .i64 x) := fun n ds a he => by
  obtain ⟨h1, h2, h3⟩ := ixO h
  have hp : (ints l).toArray[i.toNat * 1]? = some (.int .i64 x) := by simp [ints, h3]
  have hi' : 0 ≤ i ∧ i < (len : Int) := by omega
  have key : (Instr.index t (.agg (ints l).toArray) (.int k i)).run P w = .ok (.int .i64 x) w := by
    simp only [Instr.index, asIntOf, Sem.run_bind, Sem.run_pure, Result.andThen_ok, hu, if_pos hi', hz, part_one hg hp]
  simp [execOp, he.eval hx, he.eval hi, key]
end
end Go.Gx

namespace Go.Sb
def cGet (c : Cells) (i : Nat) : Int := match i with
  | 0 => c.c0
  | 1 => c.c1
  | _ => c.c2
def cSet (c : Cells) (i : Nat) (x : Int) : Cells := match i with
  | 0 => ⟨x, c.c1, c.c2⟩
  | 1 => ⟨c.c0, x, c.c2⟩
  | _ => ⟨c.c0, c.c1, x⟩
def okN (reach : List Int) (a : Cells) (pre : List Int) (x : Int) : Bool :=
  decide (cGet a pre.length - reach.getD (cGet a pre.length).toNat 0 ≤ x) && decide (x ≤ cGet a pre.length + reach.getD (cGet a pre.length).toNat 0) && decide (∀ y, pre.getLast? = some y → y < x)
def putL (cells : Nat) (reach : List Int) (a : Cells) : Nat → List Int → List (List Int)
  | 0, pre => [pre]
  | m + 1, pre => (List.range cells).flatMap fun (x : Nat) => if okN reach a pre (x : Int) = true then putL cells reach a m (pre ++ [(x : Int)]) else []
def mkCells (l : List Int) : Cells := ⟨l.getD 0 (-1), l.getD 1 (-1), l.getD 2 (-1)⟩
def nextL (cells : Int) (reach : List Int) (nf : Int) (s : State) : List State := (putL cells.toNat reach s.at_ nf.toNat []).map fun l => ⟨s.after + 1, mkCells l⟩
def nextOK (cells : Int) (reach : List Int) (nf : Int) (s : State) : Prop :=
  nf ≤ 3 ∧ cells ≤ 1000 ∧ -1000 ≤ s.after ∧ s.after ≤ 1000 ∧ ∀ i : Nat, i < nf.toNat → 0 ≤ cGet s.at_ i ∧ cGet s.at_ i < reach.length ∧ cGet s.at_ i ≤ 1000 ∧ 0 ≤ reach.getD (cGet s.at_ i).toNat 0 ∧ reach.getD (cGet s.at_ i).toNat 0 ≤ 1000
instance (cells : Int) (reach : List Int) (nf : Int) (s : State) : Decidable (nextOK cells reach nf s) := by unfold nextOK; infer_instance
def Seg {α : Type} (l : List α) (j : Nat) (m : List α) : Prop := ∃ a b, l = a ++ (m ++ b) ∧ a.length = j
theorem Seg.left {α : Type} {l m m' : List α} {j : Nat} (h : Seg l j (m ++ m')) : Seg l j m := by
  obtain ⟨a, b, h1, h2⟩ := h
  exact ⟨a, m' ++ b, by rw [h1]; simp, h2⟩
theorem Seg.right {α : Type} {l m m' : List α} {j : Nat} (h : Seg l j (m ++ m')) : Seg l (j + m.length) m' := by
  obtain ⟨a, b, h1, h2⟩ := h
  exact ⟨a ++ m, b, by rw [h1]; simp, by simp [h2]⟩
theorem Seg.one {α : Type} {l : List α} {j : Nat} {x : α} (h : Seg l j [x]) : l[j]? = some x := by
  obtain ⟨a, b, h1, h2⟩ := h
  subst h1; subst h2
  simp
theorem Seg.all {α : Type} (l : List α) : Seg l 0 l := ⟨[], [], by simp, rfl⟩
def putB (cells : Nat) (reach : List Int) (a : Cells) (m : Nat) (pre : List Int) (k : Nat) : List (List Int) := (List.range k).flatMap fun (x : Nat) => if okN reach a pre (x : Int) = true then putL cells reach a m (pre ++ [(x : Int)]) else []
theorem putB_succ {cells : Nat} {reach : List Int} {a : Cells} {m : Nat} {pre : List Int} {k : Nat} : putB cells reach a m pre (k + 1) = putB cells reach a m pre k ++ (if okN reach a pre (k : Int) = true then putL cells reach a m (pre ++ [(k : Int)]) else []) := by
  unfold putB
  rw [List.range_succ, List.flatMap_append]
  simp
theorem putB_all {cells : Nat} {reach : List Int} {a : Cells} {m : Nat} {pre : List Int} : putB cells reach a m pre cells = putL cells reach a (m + 1) pre := rfl
theorem putB_pre {cells : Nat} {reach : List Int} {a : Cells} {m : Nat} {pre : List Int} {k n : Nat} (h : k ≤ n) : ∃ r, putB cells reach a m pre n = putB cells reach a m pre k ++ r := by
  induction n with
  | zero => obtain rfl : k = 0 := by omega
            exact ⟨[], by simp⟩
  | succ n ih =>
    by_cases hk : k = n + 1
    · subst hk; exact ⟨[], by simp⟩
    · obtain ⟨r, hr⟩ := ih (by omega)
      rw [putB_succ, hr, List.append_assoc]
      exact ⟨_, rfl⟩
def ToOK (nf : Nat) (pre : List Int) (c : Cells) : Prop := (∀ i, i < pre.length → cGet c i = pre.getD i (-1)) ∧ (∀ i, nf ≤ i → i < 3 → cGet c i = -1)
theorem ToOK.full {nf : Nat} {pre : List Int} {c : Cells} (h : ToOK nf pre c) (hn : nf ≤ 3) (hl : pre.length = nf) : c = mkCells pre := by
  obtain ⟨h1, h2⟩ := h
  have h3 : ∀ i, i < 3 → cGet c i = pre.getD i (-1) := by
    intro i hi
    by_cases hp : i < pre.length
    · exact h1 i hp
    · rw [h2 i (by omega) hi, List.getD_eq_getElem?_getD, List.getElem?_eq_none (by omega)]; rfl
  have e0 := h3 0 (by omega)
  have e1 := h3 1 (by omega)
  have e2 := h3 2 (by omega)
  cases c
  simp only [cGet] at e0 e1 e2
  simp only [mkCells]
  rw [e0, e1, e2]
theorem cGet_set {c : Cells} {i j : Nat} {x : Int} (hi : i < 3) (hj : j < 3) : cGet (cSet c i x) j = if i = j then x else cGet c j := by
  rcases c with ⟨c0, c1, c2⟩
  have h1 : i = 0 ∨ i = 1 ∨ i = 2 := by omega
  have h2 : j = 0 ∨ j = 1 ∨ j = 2 := by omega
  rcases h1 with rfl | rfl | rfl <;> rcases h2 with rfl | rfl | rfl <;> simp [cSet, cGet]
theorem ToOK.set {nf : Nat} {pre : List Int} {c : Cells} {x : Int} (h : ToOK nf pre c) (hn : nf ≤ 3) (hl : pre.length < nf) : ToOK nf (pre ++ [x]) (cSet c pre.length x) := by
  obtain ⟨h1, h2⟩ := h
  constructor
  · intro i hi
    simp only [List.length_append, List.length_cons, List.length_nil] at hi
    rw [cGet_set (by omega) (by omega)]
    by_cases hp : pre.length = i
    · subst hp; simp
    · rw [if_neg hp, h1 i (by omega)]
      simp only [List.getD_eq_getElem?_getD]
      rw [List.getElem?_append_left (by omega)]
  · intro i hi h3
    rw [cGet_set (by omega) h3, if_neg (by omega)]
    exact h2 i hi h3
theorem ToOK.mono {nf : Nat} {pre : List Int} {c : Cells} {x : Int} (h : ToOK nf (pre ++ [x]) c) : ToOK nf pre c := by
  obtain ⟨h1, h2⟩ := h
  refine ⟨fun i hi => ?_, h2⟩
  rw [h1 i (by simp; omega)]
  simp only [List.getD_eq_getElem?_getD]
  rw [List.getElem?_append_left hi]
theorem ToOK.start {nf : Nat} : ToOK nf [] ⟨-1, -1, -1⟩ := ⟨fun i hi => absurd hi (by simp), fun i _ h => by
  have : i = 0 ∨ i = 1 ∨ i = 2 := by omega
  rcases this with rfl | rfl | rfl <;> rfl⟩
theorem ToOK.last {nf : Nat} {pre : List Int} {c : Cells} (h : ToOK nf pre c) (hp : 0 < pre.length) : pre.getLast? = some (cGet c (pre.length - 1)) := by
  rw [h.1 (pre.length - 1) (by omega), List.getLast?_eq_getElem?, List.getD_eq_getElem?_getD]
  rw [List.getElem?_eq_getElem (by omega)]
  rfl
end Go.Sb

namespace Go.Proofs.Wb
open Go Go.Fw Go.Gx Go.Sb
set_option linter.unusedVariables false
set_option maxHeartbeats 4000000
set_option maxRecDepth 100000
def jaB (n0 : Int) (lo1 : Int) (hi2 : Int) : Option Bool :=
 (if lo1 ≤ n0 then
 (some (decide (n0 ≤ hi2))) else
 (some false)).bind fun o =>
 some o
set_option maxRecDepth 100000 in
set_option maxHeartbeats 4000000 in
theorem jbf (n0 : Int) (lo1 : Int) (hi2 : Int)  (w : World) (hw : HV w (keys [] []) [] [] [] w)  {res : Bool} (hm : jaB n0 lo1 hi2 = some res) :
    Calls Tryz.prog 106 #[.int .i64 n0, .int .i64 lo1, .int .i64 hi2] w (fun en w' => ∃ l : Unit, en = .returned (.bool res) ∧ (True) ∧ HV w (keys [] []) [] [] [] w') := by
  unfold jaB at hm
  refine YN (args := [.int .i64 n0, .int .i64 lo1, .int .i64 hi2]) Tryz.func106 rfl Tryz.ntmps106 rfl (e := [(0, _), (1, _), (2, _)]) rfl (H := HV w (keys [] []) [] [] []) hw ?_
  refine ji ?_
  refine je ?_
  refine jc rfl rfl rfl (fun _ _ => kM rfl) ?_
  refine jx ?_
  refine ja ?_
  refine ji ?_
  obtain ⟨o, h1, h2⟩ := bindO hm
  refine j3 (ι := Unit) (fun l => True) (fun l => [(6, .bool o)]) (fun l => []) (fun l => []) ?_ ?_
  ·replace hm := h1
   refine je ?_
   refine jc rfl rfl rfl (fun _ _ => k8 rfl) ?_
   refine jc rfl rfl rfl (fun _ _ => k8 rfl) ?_
   refine jc rfl rfl rfl (fun _ _ => YI rfl rfl) ?_
   refine jc rfl rfl rfl (fun _ _ => k8 rfl) ?_
   refine j4 10 rfl (fun h3 => ?_) (fun h3 => ?_)
   ·replace hm := ifT (of_decide_eq_true h3) hm
    refine jb rfl rfl ?_
    refine jc rfl rfl rfl (fun _ _ => k8 rfl) ?_
    refine jb rfl rfl ?_
    refine jc rfl rfl rfl (fun _ _ => k8 rfl) ?_
    refine jb rfl rfl ?_
    refine jc rfl rfl rfl (fun _ _ => Z1 rfl rfl) ?_
    refine jc rfl rfl rfl (fun _ _ => Qi rfl rfl) ?_
    refine jc rfl rfl rfl (fun _ _ => kM rfl) ?_
    refine jx ?_
    obtain rfl := Option.some.inj hm
    exact jk () (trivial) ((.cons rfl .nil)) (fun w hh => hh)
   ·replace hm := ifF (of_decide_eq_false h3) hm
    refine ZE rfl rfl rfl rfl rfl rfl ?_
    refine ZE rfl rfl rfl rfl rfl rfl ?_
    refine ZE rfl rfl rfl rfl rfl rfl ?_
    refine jc rfl rfl rfl (fun _ _ => Kb rfl rfl) ?_
    refine jc rfl rfl rfl (fun _ _ => kM rfl) ?_
    refine jx ?_
    obtain rfl := Option.some.inj hm
    exact jk () (trivial) ((.cons rfl .nil)) (fun w hh => hh)
  ·intro l hj
   replace hm := h2
   refine ja ?_
   refine jv ?_
   obtain rfl := Option.some.inj hm
   refine jm rfl (fun w hh => (.tmp rfl .nil)) (fun w hh => ⟨(), rfl, trivial, hh⟩)
structure Z4 where
  out3_c0 : Int
  out3_c1 : Int
  out3_c2 : Int
structure Y1 where
  t5 : Int
  out3_c0 : Int
  out3_c1 : Int
  out3_c2 : Int
structure Z9 where
  out3_c0 : Int
  out3_c1 : Int
  out3_c2 : Int
def Z5 (l0 : (List Int)) (s : Y1) : Option (Y1 ⊕ Z4) :=
 if s.t5 < 3 then
 (((ix [s.out3_c0, s.out3_c1, s.out3_c2] s.t5).bind fun t9 =>
 (some (set3 s.out3_c0 s.out3_c1 s.out3_c2 s.t5 (-1))).bind fun out3 =>
 if s.t5 < (l0.length : Int) then
 ((ix l0 s.t5).bind fun t17 =>
 (ix [out3.1, out3.2.1, out3.2.2] s.t5).bind fun t19 =>
 (some (set3 out3.1 out3.2.1 out3.2.2 s.t5 t17)).bind fun out3_1 =>
 some (⟨out3_1.1, out3_1.2.1, out3_1.2.2⟩ : Z9)) else
 (some (⟨out3.1, out3.2.1, out3.2.2⟩ : Z9))).bind fun o_1 =>
 (addc s.t5 1).bind fun t20 =>
 some (.inl (⟨t20, o_1.out3_c0, o_1.out3_c1, o_1.out3_c2⟩ : Y1))) else
 (some (.inr (⟨s.out3_c0, s.out3_c1, s.out3_c2⟩ : Z4)))
def jaN (l0 : (List Int)) : Option Cells :=
 (iterM FU (Z5 l0) (⟨0, 0, 0, 0⟩ : Y1)).bind fun o =>
 some (⟨o.out3_c0, o.out3_c1, o.out3_c2⟩ : Cells)
set_option maxRecDepth 100000 in
set_option maxHeartbeats 4000000 in
theorem jbb (l0 : (List Int)) (qa0 : Option Addr) (na0 ca0 : Nat) (w : World) (hw : HV w (keys [] []) [] [] [(aB qa0, aO qa0, RI.enc l0)] w) (hna0 : l0.length = na0) (hqa0 : AOK na0 qa0) (hla0 : na0 ≤ ca0) {res : Cells} (hm : jaN l0 = some res) :
    Calls Tryz.prog 142 #[.slice qa0 na0 ca0] w (fun en w' => ∃ l : Unit, en = .returned (.agg #[.int .i64 res.c0, .int .i64 res.c1, .int .i64 res.c2]) ∧ (True) ∧ HV w (keys [] []) [] [] [] w') := by
  unfold jaN at hm
  refine YN (args := [.slice qa0 na0 ca0]) Tryz.func142 rfl Tryz.ntmps142 rfl (e := [(0, _)]) rfl (H := HV w (keys [] []) [] [] [(aB qa0, aO qa0, RI.enc l0)]) hw ?_
  refine ji ?_
  refine je ?_
  refine js (fun w => Tryz.zeroValue157 w) rfl (fun b h1 => ?_)
  refine jx ?_
  refine ja ?_
  refine ji ?_
  refine je ?_
  refine js (fun w => Tryz.zeroValue157 w) rfl (fun b_1 h2 => ?_)
  refine jx ?_
  refine ja ?_
  refine ji ?_
  refine ji ?_
  refine je ?_
  refine jc rfl rfl rfl (fun _ _ => k8 rfl) ?_
  refine jx ?_
  refine ja ?_
  obtain ⟨o, h3, h4⟩ := bindO hm
  refine j3 (ι := Unit) (fun l => True) (fun l => [(2, ptr b 0), (3, ptr b_1 0)]) (fun l => [(b_1, .cells #[.int .i64 o.out3_c0, .int .i64 o.out3_c1, .int .i64 o.out3_c2] 157 (0, 0)), (b, .cells #[.int .i64 0, .int .i64 0, .int .i64 0] 157 (0, 0))]) (fun l => []) ?_ ?_
  ·replace hm := h3
   refine jp ?_
   refine kk (ι := Unit) hm (fun s l_1 => True) (fun s l_1 => [(0, .slice qa0 na0 ca0), (2, ptr b 0), (3, ptr b_1 0), (5, .int .i64 s.t5)]) (fun s l_1 => [(b_1, .cells #[.int .i64 s.out3_c0, .int .i64 s.out3_c1, .int .i64 s.out3_c2] 157 (0, 0)), (b, .cells #[.int .i64 0, .int .i64 0, .int .i64 0] 157 (0, 0))]) (fun s l_1 => []) () (trivial) ((.cons rfl (.cons rfl (.cons rfl (.cons rfl .nil))))) (fun w hh => hh) (fun s l_1 r hpl hm h5 => ?_)
   unfold Z5 at hm
   refine ji ?_
   refine je ?_
   refine jc rfl rfl rfl (fun _ _ => jak rfl rfl) ?_
   refine jx ?_
   refine ja ?_
   refine ji ?_
   refine ju rfl (fun h6 => ?_) (fun h6 => ?_)
   ·replace hm := ifT (of_decide_eq_true h6) hm
    refine jt ?_
    refine ja ?_
    refine ji ?_
    obtain ⟨o_1, h7, h8⟩ := bindO hm
    refine j3 (ι := Unit) (fun l_2 => True) (fun l_2 => [(0, .slice qa0 na0 ca0), (2, ptr b 0), (3, ptr b_1 0), (5, .int .i64 s.t5)]) (fun l_2 => [(b_1, .cells #[.int .i64 o_1.out3_c0, .int .i64 o_1.out3_c1, .int .i64 o_1.out3_c2] 157 (0, 0)), (b, .cells #[.int .i64 0, .int .i64 0, .int .i64 0] 157 (0, 0))]) (fun l_2 => []) ?_ ?_
    ·replace hm := h7
     refine jp ?_
     refine ji ?_
     refine je ?_
     refine jc rfl rfl rfl (fun _ _ => k8 rfl) ?_
     refine jc rfl rfl rfl (fun _ _ => kM rfl) ?_
     refine jx ?_
     refine ja ?_
     refine ji ?_
     refine je ?_
     refine jc rfl rfl rfl (fun _ _ => k8 rfl) ?_
     obtain ⟨t9, h9, hm⟩ := bindO hm
     refine jc rfl rfl rfl (fun w _ => JS h9 rfl (Tryz.runUnderlying157 w) (Tryz.sizeOf3 w) rfl rfl) ?_
     obtain ⟨out3, hout3, hm⟩ := bindO hm
     refine jag 0 [] [] (cs' := #[_, _, _]) (S' := [_, _]) (fun w => Tryz.sizeOf3 w) rfl rfl rfl h9 rfl rfl (Option.some.inj hout3) rfl rfl ?_
     refine jx ?_
     refine ja ?_
     refine ji ?_
     refine je ?_
     refine jc rfl rfl rfl (fun _ _ => k8 rfl) ?_
     refine jc rfl rfl rfl (fun _ _ => k8 rfl) ?_
     refine jc rfl rfl rfl (fun w _ => qd hna0 (Tryz.runUnderlying22 w) rfl) ?_
     refine jc rfl rfl rfl (fun _ _ => jak rfl rfl) ?_
     refine jx ?_
     refine ja ?_
     refine ju rfl (fun h10 => ?_) (fun h10 => ?_)
     ·replace hm := ifT (of_decide_eq_true h10) hm
      refine je ?_
      refine jc rfl rfl rfl (fun _ _ => k8 rfl) ?_
      refine jc rfl rfl rfl (fun _ _ => k8 rfl) ?_
      refine jc rfl rfl rfl (fun _ _ => k8 rfl) ?_
      obtain ⟨t17, h11, hm⟩ := bindO hm
      refine jc rfl rfl rfl (fun w _ => Jy h11 (Tryz.runUnderlying22 w) (Tryz.sizeOf3 w) rfl rfl hna0 hqa0) ?_
      refine jc rfl rfl rfl (fun w hh => zR RI 0 h11 (Tryz.isAgg3 w) rfl (hh.seg 0 rfl) rfl (Nat.add_zero _).symm) ?_
      obtain ⟨t19, h12, hm⟩ := bindO hm
      refine jc rfl rfl rfl (fun w _ => JS h12 rfl (Tryz.runUnderlying157 w) (Tryz.sizeOf3 w) rfl rfl) ?_
      obtain ⟨out3_1, hout3_1, hm⟩ := bindO hm
      refine jag 0 [] [] (cs' := #[_, _, _]) (S' := [_, _]) (fun w => Tryz.sizeOf3 w) rfl rfl rfl h12 rfl rfl (Option.some.inj hout3_1) rfl rfl ?_
      refine jx ?_
      refine jw ?_
      obtain rfl := Option.some.inj hm
      exact jk () (trivial) ((.cons rfl (.cons rfl (.cons rfl (.cons rfl .nil))))) (fun w hh => hh)
     ·replace hm := ifF (of_decide_eq_false h10) hm
      refine jt ?_
      refine jw ?_
      obtain rfl := Option.some.inj hm
      exact jk () (trivial) ((.cons rfl (.cons rfl (.cons rfl (.cons rfl .nil))))) (fun w hh => hh)
    ·intro l_2 hj
     replace hm := h8
     refine ja ?_
     refine je ?_
     obtain ⟨t20, h13, hm⟩ := bindO hm
     refine jc rfl rfl rfl (fun _ _ => Kh h13 rfl rfl) ?_
     refine jc rfl rfl rfl (fun _ _ => k8 rfl) ?_
     refine jx ?_
     obtain rfl := Option.some.inj hm
     refine ja ?_
     exact jN _ () rfl (trivial) ((.cons rfl (.cons rfl (.cons rfl (.cons rfl .nil))))) (fun w hh => hh)
   ·replace hm := ifF (of_decide_eq_false h6) hm
    refine kN ?_
    refine jl ?_
    refine jl ?_
    refine jO ?_
    obtain rfl := Option.some.inj hm
    have hbo := h5 _ rfl
    subst hbo
    exact jk () (trivial) ((.cons rfl (.cons rfl .nil))) (fun w hh => hh)
  ·intro l hj
   replace hm := h4
   refine ja ?_
   refine ji ?_
   refine je ?_
   refine jc rfl rfl rfl (fun w hh => jP (vs := [_, _, _]) (Tryz.isAgg157 w) (Tryz.sizeOf157 w) rfl (hh.cells 0 rfl rfl)) ?_
   refine kz (us := #[_, _, _]) (cs' := [_, _, _]) (S' := [_, _]) 1 (fun w => Tryz.sizeOf157 w) rfl rfl rfl rfl rfl rfl rfl ?_
   refine jx ?_
   refine ja ?_
   refine jv ?_
   obtain rfl := Option.some.inj hm
   refine jm rfl (fun w hh => (.cell rfl (loadVar_agg (vs := [_, _, _]) (Tryz.isAgg157 _) (Tryz.sizeOf157 _) (hh.cells 1 rfl rfl)) .nil)) (fun w hh => ⟨(), rfl, trivial, hh.sel [] [] 1 (by decide) (by decide) rfl rfl rfl⟩)
def FRm (L : List (Nat × Obj)) : VR := ⟨0, [], [], none, L⟩
theorem fr_to {w0 w : World} {M : List Nat} {A B C : Nat × Obj} {L X : List (Nat × Obj)} {ro : List Sg} (hh : HV w0 M [A, B, C] [FRm (L ++ X)] ro w) : HS w0 M (L ++ (A :: B :: C :: X)) ro w := HS.perm hh (by
  simp only [vbl, VR.bl, FRm, vown, List.nil_append, List.append_nil, List.cons_append]
  exact ((List.perm_middle.trans (List.Perm.cons _ (List.perm_middle.trans (List.Perm.cons _ List.perm_middle))))).symm)
theorem fr_of {w0 w : World} {M : List Nat} {A B C : Nat × Obj} {L X : List (Nat × Obj)} {ro : List Sg} (hh : HS w0 M (L ++ (A :: B :: C :: X)) ro w) : HV w0 M [A, B, C] [FRm (L ++ X)] ro w := HS.perm hh (by
  simp only [vbl, VR.bl, FRm, vown, List.nil_append, List.append_nil, List.cons_append]
  exact (List.perm_middle.trans (List.Perm.cons _ (List.perm_middle.trans (List.Perm.cons _ List.perm_middle)))))
theorem jay (x lo hi : Int) : jaB x lo hi = some (decide (lo ≤ x) && decide (x ≤ hi)) := by
  unfold jaB
  by_cases h1 : lo ≤ x <;> by_cases h2 : x ≤ hi <;> simp [h1, h2]
theorem ZN : jaN [] = some ⟨-1, -1, -1⟩ := by decide +kernel
structure RdN (b1 bd bs : Nat) (cells : Int) (v1 v3 v4 : Value) (fq rq : Option Addr) (nf fc rn rc : Nat) (reach : List Int) (s : State) (w : World) : Prop where
  f0 : segOK w (b1, 0, [ptr bd 0])
  f1 : segOK w (bd, 0, [.int .i64 cells, v1, .slice fq nf fc, v3, v4, .slice rq rn rc])
  f2 : segOK w (bs, 0, [.int .i64 s.after, .int .i64 s.at_.c0, .int .i64 s.at_.c1, .int .i64 s.at_.c2])
  f3 : segOK w (aB rq, aO rq, RI.enc reach)
def encS (t : State) : Value := .agg #[.int .i64 t.after, .int .i64 t.at_.c0, .int .i64 t.at_.c1, .int .i64 t.at_.c2]
def encN (s : State) (l : List Int) : Value := encS ⟨s.after + 1, mkCells l⟩
theorem ix3 {c : Cells} {p : Nat} (h : p < 3) : ix [c.c0, c.c1, c.c2] (p : Int) = some (cGet c p) := by
  have : p = 0 ∨ p = 1 ∨ p = 2 := by omega
  rcases this with rfl | rfl | rfl <;> rfl
theorem set3_c {c : Cells} {p : Nat} {x : Int} (h : p < 3) : set3 c.c0 c.c1 c.c2 (p : Int) x = ((cSet c p x).c0, (cSet c p x).c1, (cSet c p x).c2) := by
  have : p = 0 ∨ p = 1 ∨ p = 2 := by omega
  rcases this with rfl | rfl | rfl <;> rfl
theorem ix_rc {l : List Int} {a : Int} (h0 : 0 ≤ a) (h1 : a < (l.length : Int)) : ix l a = some (l.getD a.toNat 0) := by
  unfold ix
  rw [if_neg (by omega), List.getD_eq_getElem?_getD, List.getElem?_eq_getElem (by omega)]
  rfl
def toO (bt : Nat) (s : State) (c : Cells) : Nat × Obj := (bt, .cells #[.int .i64 (s.after + 1), .int .i64 c.c0, .int .i64 c.c1, .int .i64 c.c2] 159 (0, 0))
def putF (b1 by_ bt bs bp : Nat) : Value := .func (.func 162) #[] #[ptr b1 0, ptr by_ 0, ptr bt 0, ptr bs 0, ptr bp 0]

end Go.Proofs.Wb

namespace Go.Proofs.Wb
open Go Go.Fw Go.Gx Go.Sb
set_option linter.unusedVariables false
set_option maxHeartbeats 4000000
set_option maxRecDepth 100000
theorem put_ok {γ : Type} (Y : γ → List (Nat × Obj)) (St : Nat → γ → Prop) (Sp : γ → Prop) (l : Nat) (vals : List Value) (w0 : World) (M : List Nat) (ro : List Sg) (X0 : List (Nat × Obj)) (b1 bd bs bt bp by_ : Nat) (cells : Int) (v1 v3 v4 : Value) (fq rq : Option Addr) (nf fc rn rc : Nat) (reach : List Int) (s : State)
    (hrn : reach.length = rn) (hrq : AOK rn rq) (hok : nextOK cells reach (nf : Int) s)
    (hrd : ∀ k g X w, St k g → HS w0 M (Y g ++ X) ro w → RdN b1 bd bs cells v1 v3 v4 fq rq nf fc rn rc reach s w)
    (hy : ∀ j v g X w, vals[j]? = some v → St j g → HS w0 M (Y g ++ X) ro w → YieldOK Tryz.prog l [v] w (fun en w' => (en = .returned (.bool true) ∧ ∃ g', St (j + 1) g' ∧ HS w0 M (Y g' ++ X) ro w') ∨ (en = .returned (.bool false) ∧ ∃ g', Sp g' ∧ HS w0 M (Y g' ++ X) ro w'))) :
    ∀ (m : Nat) (pre : List Int) (c0 : Cells) (g0 : γ) (j0 : Nat) (w : World), pre.length + m = nf → ToOK nf pre c0 → Seg vals j0 ((putL cells.toNat reach s.at_ m pre).map (encN s)) → St j0 g0 →
      HV w0 M [toO bt s c0, (bp, .cells #[putF b1 by_ bt bs bp] 102 (0, 0)), (by_, .cells #[.func (.yield l) #[] #[]] 216 (0, 0))] [FRm (Y g0 ++ X0)] ro w →
      Calls Tryz.prog 162 #[.int .i64 (pre.length : Int), ptr b1 0, ptr by_ 0, ptr bt 0, ptr bs 0, ptr bp 0] w (fun en w' => ∃ z : Bool × γ × Cells, en = .returned (.bool z.1) ∧ (ToOK nf pre z.2.2 ∧ if z.1 = true then St (j0 + (putL cells.toNat reach s.at_ m pre).length) z.2.1 else Sp z.2.1) ∧
        HV w0 M [toO bt s z.2.2, (bp, .cells #[putF b1 by_ bt bs bp] 102 (0, 0)), (by_, .cells #[.func (.yield l) #[] #[]] 216 (0, 0))] [FRm (Y z.2.1 ++ X0)] ro w') := by
  obtain ⟨hn3, hcs, ha0, ha1, hre⟩ := hok
  have hn3' : nf ≤ 3 := by omega
  have RD : ∀ {k : Nat} {g : γ} {A B C : Nat × Obj} {w : World}, St k g → HV w0 M [A, B, C] [FRm (Y g ++ X0)] ro w → RdN b1 bd bs cells v1 v3 v4 fq rq nf fc rn rc reach s w := fun hs hh => hrd _ _ _ _ hs (fr_to hh)
  intro m
  induction m with
  | zero =>
    intro pre c0 g0 j0 w hl hto hseg hs hh0
    have hl' : pre.length = nf := by omega
    have hc0 := hto.full hn3' hl'
    refine YN (args := [.int .i64 (pre.length : Int), ptr b1 0, ptr by_ 0, ptr bt 0, ptr bs 0, ptr bp 0]) Tryz.func162 rfl Tryz.ntmps162 rfl (e := [(0, _), (1, _), (2, _), (3, _), (4, _), (5, _)]) rfl hh0 ?_
    refine ji ?_
    refine je ?_
    refine jc rfl rfl rfl (fun _ _ => kM rfl) ?_
    refine jx ?_
    refine ja ?_
    refine ji ?_
    refine ji ?_
    refine je ?_
    refine jc rfl rfl rfl (fun _ _ => k8 rfl) ?_
    refine jc rfl rfl rfl (fun w hh => jz (Tryz.isAgg146 w) rfl (segCell (RD hs hh).f0 0 rfl)) ?_
    refine jc rfl rfl rfl (fun _ _ => jQ rfl) ?_
    refine jc rfl rfl rfl (fun w _ => jR 0 (Tryz.runUnderlying175 w) rfl (Tryz.sizeOf26 w) rfl) ?_
    refine jc rfl rfl rfl (fun w _ => jR 2 (Tryz.runUnderlying26 w) rfl (Tryz.sizeOf22 w) rfl) ?_
    refine jc rfl rfl rfl (fun w hh => jz (Tryz.isAgg22 w) rfl (segCell (RD hs hh).f1 2 rfl)) ?_
    refine jc rfl rfl rfl (fun w _ => jaa (Tryz.runUnderlying22 w) rfl) ?_
    refine jc rfl rfl rfl (fun _ _ => Ju rfl rfl) ?_
    refine jx ?_
    refine ja ?_
    refine ju rfl (fun h1 => ?_) (fun h1 => ?_)
    · refine ji ?_
      refine je ?_
      refine jc rfl rfl rfl (fun w hh => jz (Tryz.isAgg216 w) rfl (hh.cell 2 rfl rfl)) ?_
      refine jc rfl rfl rfl (fun w hh => jP (vs := [_, _, _, _]) (Tryz.isAgg159 w) (Tryz.sizeOf159 w) rfl (hh.cells 0 rfl rfl)) ?_
      refine jax (ι := γ × Bool) (vs := [encN s pre]) (ret := fun z => .bool z.2) (H' := fun z w' => (if z.2 = true then St (j0 + 1) z.1 else Sp z.1) ∧ HV w0 M [toO bt s c0, (bp, .cells #[putF b1 by_ bt bs bp] 102 (0, 0)), (by_, .cells #[.func (.yield l) #[] #[]] 216 (0, 0))] [FRm (Y z.1 ++ X0)] ro w') rfl rfl (fun a he => rfl) rfl rfl (by rw [hc0]; rfl) (fun w hh => ?_) ?_
      · refine (hy j0 (encN s pre) g0 _ w hseg.one hs (fr_to hh)).mono ?_
        rintro en w' (⟨rfl, g', hs', hh'⟩ | ⟨rfl, g', hs', hh'⟩)
        · exact ⟨(g', true), rfl, hs', fr_of hh'⟩
        · exact ⟨(g', false), rfl, hs', fr_of hh'⟩
      intro ⟨g2, b⟩
      refine Zo (fun w hh => hh.1) (fun hs2 => ?_)
      refine G.pre ?_ (fun w hh => hh.2)
      refine jc rfl rfl rfl (fun _ _ => kM rfl) ?_
      refine jx ?_
      refine ja ?_
      refine jv ?_
      refine jh ?_
      exact jm rfl (fun w hh => (.tmp rfl .nil)) (fun w hh => ⟨(b, g2, c0), rfl, ⟨hto, hs2⟩, hh⟩)
    · exact absurd (of_decide_eq_false h1) (fun h => h (by omega))
  | succ m ih =>
    intro pre c0 g0 j0 w hl hto hseg hs hh0
    have hp : pre.length < nf := by omega
    have hp3 : pre.length < 3 := by omega
    obtain ⟨ra, rb, rc1, rd1, re1⟩ := hre pre.length (by omega)
    have hix : ix [s.at_.c0, s.at_.c1, s.at_.c2] (pre.length : Int) = some (cGet s.at_ pre.length) := ix3 hp3
    have hrc := ix_rc ra rb
    refine YN (args := [.int .i64 (pre.length : Int), ptr b1 0, ptr by_ 0, ptr bt 0, ptr bs 0, ptr bp 0]) Tryz.func162 rfl Tryz.ntmps162 rfl (e := [(0, _), (1, _), (2, _), (3, _), (4, _), (5, _)]) rfl hh0 ?_
    refine ji ?_
    refine je ?_
    refine jc rfl rfl rfl (fun _ _ => kM rfl) ?_
    refine jx ?_
    refine ja ?_
    refine ji ?_
    refine ji ?_
    refine je ?_
    refine jc rfl rfl rfl (fun _ _ => k8 rfl) ?_
    refine jc rfl rfl rfl (fun w hh => jz (Tryz.isAgg146 w) rfl (segCell (RD hs hh).f0 0 rfl)) ?_
    refine jc rfl rfl rfl (fun _ _ => jQ rfl) ?_
    refine jc rfl rfl rfl (fun w _ => jR 0 (Tryz.runUnderlying175 w) rfl (Tryz.sizeOf26 w) rfl) ?_
    refine jc rfl rfl rfl (fun w _ => jR 2 (Tryz.runUnderlying26 w) rfl (Tryz.sizeOf22 w) rfl) ?_
    refine jc rfl rfl rfl (fun w hh => jz (Tryz.isAgg22 w) rfl (segCell (RD hs hh).f1 2 rfl)) ?_
    refine jc rfl rfl rfl (fun w _ => jaa (Tryz.runUnderlying22 w) rfl) ?_
    refine jc rfl rfl rfl (fun _ _ => Ju rfl rfl) ?_
    refine jx ?_
    refine ja ?_
    refine ju rfl (fun h1 => ?_) (fun h1 => ?_)
    · exact absurd (of_decide_eq_true h1) (by omega)
    refine jt ?_
    refine ja ?_
    refine ji ?_
    refine ji ?_
    refine je ?_
    refine jc rfl rfl rfl (fun w hh => jz (Tryz.isAgg146 w) rfl (segCell (RD hs hh).f0 0 rfl)) ?_
    refine jc rfl rfl rfl (fun _ _ => jQ rfl) ?_
    refine jc rfl rfl rfl (fun w _ => jR 0 (Tryz.runUnderlying175 w) rfl (Tryz.sizeOf26 w) rfl) ?_
    refine jc rfl rfl rfl (fun w _ => jR 0 (Tryz.runUnderlying26 w) rfl (Tryz.sizeOf3 w) rfl) ?_
    refine jc rfl rfl rfl (fun w hh => jz (Tryz.isAgg3 w) rfl (segCell (RD hs hh).f1 0 rfl)) ?_
    refine jc rfl rfl rfl (fun _ _ => k8 rfl) ?_
    refine jx ?_
    refine ja ?_
    refine jp ?_
    refine ZD (e' := [(26, _), (25, _), (0, _), (1, _), (2, _), (3, _), (4, _), (5, _)]) ((.cons rfl (.cons rfl (.cons rfl (.cons rfl (.cons rfl (.cons rfl (.cons rfl (.cons rfl .nil))))))))) ?_
    refine jaG (ι := Nat × γ × Cells) (fun i => [(26, .int .i64 (i.1 : Nat))]) (fun i w => (i.1 ≤ cells.toNat ∧ ToOK nf pre i.2.2 ∧ St (j0 + (putB cells.toNat reach s.at_ m pre i.1).length) i.2.1) ∧ HV w0 M [toO bt s i.2.2, (bp, .cells #[putF b1 by_ bt bs bp] 102 (0, 0)), (by_, .cells #[.func (.yield l) #[] #[]] 216 (0, 0))] [FRm (Y i.2.1 ++ X0)] ro w) (fun i => cells.toNat - i.1) (0, g0, c0) (fun w hh => ⟨⟨Nat.zero_le _, hto, hs⟩, hh⟩) ?_
    intro ⟨k, g, c⟩
    refine Zo (fun w hh => hh.1) (fun hI => ?_)
    refine G.pre ?_ (fun w hh => hh.2)
    obtain ⟨hk, hto1, hs1⟩ := hI
    simp only at hk hto1 hs1
    refine ji ?_
    refine je ?_
    refine jc rfl rfl rfl (fun _ _ => jak rfl rfl) ?_
    refine jx ?_
    refine ja ?_
    refine ji ?_
    refine ju rfl (fun h2 => ?_) (fun h2 => ?_)
    · replace h2 := of_decide_eq_true h2
      have hk' : k < cells.toNat := by omega
      have hsub : subc (cGet s.at_ pre.length) (reach.getD (cGet s.at_ pre.length).toNat 0) = some (cGet s.at_ pre.length - reach.getD (cGet s.at_ pre.length).toNat 0) := by unfold subc; rw [if_pos (by omega)]
      have hadd : addc (cGet s.at_ pre.length) (reach.getD (cGet s.at_ pre.length).toNat 0) = some (cGet s.at_ pre.length + reach.getD (cGet s.at_ pre.length).toNat 0) := by unfold addc; rw [if_pos (by omega)]
      have hford : addc (pre.length : Int) 1 = some ((pre.length : Int) + 1) := by unfold addc; rw [if_pos (by omega)]
      have hixc : ix [c.c0, c.c1, c.c2] (pre.length : Int) = some (cGet c pre.length) := ix3 hp3
      refine jt ?_
      refine ja ?_
      refine ji ?_
      refine jp ?_
      refine ji ?_
      refine je ?_
      refine jc rfl rfl rfl (fun _ _ => k8 rfl) ?_
      refine jc rfl rfl rfl (fun _ _ => kM rfl) ?_
      refine jx ?_
      refine ja ?_
      refine ji ?_
      refine ky none (.hoist 0 (.free 1 (.free 2 (.hoist 3 (.free 4 (.free 5 (.free 6 (.hoist 7 (.free 8 (.hoist 9 (.free 10 .done))))))))))) _ rfl (by decide +kernel) (fun w k hh => hh.draw k) (fun w hh => hh) ?_
      refine jy rfl rfl rfl rfl (fun w hh => jz (Tryz.isAgg146 w) rfl (segCell (RD hs1 hh).f0 0 rfl)) ?_
      refine jn rfl rfl rfl rfl (fun _ _ => jQ rfl) ?_
      refine jn rfl rfl rfl rfl (fun w _ => jR 5 (Tryz.runUnderlying175 w) rfl (Tryz.sizeOf22 w) rfl) ?_
      refine jy rfl rfl rfl rfl (fun w hh => jz (Tryz.isAgg22 w) rfl (segCell (RD hs1 hh).f1 5 rfl)) ?_
      refine jn rfl rfl rfl rfl (fun _ _ => k8 rfl) ?_
      refine jn rfl rfl rfl rfl (fun w _ => jR 1 (Tryz.runUnderlying159 w) rfl (Tryz.sizeOf157 w) rfl) ?_
      refine jn rfl rfl rfl rfl (fun w _ => JS hix rfl (Tryz.runUnderlying157 w) (Tryz.sizeOf3 w) rfl rfl) ?_
      refine jy rfl rfl rfl rfl (fun w hh => jz (Tryz.isAgg3 w) rfl (segCellX (RD hs1 hh).f2 (ixCell' hix kI [_] [] rfl rfl))) ?_
      refine jn rfl rfl rfl rfl (fun w _ => Jy hrc (Tryz.runUnderlying22 w) (Tryz.sizeOf3 w) rfl rfl hrn hrq) ?_
      refine jy rfl rfl rfl rfl (fun w hh => zR RI 0 hrc (Tryz.isAgg3 w) rfl (RD hs1 hh).f3 rfl (Nat.add_zero _).symm) ?_
      refine jn rfl rfl rfl rfl (fun _ _ => kM rfl) ?_
      refine jM ?_
      refine ja ?_
      refine ji ?_
      refine ji ?_
      refine ky none (.free 0 (.free 1 (.free 2 (.free 3 (.hoist 4 (.free 5 (.free 6 (.free 7 (.free 8 (.free 9 (.hoist 10 (.free 11 (.free 12 (.one 13 (.free 14 (.free 15 (.free 16 (.free 17 (.free 18 (.free 19 (.free 20 (.free 21 (.free 22 (.free 23 (.hoist 24 (.free 25 (.free 26 (.free 27 .done)))))))))))))))))))))))))))) _ rfl (by decide +kernel) (fun w k hh => hh.draw k) (fun w hh => hh) ?_
      refine jn rfl rfl rfl rfl (fun _ _ => k8 rfl) ?_
      refine jn rfl rfl rfl rfl (fun _ _ => k8 rfl) ?_
      refine jn rfl rfl rfl rfl (fun w _ => jR 1 (Tryz.runUnderlying159 w) rfl (Tryz.sizeOf157 w) rfl) ?_
      refine jn rfl rfl rfl rfl (fun w _ => JS hix rfl (Tryz.runUnderlying157 w) (Tryz.sizeOf3 w) rfl rfl) ?_
      refine jy rfl rfl rfl rfl (fun w hh => jz (Tryz.isAgg3 w) rfl (segCellX (RD hs1 hh).f2 (ixCell' hix kI [_] [] rfl rfl))) ?_
      refine jn rfl rfl rfl rfl (fun _ _ => k8 rfl) ?_
      refine jn rfl rfl rfl rfl (fun _ _ => zO hsub rfl rfl) ?_
      refine jn rfl rfl rfl rfl (fun _ _ => k8 rfl) ?_
      refine jn rfl rfl rfl rfl (fun w _ => jR 1 (Tryz.runUnderlying159 w) rfl (Tryz.sizeOf157 w) rfl) ?_
      refine jn rfl rfl rfl rfl (fun w _ => JS hix rfl (Tryz.runUnderlying157 w) (Tryz.sizeOf3 w) rfl rfl) ?_
      refine jy rfl rfl rfl rfl (fun w hh => jz (Tryz.isAgg3 w) rfl (segCellX (RD hs1 hh).f2 (ixCell' hix kI [_] [] rfl rfl))) ?_
      refine jn rfl rfl rfl rfl (fun _ _ => k8 rfl) ?_
      refine jn rfl rfl rfl rfl (fun _ _ => Kh hadd rfl rfl) ?_
      refine jA rfl ?_
      refine jd [] [] rfl rfl rfl rfl rfl rfl rfl (fun a w => Tryz.call106 a w) (fun w hh => jbf (k : Int) _ _ w (HV.callee (S0 := []) (vs0 := []) hh roN) (jay _ _ _)) (fun _u _ => ?_)
      refine jj (fun w hh => hh) ?_
      refine jn rfl rfl rfl rfl (fun _ _ => zt rfl) ?_
      refine jn rfl rfl rfl rfl (fun _ _ => k8 rfl) ?_
      refine j4 54 rfl (fun h11 => ?_) (fun h11 => ?_)
      · have hno : ¬ okN reach s.at_ pre (k : Int) = true := by
          simp only [Bool.not_eq_true', Bool.and_eq_false_iff, decide_eq_false_iff_not] at h11
          simp only [okN, Bool.and_eq_true, decide_eq_true_eq]
          rintro ⟨⟨q1, q2⟩, _⟩
          rcases h11 with h11 | h11
          · exact h11 q1
          · exact h11 q2
        refine kA rfl rfl rfl rfl rfl rfl rfl ?_
        refine kA rfl rfl rfl rfl rfl rfl rfl ?_
        refine kA rfl rfl rfl rfl rfl rfl rfl ?_
        refine Ql rfl rfl rfl rfl rfl rfl ?_
        refine Ql rfl rfl rfl rfl rfl rfl ?_
        refine Ql rfl rfl rfl rfl rfl rfl ?_
        refine Ql rfl rfl rfl rfl rfl rfl ?_
        refine Ql rfl rfl rfl rfl rfl rfl ?_
        refine jaC rfl rfl rfl rfl rfl rfl ?_
        refine Ql rfl rfl rfl rfl rfl rfl ?_
        refine kA rfl rfl rfl rfl rfl rfl rfl ?_
        refine jn rfl rfl rfl rfl (fun _ _ => Qi rfl rfl) ?_
        refine jM ?_
        refine ja ?_
        refine J1 rfl rfl ?_

        refine kN ?_
        refine jl ?_
        refine jO ?_
        refine ja ?_
        refine je ?_
        refine jc rfl rfl rfl (fun _ _ => jaj rfl rfl (wrap_i64 (by omega))) ?_
        refine jc rfl rfl rfl (fun _ _ => k8 rfl) ?_
        refine jx ?_
        refine ja ?_
        exact Zx (i := (k, g, c)) (k + 1, g, c) ((.cons rfl (.cons rfl (.cons rfl (.cons rfl (.cons rfl (.cons rfl (.cons rfl (.cons rfl .nil))))))))) (fun w hh => ⟨⟨by simp only; omega, hto1, by rw [putB_succ, if_neg hno, List.append_nil]; exact hs1⟩, hh⟩) (by simp only; omega)
      · have hin : cGet s.at_ pre.length - reach.getD (cGet s.at_ pre.length).toNat 0 ≤ (k : Int) ∧ (k : Int) ≤ cGet s.at_ pre.length + reach.getD (cGet s.at_ pre.length).toNat 0 := by
          simp only [Bool.not_eq_false', Bool.and_eq_true, decide_eq_true_eq] at h11
          exact h11
        refine qW rfl rfl rfl rfl rfl rfl (fun _ _ => k8 rfl) ?_
        refine qW rfl rfl rfl rfl rfl rfl (fun _ _ => Zj rfl rfl) ?_
        refine qW rfl rfl rfl rfl rfl rfl (fun _ _ => k8 rfl) ?_
        refine j4 57 rfl (fun h13 => ?_) (fun h13 => ?_)
        · replace h13 := of_decide_eq_true h13
          have hp0 : 0 < pre.length := by omega
          have hpe : (pre.length : Int) - 1 = ((pre.length - 1 : Nat) : Int) := by omega
          have hs1p : subc (pre.length : Int) 1 = some ((pre.length - 1 : Nat) : Int) := by unfold subc; rw [if_pos (by omega), hpe]
          have hixp : ix [c.c0, c.c1, c.c2] ((pre.length - 1 : Nat) : Int) = some (cGet c (pre.length - 1)) := ix3 (by omega)
          refine qW rfl rfl rfl rfl rfl rfl (fun _ _ => k8 rfl) ?_
          refine qW rfl rfl rfl rfl rfl rfl (fun _ _ => k8 rfl) ?_
          refine qW rfl rfl rfl rfl rfl rfl (fun _ _ => zO hs1p rfl rfl) ?_
          refine qW rfl rfl rfl rfl rfl rfl (fun w _ => jR 1 (Tryz.runUnderlying159 w) rfl (Tryz.sizeOf157 w) rfl) ?_
          refine qW rfl rfl rfl rfl rfl rfl (fun w _ => JS hixp rfl (Tryz.runUnderlying157 w) (Tryz.sizeOf3 w) rfl rfl) ?_
          refine Jl rfl rfl rfl rfl rfl rfl (fun w hh => jz (Tryz.isAgg3 w) rfl (hh.cell 0 rfl (ixCell hixp kI [_] [] rfl rfl))) ?_
          refine qW rfl rfl rfl rfl rfl rfl (fun _ _ => Z1 rfl rfl) ?_
          refine qW rfl rfl rfl rfl rfl rfl (fun _ _ => Qi rfl rfl) ?_
          refine jn rfl rfl rfl rfl (fun _ _ => Kb rfl rfl) ?_
          refine jM ?_
          refine ja ?_
          refine ju rfl (fun h16 => ?_) (fun h16 => ?_)
          · have hno : ¬ okN reach s.at_ pre (k : Int) = true := by
              simp only [okN, Bool.and_eq_true, decide_eq_true_eq]
              rintro ⟨_, q⟩
              have := q _ (hto1.last hp0)
              have := of_decide_eq_true h16
              omega

            refine kN ?_
            refine jl ?_
            refine jO ?_
            refine ja ?_
            refine je ?_
            refine jc rfl rfl rfl (fun _ _ => jaj rfl rfl (wrap_i64 (by omega))) ?_
            refine jc rfl rfl rfl (fun _ _ => k8 rfl) ?_
            refine jx ?_
            refine ja ?_
            exact Zx (i := (k, g, c)) (k + 1, g, c) ((.cons rfl (.cons rfl (.cons rfl (.cons rfl (.cons rfl (.cons rfl (.cons rfl (.cons rfl .nil))))))))) (fun w hh => ⟨⟨by simp only; omega, hto1, by rw [putB_succ, if_neg hno, List.append_nil]; exact hs1⟩, hh⟩) (by simp only; omega)
          · have hyes : okN reach s.at_ pre (k : Int) = true := by
              simp only [okN, Bool.and_eq_true, decide_eq_true_eq]
              refine ⟨hin, fun y hy' => ?_⟩
              rw [hto1.last hp0] at hy'
              have := of_decide_eq_false h16
              simp only [Option.some.injEq] at hy'
              omega

            have hseg1 : Seg vals (j0 + (putB cells.toNat reach s.at_ m pre k).length) ((putL cells.toNat reach s.at_ m (pre ++ [(k : Int)])).map (encN s)) := by
              obtain ⟨r, hr⟩ := putB_pre (cells := cells.toNat) (reach := reach) (a := s.at_) (m := m) (pre := pre) (show k + 1 ≤ cells.toNat by omega)
              rw [← putB_all, hr, putB_succ, if_pos hyes, List.map_append, List.map_append] at hseg
              have h5 := hseg.left.right
              rw [List.length_map] at h5
              exact h5

            refine jt ?_
            refine ja ?_
            refine ji ?_
            refine je ?_
            refine jc rfl rfl rfl (fun _ _ => k8 rfl) ?_
            refine jc rfl rfl rfl (fun _ _ => k8 rfl) ?_
            refine jc rfl rfl rfl (fun w _ => jR 1 (Tryz.runUnderlying159 w) rfl (Tryz.sizeOf157 w) rfl) ?_
            refine jc rfl rfl rfl (fun w _ => JS hixc rfl (Tryz.runUnderlying157 w) (Tryz.sizeOf3 w) rfl rfl) ?_
            refine jag 0 [_] [] (cs' := #[_, _, _, _]) (S' := [_, _, _]) (fun w => Tryz.sizeOf3 w) rfl rfl rfl hixc rfl rfl (set3_c hp3) rfl rfl ?_
            refine jx ?_
            refine ja ?_
            refine ji ?_
            refine je ?_
            refine jc rfl rfl rfl (fun w hh => jz (Tryz.isAgg102 w) rfl (hh.cell 1 rfl rfl)) ?_
            refine jc rfl rfl rfl (fun _ _ => k8 rfl) ?_
            refine jc rfl rfl rfl (fun _ _ => Kh hford rfl rfl) ?_
            refine Z3 (ι := Bool × γ × Cells) (ret := fun z => .bool z.1) (H' := fun z w' => (ToOK nf (pre ++ [(k : Int)]) z.2.2 ∧ if z.1 = true then St (j0 + (putB cells.toNat reach s.at_ m pre k).length + (putL cells.toNat reach s.at_ m (pre ++ [(k : Int)])).length) z.2.1 else Sp z.2.1) ∧ HV w0 M [toO bt s z.2.2, (bp, .cells #[putF b1 by_ bt bs bp] 102 (0, 0)), (by_, .cells #[.func (.yield l) #[] #[]] 216 (0, 0))] [FRm (Y z.2.1 ++ X0)] ro w') rfl rfl rfl rfl rfl rfl rfl (fun a w => Tryz.call162 a w) (fun w hh => ?_) ?_
            · have hcall := ih (pre ++ [(k : Int)]) (cSet c pre.length (k : Int)) g (j0 + (putB cells.toNat reach s.at_ m pre k).length) w (by simp; omega) (hto1.set hn3' hp) hseg1 hs1 hh
              rw [show (((pre ++ [(k : Int)]).length : Nat) : Int) = (pre.length : Int) + 1 by simp] at hcall
              exact hcall
            intro ⟨b, g2, c2⟩
            refine Zo (fun w hh => hh.1) (fun hs2 => ?_)
            refine G.pre ?_ (fun w hh => hh.2)
            obtain ⟨hto2, hs2⟩ := hs2
            simp only at hto2 hs2
            refine jc rfl rfl rfl (fun _ _ => zt rfl) ?_
            refine jx ?_
            refine ja ?_
            cases b with
            | true =>
              refine Ka rfl rfl ?_
              refine jt ?_
              refine jw ?_
              refine ja ?_
              refine je ?_
              refine jc rfl rfl rfl (fun _ _ => jaj rfl rfl (wrap_i64 (by omega))) ?_
              refine jc rfl rfl rfl (fun _ _ => k8 rfl) ?_
              refine jx ?_
              refine ja ?_
              exact Zx (i := (k, g, c)) (k + 1, g2, c2) ((.cons rfl (.cons rfl (.cons rfl (.cons rfl (.cons rfl (.cons rfl (.cons rfl (.cons rfl .nil))))))))) (fun w hh => ⟨⟨by simp only; omega, hto2.mono, by rw [putB_succ, if_pos hyes, List.length_append, ← Nat.add_assoc]; exact hs2⟩, hh⟩) (by simp only; omega)
            | false =>
              refine J1 rfl rfl ?_
              refine ji ?_
              refine je ?_
              refine jc rfl rfl rfl (fun _ _ => kM rfl) ?_
              refine jx ?_
              refine ja ?_
              refine jv ?_
              refine jJ ?_
              refine jh ?_
              refine jh ?_
              refine jJ ?_
              refine jh ?_
              exact jm rfl (fun w hh => (.tmp rfl .nil)) (fun w hh => ⟨(false, g2, c2), rfl, ⟨hto2.mono, hs2⟩, hh⟩)
        · replace h13 := of_decide_eq_false h13
          have hyes : okN reach s.at_ pre (k : Int) = true := by
            simp only [okN, Bool.and_eq_true, decide_eq_true_eq]
            refine ⟨hin, fun y hy' => ?_⟩
            rw [List.eq_nil_of_length_eq_zero (show pre.length = 0 by omega)] at hy'
            simp at hy'

          have hseg1 : Seg vals (j0 + (putB cells.toNat reach s.at_ m pre k).length) ((putL cells.toNat reach s.at_ m (pre ++ [(k : Int)])).map (encN s)) := by
            obtain ⟨r, hr⟩ := putB_pre (cells := cells.toNat) (reach := reach) (a := s.at_) (m := m) (pre := pre) (show k + 1 ≤ cells.toNat by omega)
            rw [← putB_all, hr, putB_succ, if_pos hyes, List.map_append, List.map_append] at hseg
            have h5 := hseg.left.right
            rw [List.length_map] at h5
            exact h5

          refine kA rfl rfl rfl rfl rfl rfl rfl ?_
          refine kA rfl rfl rfl rfl rfl rfl rfl ?_
          refine kA rfl rfl rfl rfl rfl rfl rfl ?_
          refine kA rfl rfl rfl rfl rfl rfl rfl ?_
          refine kA rfl rfl rfl rfl rfl rfl rfl ?_
          refine Jq rfl rfl rfl rfl rfl rfl rfl ?_
          refine kA rfl rfl rfl rfl rfl rfl rfl ?_
          refine qW rfl rfl rfl rfl rfl rfl (fun _ _ => Kb rfl rfl) ?_
          refine jn rfl rfl rfl rfl (fun _ _ => Kb rfl rfl) ?_
          refine jM ?_
          refine ja ?_
          refine Ka rfl rfl ?_

          refine jt ?_
          refine ja ?_
          refine ji ?_
          refine je ?_
          refine jc rfl rfl rfl (fun _ _ => k8 rfl) ?_
          refine jc rfl rfl rfl (fun _ _ => k8 rfl) ?_
          refine jc rfl rfl rfl (fun w _ => jR 1 (Tryz.runUnderlying159 w) rfl (Tryz.sizeOf157 w) rfl) ?_
          refine jc rfl rfl rfl (fun w _ => JS hixc rfl (Tryz.runUnderlying157 w) (Tryz.sizeOf3 w) rfl rfl) ?_
          refine jag 0 [_] [] (cs' := #[_, _, _, _]) (S' := [_, _, _]) (fun w => Tryz.sizeOf3 w) rfl rfl rfl hixc rfl rfl (set3_c hp3) rfl rfl ?_
          refine jx ?_
          refine ja ?_
          refine ji ?_
          refine je ?_
          refine jc rfl rfl rfl (fun w hh => jz (Tryz.isAgg102 w) rfl (hh.cell 1 rfl rfl)) ?_
          refine jc rfl rfl rfl (fun _ _ => k8 rfl) ?_
          refine jc rfl rfl rfl (fun _ _ => Kh hford rfl rfl) ?_
          refine Z3 (ι := Bool × γ × Cells) (ret := fun z => .bool z.1) (H' := fun z w' => (ToOK nf (pre ++ [(k : Int)]) z.2.2 ∧ if z.1 = true then St (j0 + (putB cells.toNat reach s.at_ m pre k).length + (putL cells.toNat reach s.at_ m (pre ++ [(k : Int)])).length) z.2.1 else Sp z.2.1) ∧ HV w0 M [toO bt s z.2.2, (bp, .cells #[putF b1 by_ bt bs bp] 102 (0, 0)), (by_, .cells #[.func (.yield l) #[] #[]] 216 (0, 0))] [FRm (Y z.2.1 ++ X0)] ro w') rfl rfl rfl rfl rfl rfl rfl (fun a w => Tryz.call162 a w) (fun w hh => ?_) ?_
          · have hcall := ih (pre ++ [(k : Int)]) (cSet c pre.length (k : Int)) g (j0 + (putB cells.toNat reach s.at_ m pre k).length) w (by simp; omega) (hto1.set hn3' hp) hseg1 hs1 hh
            rw [show (((pre ++ [(k : Int)]).length : Nat) : Int) = (pre.length : Int) + 1 by simp] at hcall
            exact hcall
          intro ⟨b, g2, c2⟩
          refine Zo (fun w hh => hh.1) (fun hs2 => ?_)
          refine G.pre ?_ (fun w hh => hh.2)
          obtain ⟨hto2, hs2⟩ := hs2
          simp only at hto2 hs2
          refine jc rfl rfl rfl (fun _ _ => zt rfl) ?_
          refine jx ?_
          refine ja ?_
          cases b with
          | true =>
            refine Ka rfl rfl ?_
            refine jt ?_
            refine jw ?_
            refine ja ?_
            refine je ?_
            refine jc rfl rfl rfl (fun _ _ => jaj rfl rfl (wrap_i64 (by omega))) ?_
            refine jc rfl rfl rfl (fun _ _ => k8 rfl) ?_
            refine jx ?_
            refine ja ?_
            exact Zx (i := (k, g, c)) (k + 1, g2, c2) ((.cons rfl (.cons rfl (.cons rfl (.cons rfl (.cons rfl (.cons rfl (.cons rfl (.cons rfl .nil))))))))) (fun w hh => ⟨⟨by simp only; omega, hto2.mono, by rw [putB_succ, if_pos hyes, List.length_append, ← Nat.add_assoc]; exact hs2⟩, hh⟩) (by simp only; omega)
          | false =>
            refine J1 rfl rfl ?_
            refine ji ?_
            refine je ?_
            refine jc rfl rfl rfl (fun _ _ => kM rfl) ?_
            refine jx ?_
            refine ja ?_
            refine jv ?_
            refine jJ ?_
            refine jh ?_
            refine jh ?_
            refine jJ ?_
            refine jh ?_
            exact jm rfl (fun w hh => (.tmp rfl .nil)) (fun w hh => ⟨(false, g2, c2), rfl, ⟨hto2.mono, hs2⟩, hh⟩)
    · replace h2 := of_decide_eq_false h2
      have ek : k = cells.toNat := by omega
      subst ek
      refine kN ?_
      refine jl ?_
      refine jl ?_
      refine jO ?_
      refine ja ?_
      refine ji ?_
      refine je ?_
      refine jc rfl rfl rfl (fun _ _ => kM rfl) ?_
      refine jx ?_
      refine ja ?_
      refine jv ?_
      exact jm rfl (fun w hh => (.tmp rfl .nil)) (fun w hh => ⟨(true, g, c), rfl, ⟨hto1, hs1⟩, hh⟩)

theorem it_next0 (w0 : World) (M : List Nat) (ro : List Sg) (b1 bd bs : Nat) (cells : Int) (v1 v3 v4 : Value) (fq rq : Option Addr) (nf fc rn rc : Nat) (reach : List Int) (s : State)
    (hrn : reach.length = rn) (hrq : AOK rn rq) (hok : nextOK cells reach (nf : Int) s) :
    ItX Tryz.prog 161 [ptr bs 0, ptr b1 0] ((nextL cells reach (nf : Int) s).map encS) w0 M ro (RdN b1 bd bs cells v1 v3 v4 fq rq nf fc rn rc reach s) := by
  intro γ Y St Sp l hrd hrdS hy g0 h0 w X0 hh
  have hvals : (nextL cells reach (nf : Int) s).map encS = (putL cells.toNat reach s.at_ nf []).map (encN s) := by
    unfold nextL
    rw [List.map_map, Int.toNat_natCast]
    rfl
  rw [hvals] at hy ⊢
  have hok' := hok
  obtain ⟨hn3, hcs, ha0, ha1, hre⟩ := hok'
  have hadd : addc s.after 1 = some (s.after + 1) := by unfold addc; rw [if_pos (by omega)]
  have RD : ∀ {S : List (Nat × Obj)} {w : World}, HV w0 M S [FRm (Y g0 ++ X0)] ro w → RdN b1 bd bs cells v1 v3 v4 fq rq nf fc rn rc reach s w := fun {S w} hh => hrd 0 g0 (S ++ X0) w h0 (HS.perm hh (by
    simp only [vbl, VR.bl, FRm, vown, List.nil_append, List.append_nil]
    rw [← List.append_assoc, ← List.append_assoc]
    exact List.Perm.append_right _ List.perm_append_comm))
  have hh0 : HV w0 M [] [FRm (Y g0 ++ X0)] ro w := by simpa [HV, vbl, VR.bl, FRm, vown] using hh
  refine YN (args := [.func (.yield l) #[] #[], ptr bs 0, ptr b1 0]) Tryz.func161 rfl Tryz.ntmps161 rfl (e := [(0, _), (1, _), (2, _)]) rfl hh0 ?_
  refine ji ?_
  refine je ?_
  refine jI rfl rfl (fun by_ hb1 => ?_)
  refine jx ?_
  refine ja ?_
  refine ji ?_
  refine j3 (ι := Nat) (fun bt => True) (fun bt => [(1, ptr bs 0), (2, ptr b1 0), (3, ptr by_ 0), (4, ptr bt 0)]) (fun bt => [(by_, .cells #[.func (.yield l) #[] #[]] 216 (0, 0)), toO bt s ⟨-1, -1, -1⟩]) (fun bt => [FRm (Y g0 ++ X0)]) ?_ ?_
  · refine ky none (.free 0 (.hoist 1 (.free 2 (.br (.alt 3 (.free 4 (.one 5 (.one 6 .done))) (.alt 5 (.one 3 (.free 4 (.one 6 .done))) .nil)))))) _ rfl (by decide +kernel) (fun w k hh => hh.draw k) (fun w hh => hh) ?_
    refine jn rfl rfl rfl rfl (fun w _ => jR 0 (Tryz.runUnderlying159 w) rfl (Tryz.sizeOf3 w) rfl) ?_
    refine jy rfl rfl rfl rfl (fun w hh => jz (Tryz.isAgg3 w) rfl (segCell (RD hh).f2 0 rfl)) ?_
    refine jn rfl rfl rfl rfl (fun _ _ => Kh hadd rfl rfl) ?_
    refine ZC ?_
    refine zC rfl ?_ ?_
    · refine jd [] [] rfl rfl rfl rfl rfl rfl rfl (fun a w => Tryz.call142 a w) (fun w hh => jbb [] none 0 0 w (HV.callee (S0 := []) (vs0 := []) hh (roC ⟨segOK.nil, fun hx => absurd rfl hx⟩ roN)) rfl AOK.nil (Nat.le_refl 0) ZN) (fun l_1 h6 => ?_)
      refine jj (fun w hh => hh) ?_
      refine jn rfl rfl rfl rfl (fun _ _ => k9 (vs := [(0, _), (1, _)]) (cells := [_, _, _, _]) rfl rfl) ?_
      refine jA rfl ?_
      refine js (fun w => Tryz.zeroValue159 w) rfl (fun b_1 h7 => ?_)
      refine jj (fun w hh => hh.sel [1] [0] 0 (by decide) (by decide) rfl rfl rfl) ?_
      refine jA rfl ?_
      refine kz (us := #[_, _, _, _]) (cs' := [_, _, _, _]) (S' := [_, _]) 0 (fun w => Tryz.sizeOf159 w) rfl rfl rfl rfl rfl rfl rfl ?_
      refine jj (fun w hh => hh.sel [1] [0] 0 (by decide) (by decide) rfl rfl rfl) ?_
      refine jM ?_
      exact jk b_1 (trivial) ((.cons rfl (.cons rfl (.cons rfl (.cons rfl .nil))))) (fun w hh => hh.sel [1, 0] [0] 0 (by decide) (by decide) rfl rfl rfl)
    refine zC rfl ?_ ?_
    · refine js (fun w => Tryz.zeroValue159 w) rfl (fun b_2 h8 => ?_)
      refine jj (fun w hh => hh.sel [1] [0] 0 (by decide) (by decide) rfl rfl rfl) ?_
      refine jA rfl ?_
      refine jd [] [] rfl rfl rfl rfl rfl rfl rfl (fun a w => Tryz.call142 a w) (fun w hh => jbb [] none 0 0 w (HV.callee (S0 := []) (vs0 := []) hh (roC ⟨segOK.nil, fun hx => absurd rfl hx⟩ roN)) rfl AOK.nil (Nat.le_refl 0) ZN) (fun l_2 h9 => ?_)
      refine jj (fun w hh => hh.sel [1] [0] 0 (by decide) (by decide) rfl rfl rfl) ?_
      refine jn rfl rfl rfl rfl (fun _ _ => k9 (vs := [(0, _), (1, _)]) (cells := [_, _, _, _]) rfl rfl) ?_
      refine jA rfl ?_
      refine kz (us := #[_, _, _, _]) (cs' := [_, _, _, _]) (S' := [_, _]) 0 (fun w => Tryz.sizeOf159 w) rfl rfl rfl rfl rfl rfl rfl ?_
      refine jj (fun w hh => hh.sel [1] [0] 0 (by decide) (by decide) rfl rfl rfl) ?_
      refine jM ?_
      exact jk b_2 (trivial) ((.cons rfl (.cons rfl (.cons rfl (.cons rfl .nil))))) (fun w hh => hh.sel [1, 0] [0] 0 (by decide) (by decide) rfl rfl rfl)
    exact QE
  intro bt hj
  refine ja ?_
  refine ji ?_
  refine je ?_
  refine js (fun w => Tryz.zeroValue102 w) rfl (fun bp h10 => ?_)
  refine jx ?_
  refine ja ?_
  refine ji ?_
  refine je ?_
  refine jc rfl rfl rfl (fun _ _ => ku (u := #[]) (u' := #[_, _, _, _, _]) rfl rfl) ?_
  refine q4 (cs' := #[_]) (S' := [_, _, _]) 0 (fun w => Tryz.sizeOf102 w) rfl rfl rfl rfl rfl rfl rfl ?_
  refine jx ?_
  refine ja ?_
  refine je ?_
  refine jc rfl rfl rfl (fun w hh => jz (Tryz.isAgg102 w) rfl (hh.cell 0 rfl rfl)) ?_
  refine Z3 (ι := Bool × γ × Cells) (ret := fun z => .bool z.1) (H' := fun z w' => (ToOK nf [] z.2.2 ∧ if z.1 = true then St (0 + (putL cells.toNat reach s.at_ nf []).length) z.2.1 else Sp z.2.1) ∧ HV w0 M [toO bt s z.2.2, (bp, .cells #[putF b1 by_ bt bs bp] 102 (0, 0)), (by_, .cells #[.func (.yield l) #[] #[]] 216 (0, 0))] [FRm (Y z.2.1 ++ X0)] ro w') rfl rfl rfl rfl rfl rfl rfl (fun a w => Tryz.call162 a w) (fun w hh => ?_) ?_
  · exact put_ok Y St Sp l _ w0 M ro X0 b1 bd bs bt bp by_ cells v1 v3 v4 fq rq nf fc rn rc reach s hrn hrq hok hrd hy nf [] ⟨-1, -1, -1⟩ g0 0 w (by simp) ToOK.start (Seg.all _) h0 (hh.sel [2, 0, 1] [0] 0 (by decide) (by decide) rfl rfl rfl)
  intro ⟨b, g2, c2⟩
  refine Zo (fun w hh => hh.1) (fun hs2 => ?_)
  refine G.pre ?_ (fun w hh => hh.2)
  obtain ⟨_, hs2⟩ := hs2
  simp only at hs2
  refine jx ?_
  refine jaQ rfl (fun w hh => .nil) (fun w hh => ⟨_, rfl, g2, ?_, ?_⟩)
  · cases b with
    | true => exact .inl (by simpa using hs2)
    | false => exact .inr hs2
  · have h9 := hh
    simp only [HV, vbl, VR.bl, FRm, vown, List.nil_append, List.append_nil] at h9
    exact h9.dropN 3 rfl
theorem it_next (w0 : World) (M : List Nat) (ro : List Sg) (b1 bd bs : Nat) (cells : Int) (v1 v3 v4 : Value) (fq rq : Option Addr) (nf fc rn rc : Nat) (fords reach : List Int) (s : State)
    (hfn : fords.length = nf) (hrn : reach.length = rn) (hrq : AOK rn rq) (hok : nextOK cells reach (fords.length : Int) s) :
    ItX Tryz.prog 161 [ptr bs 0, ptr b1 0] ((nextL cells reach (fords.length : Int) s).map encS) w0 M ro (RdN b1 bd bs cells v1 v3 v4 fq rq nf fc rn rc reach s) := by
  subst hfn
  exact it_next0 w0 M ro b1 bd bs cells v1 v3 v4 fq rq _ fc rn rc reach s hrn hrq hok
end Go.Proofs.Wb

namespace Go.Proofs.Wb
open Go Go.Fw Go.Gx Go.Sb
set_option maxRecDepth 100000
theorem jaw : Tryz.prog.eqGuardType Tryz.prog.depth 159 = false := by decide +kernel
theorem jaz : Tryz.prog.stoodInHeld 159 = false := by decide +kernel
theorem jan (x y : State) (w : World) : (Op.equalIn 10000 159 (.agg (RSta.cells x).toArray) (.agg (RSta.cells y).toArray)).run Tryz.prog w = .ok (decide (x = y)) w := by
  have h := equal_structA (P := Tryz.prog) (xs := (RSta.cells x).toArray) (ys := (RSta.cells y).toArray) Tryz.underlying159 jaz (.int rfl (fun w => Tryz.isAgg3 w) ⟨_, Tryz.underlying3⟩ rfl rfl (.arr (us := [x.at_.c0, x.at_.c1, x.at_.c2]) (vs := [y.at_.c0, y.at_.c1, y.at_.c2]) rfl (fun w => Tryz.isAgg157 w) (fun w => Tryz.sizeOf157 w) rfl rfl rfl rfl Tryz.underlying157 (fun w => Tryz.sizeOf3 w) (fun w => Tryz.isAgg3 w) Tryz.underlying3 .nil)) w
  rw [h]
  congr 1
  obtain ⟨x0, x1, x2, x3⟩ := x
  obtain ⟨y0, y1, y2, y3⟩ := y
  rw [Bool.eq_iff_iff]
  simp only [Bool.and_eq_true, decide_eq_true_eq, State.mk.injEq, Cells.mk.injEq, List.cons.injEq, and_true]
theorem yz : KeyOK Tryz.prog 159 (kR RSta) := KeyOK.rowA RSta (fun w => Tryz.runUnderlying159 w) (fun x => (.int (fun w => Tryz.isAgg3 w) (fun w => Tryz.runUnderlying3 w) rfl (.arr (us := [x.at_.c0, x.at_.c1, x.at_.c2]) (fun w => Tryz.isAgg157 w) (fun w => Tryz.sizeOf157 w) rfl rfl (fun w => Tryz.runUnderlying157 w) (fun w => Tryz.sizeOf3 w) (fun w => Tryz.isAgg3 w) (fun w => Tryz.runUnderlying3 w) .nil))) jan (fun x => by obtain ⟨a, b, c, d⟩ := x; simp [RSta, Instr.sameBits])
end Go.Proofs.Wb

namespace Go.Gx
open Go Go.Fw
def frm (L : List (Nat × Obj)) : VR := ⟨0, [], [], none, L⟩
section
variable {n : Nat} {ds : List Deferred} {e : EnvL} {P : Program} {Q : Exit → Act → World → Prop} {w0 : World} {M : List Nat} {S : List (Nat × Obj)} {vs : List VR} {ro : List Sg}
theorem jat {α σ β ι ι' : Type} (L : List α) (enc : α → Value) {f : α → σ → Option (σ ⊕ β)} {s0 : σ} {o : σ ⊕ β} (hN : iterX f L s0 = some o) (pl : σ → ι → Prop) (mo : σ → ι → List (Nat × Obj)) (mv : σ → ι → List VR) (pl' : β → ι' → Prop) (mo' : β → ι' → List (Nat × Obj)) (mv' : β → ι' → List VR)
    (l0 : ι) (h0 : pl s0 l0) (hw0 : ∀ w, HV w0 M S vs ro w → HV w0 M (mo s0 l0) (mv s0 l0) ro w)
    (rd : World → Prop) (hrd : ∀ s l w, pl s l → HV w0 M (mo s l) (mv s l) ro w → rd w) (hrdR : ∀ b l w, pl' b l → HV w0 M (mo' b l) (mv' b l) ro w → rd w) {g : Operand} {p : Nat} {assign body : Code} {gf : FuncId} {cap : Array Value} {e1 : α → Nat → EnvL} (oa : α → Obj)
    (hit : ItX P gf cap.toList (L.map enc) w0 M ro rd) (hg : ev e g = some (.func (.func gf) #[] cap)) (hcall : ∀ args w, (callFunc gf args).run P w = .ok (.enter gf args) w) (hpn : Nat.blt p n = true)
    (ha : ∀ (x : α) (lr : Nat) (L : List (Nat × Obj)) (X : Act → World → Prop), (∀ b, G n [] (e1 x b) (HV w0 M [(b, oa x)] [frm L] ro) X) → G n [] ((p, enc x) :: e) (HV w0 M [] [frm L] ro) (assign.wpIn (fw (some lr)) 0 P (thenQ X (fun _ _ _ => False))))
    (hb : ∀ x s r l lr w1 b, pl s l → f x s = some r → (∀ b, r = .inr b → o = .inr b) → G n [] (e1 x b) (HV w1 (keys ((b, oa x) :: mo s l) (mv s l)) ((b, oa x) :: mo s l) (mv s l) ro) (body.wpIn (fw (some lr)) 0 P (bodyX w1 (keys ((b, oa x) :: mo s l) (mv s l)) r pl mo mv pl' mo' mv')))
    (next : ∀ s l D, o = .inl s → pl s l → G n (Go.Fw.mark D :: ds) e (HV w0 M ((D, .deferred (some [])) :: mo s l) (mv s l) ro) (Q .normal))
    (nextR : ∀ b l D, o = .inr b → pl' b l → G n (Go.Fw.mark D :: ds) e (HV w0 M ((D, .deferred (some [])) :: mo' b l) (mv' b l) ro) (Q .ret)) :
    G n ds e (HV w0 M S vs ro) ((Code.rangeFunc g #[p] assign body).wpIn (fw none) 0 P Q) := by
  refine G.pre (H' := HV w0 M (mo s0 l0) (mv s0 l0) ro) ?_ hw0
  intro a w he hh
  refine wpIn_rangeFunc ?_
  intro fn _
  have hgv := he.eval hg
  have hh0 : HS w0 M (mo s0 l0 ++ vbl (mv s0 l0)) ro w := hh
  have h1 := hh0.alloc (.deferred (some []))
  have h2 := h1.alloc (lrec fn a.tmps #[p] assign body w.heap.size .ready none)
  have hsz : (w.alloc (.deferred (some []))).heap.size = w.heap.size + 1 := by simp
  rw [hsz] at h2
  generalize hD : w.heap.size = D at *
  have hD0 : w0.heap.size ≤ D := by rw [← hD]; exact hh0.size
  refine ⟨D + 1, [Go.Fw.mark D], _, { target := .fn (.func gf) cap, args := #[.func (.yield (D + 1)) #[] #[]] }, (w.alloc (.deferred (some []))).alloc (lrec fn a.tmps #[p] assign body D .ready none), gf, #[.func (.yield (D + 1)) #[] #[]] ++ cap, (w.alloc (.deferred (some []))).alloc (lrec fn a.tmps #[p] assign body D .ready none), (by rw [← hD]; exact run_enterLoop_outer fn a.tmps #[p] assign body), ?_, fun _ _ => trivial, ?_, fun h => by simp [fw] at h, ?_⟩
  · subst hD
    simp only [resolve, hgv]
    simp [Deferred.ofValue, Act.eval]
    rfl
  · simp [invoke, hcall]
  have key := hit (γ := (σ × ι) ⊕ (β × ι')) (fun c => match c with
      | .inl (s, l) => (D + 1, lrec fn a.tmps #[p] assign body D .ready none) :: (D, .deferred (some [])) :: (mo s l ++ vbl (mv s l))
      | .inr (b, l) => (D + 1, lrec fn a.tmps #[p] assign body D .done (some .ret)) :: (D, .deferred (some [])) :: (mo' b l ++ vbl (mv' b l)))
    (fun k c => match c with
      | .inl (s, l) => iterX f (L.take k) s0 = some (.inl s) ∧ pl s l
      | .inr _ => False)
    (fun c => match c with
      | .inl _ => False
      | .inr (b, l) => o = .inr b ∧ pl' b l) (D + 1)
    (fun k c X w hS hX => by
      cases c with
      | inr c => exact hS.elim
      | inl c =>
        exact hrd c.1 c.2 w hS.2 (hX.drop (List.Sublist.cons _ (List.Sublist.cons _ (List.sublist_append_left _ _)))))
    (fun c X w hS hX => by
      cases c with
      | inl c => exact hS.elim
      | inr c =>
        exact hrdR c.1 c.2 w hS.2 (hX.drop (List.Sublist.cons _ (List.Sublist.cons _ (List.sublist_append_left _ _)))))
    (fun j v c X w hv hS hX => ?_) (.inl (s0, l0)) ⟨by simp [iterX], h0⟩ _ [] (by simpa using h2)
  · have hargs : ([Value.func (.yield (D + 1)) #[] #[]] ++ cap.toList).toArray = #[.func (.yield (D + 1)) #[] #[]] ++ cap := by apply Array.toList_inj.1; simp
    rw [hargs] at key
    refine callsIn_fw.2 (key.mono ?_)
    rintro en w' ⟨v, rfl, c, hc, hx⟩
    simp only [List.append_nil] at hx
    cases c with
    | inl c =>
      obtain ⟨s, l⟩ := c
      rcases hc with ⟨hc1, hc2⟩ | hc
      · rw [List.length_map, List.take_length, hN] at hc1
        simp only [Option.some.injEq] at hc1
        refine ⟨none, _, run_endLoop (hx.get 0 rfl) (by simp), ?_⟩
        have hfin := (hx.put 0 (lrec fn a.tmps #[p] assign body D .exhausted none) rfl rfl).dropN 1 rfl
        exact next s l D hc1 hc2 ⟨a.tmps, [Go.Fw.mark D] ++ a.defers⟩ _ ⟨he.size, by simp [he.defs], he.get⟩ hfin
      · exact hc.elim
    | inr c =>
      obtain ⟨b, l⟩ := c
      rcases hc with hc | ⟨hc1, hc2⟩
      · exact hc.elim
      · refine ⟨some .ret, _, run_endLoop (hx.get 0 rfl) (by simp), ?_⟩
        have hfin := (hx.put 0 (lrec fn a.tmps #[p] assign body D .exhausted (some .ret)) rfl rfl).dropN 1 rfl
        exact wpIn_ret (nextR b l D hc1 hc2 ⟨a.tmps, [Go.Fw.mark D] ++ a.defers⟩ _ ⟨he.size, by simp [he.defs], he.get⟩ hfin)
  · cases c with
    | inr c => exact hS.elim
    | inl c =>
    obtain ⟨s, l⟩ := c
    obtain ⟨hS1, hS2⟩ := hS
    rw [List.getElem?_map, Option.map_eq_some_iff] at hv
    obtain ⟨x, hx, rfl⟩ := hv
    obtain ⟨r, hr1, hr2, hr3⟩ := iterX_step hN hx hS1
    have hl := hX.get 0 rfl
    refine ⟨fn, _, assign, body, run_yield (P := P) (args := #[enc x]) hl (by simp), ?_⟩
    refine roundIn_of_wpIn (F := fw none) trivial ?_
    rw [← thenQ_eq]
    have hE' : Env n [] ((p, enc x) :: e) ⟨(#[p].zip #[enc x]).foldl (fun t (y : Nat × Value) => t.setIfInBounds y.1 y.2) a.tmps, []⟩ := by
      have hz := yenv_ok (n := n) [p] [enc x] e a.tmps rfl (by intro q hq; simp at hq; subst hq; simpa using hpn) ⟨he.size, rfl, he.get⟩
      simpa [yenv] using hz
    have hX0 : HV w0 M [] [frm ((D + 1, lrec fn a.tmps #[p] assign body D .ready none) :: (D, .deferred (some [])) :: (mo s l ++ vbl (mv s l)) ++ X)] ro w := by
      simpa [HV, vbl, VR.bl, frm, vown] using hX
    refine ha x _ _ _ (fun b => ?_) _ w hE' hX0
    intro a1 w1 he1 hh1
    have hh1' : HS w0 M ((b, oa x) :: (D + 1, lrec fn a.tmps #[p] assign body D .ready none) :: (D, .deferred (some [])) :: ((mo s l ++ vbl (mv s l)) ++ X)) ro w1 := by
      simpa [HV, vbl, VR.bl, frm, vown] using hh1
    have hl1 := hh1'.get 1 rfl
    refine ⟨_, run_beginRound hl1 rfl, ?_⟩
    have hbusy := hh1'.put 1 (lrec fn a.tmps #[p] assign body D .busy none) rfl rfl
    obtain ⟨w2, hw2⟩ : ∃ w2, w2 = w1.putObj (D + 1) (lrec fn a.tmps #[p] assign body D .busy none) := ⟨_, rfl⟩
    rw [← hw2] at hbusy
    show Code.wpIn (fw (some (D + 1))) 0 P body _ a1 (w1.putObj (D + 1) (lrec fn a.tmps #[p] assign body D .busy none))
    rw [← hw2]
    have hh2 : HS w0 M ((b, oa x) :: ((mo s l ++ vbl (mv s l)) ++ ((D + 1, lrec fn a.tmps #[p] assign body D .busy none) :: (D, .deferred (some [])) :: X))) ro w2 := HS.perm hbusy (by
      show ((b, oa x) :: (D + 1, lrec fn a.tmps #[p] assign body D .busy none) :: (D, Obj.deferred (some [])) :: ((mo s l ++ vbl (mv s l)) ++ X)).Perm _
      exact List.Perm.cons _ (List.perm_middle.trans (List.Perm.cons _ List.perm_middle)).symm)
    have hh3 : HV w0 M (((b, oa x) :: mo s l) ++ ((D + 1, lrec fn a.tmps #[p] assign body D .busy none) :: (D, .deferred (some [])) :: X)) (mv s l ++ []) ro w2 := HS.perm hh2 (by
      simp only [List.append_nil, List.cons_append]
      refine List.Perm.cons _ ?_
      rw [List.append_assoc, List.append_assoc]
      exact List.Perm.append_left _ List.perm_append_comm)
    have hc := HV.callee (S0 := (b, oa x) :: mo s l) (vs0 := mv s l) (ro0 := ro) hh3 (fun t ht => hh3.rsepM ht)
    refine Go.wpIn_mono (hb x s r l _ w2 b hS2 hr1 hr3 a1 w2 he1 hc) ?_
    have back : ∀ (S1 : List (Nat × Obj)) (vs1 : List VR) (w3 : World), HV w2 (keys ((b, oa x) :: mo s l) (mv s l)) S1 vs1 [] w3 → HS w0 M ((D + 1, lrec fn a.tmps #[p] assign body D .busy none) :: (D, .deferred (some [])) :: ((S1 ++ vbl vs1) ++ X)) ro w3 := fun S1 vs1 w3 hv' => by
      have hb2 := HV.back hh3 hv'
      refine HS.perm hb2 ?_
      simp only [List.append_nil]
      rw [List.append_assoc]
      refine (List.Perm.append_left _ List.perm_append_comm).trans ?_
      rw [← List.append_assoc]
      exact (List.perm_middle.trans (List.Perm.cons _ List.perm_middle))
    rintro ex a2 w3 (⟨rfl, s', l', rfl, hp', hv'⟩ | ⟨rfl, b', l', rfl, hp', hv'⟩)
    · have hb3 := back _ _ _ hv'
      refine ⟨_, _, run_endRound none (hb3.get 0 rfl), .inl ⟨rfl, .inl (s', l'), ⟨hr2 s' rfl, hp'⟩, ?_⟩⟩
      exact hb3.put 0 (lrec fn a.tmps #[p] assign body D .ready none) rfl rfl
    · have hb3 := back _ _ _ hv'
      refine ⟨_, _, run_endRound (some .ret) (hb3.get 0 rfl), .inr ⟨rfl, .inr (b', l'), ⟨hr3 b' rfl, hp'⟩, ?_⟩⟩
      exact hb3.put 0 (lrec fn a.tmps #[p] assign body D .done (some .ret)) rfl rfl
theorem Qp {α σ ι : Type} (L : List α) (enc : α → Value) {f : α → σ → Option σ} {s0 : σ} {o : σ} (hN : iterL f L s0 = some o) (pl : σ → ι → Prop) (mo : σ → ι → List (Nat × Obj)) (mv : σ → ι → List VR)
    (l0 : ι) (h0 : pl s0 l0) (hw0 : ∀ w, HV w0 M S vs ro w → HV w0 M (mo s0 l0) (mv s0 l0) ro w)
    (rd : World → Prop) (hrd : ∀ s l w, pl s l → HV w0 M (mo s l) (mv s l) ro w → rd w) {g : Operand} {p : Nat} {assign body : Code} {gf : FuncId} {cap : Array Value} {e1 : α → Nat → EnvL} (oa : α → Obj)
    (hit : ItX P gf cap.toList (L.map enc) w0 M ro rd) (hg : ev e g = some (.func (.func gf) #[] cap)) (hcall : ∀ args w, (callFunc gf args).run P w = .ok (.enter gf args) w) (hpn : Nat.blt p n = true)
    (ha : ∀ (x : α) (lr : Nat) (L : List (Nat × Obj)) (X : Act → World → Prop), (∀ b, G n [] (e1 x b) (HV w0 M [(b, oa x)] [frm L] ro) X) → G n [] ((p, enc x) :: e) (HV w0 M [] [frm L] ro) (assign.wpIn (fw (some lr)) 0 P (thenQ X (fun _ _ _ => False))))
    (hb : ∀ x s r l lr w1 b, pl s l → f x s = some r → G n [] (e1 x b) (HV w1 (keys ((b, oa x) :: mo s l) (mv s l)) ((b, oa x) :: mo s l) (mv s l) ro) (body.wpIn (fw (some lr)) 0 P (bodyL w1 (keys ((b, oa x) :: mo s l) (mv s l)) r pl mo mv)))
    (next : ∀ l D, pl o l → G n (Go.Fw.mark D :: ds) e (HV w0 M ((D, .deferred (some [])) :: mo o l) (mv o l) ro) (Q .normal)) :
    G n ds e (HV w0 M S vs ro) ((Code.rangeFunc g #[p] assign body).wpIn (fw none) 0 P Q) := by
  refine jat (β := Empty) (ι' := Unit) (f := fun x s => (f x s).bind fun s' => some (.inl s')) (s0 := s0) (o := .inl o) L enc (by rw [iterX_L, hN]; rfl) pl mo mv (fun _ _ => False) (fun _ _ => []) (fun _ _ => []) l0 h0 hw0 rd hrd (fun _ _ _ h => h.elim) oa hit hg hcall hpn ha ?_ ?_ (fun _ _ _ _ h => h.elim)
  · intro x s r l lr w1 b hp hf _
    cases hfs : f x s with
    | none => rw [hfs] at hf; simp at hf
    | some s' =>
      rw [hfs] at hf
      simp only [Option.bind_some, Option.some.injEq] at hf
      subst hf
      refine (hb x s s' l lr w1 b hp hfs).mono (fun a w h => Go.wpIn_mono h ?_)
      rintro ex a2 w2 ⟨rfl, s2, l2, rfl, h2, h3⟩
      exact .inl ⟨rfl, s', l2, rfl, h2, h3⟩
  · intro s l D ho hp
    injection ho with ho
    subst ho
    exact next l D hp
end
end Go.Gx

namespace Go.Gx
open Go Go.Fw
section
variable {P : Program} {e : EnvL} {w : World} {dst : Option Nat} {ty : TypeId} {pos : String} {after : Array Edge} {g : Option (Nat × Bool)}
end
section
variable {w0 : World} {M : List Nat} {S : List (Nat × Obj)} {vs : List VR} {ro : List Sg}
end
end Go.Gx
namespace Go.Gx
open Go Go.Fw
section
variable {P : Program} {e : EnvL} {w : World} {dst : Option Nat} {ty : TypeId} {pos : String} {after : Array Edge} {g : Option (Nat × Bool)}
theorem jaI {t u E : TypeId} {x y : Operand} {a : Addr} {n c : Nat} (hu : (underlying t).run P w = .ok (.slice E) w) (hx : ev e x = some (.slice (some a) n c)) (hy : ev e y = some (.slice none 0 0)) :
    Val P e w ⟨dst, .binOp .eql t x y u, ty, pos, after, g⟩ (.bool false) := fun n' ds ac he => by
  have h2 : (eqGuard .eql t x y (.slice (some a) n c) (.slice none 0 0)).run P w = .ok () w := rfl
  have h4 : (binOp .eql t (.slice (some a) n c) (.slice none 0 0)).run P w = .ok (.bool false) w := by
    simp only [binOp_eql_sl, Sem.run_bind, run_eqNil hu, Result.andThen_ok, Sem.run_pure]
    rfl
  simp only [execOp, he.eval hx, he.eval hy, Sem.run_bind, h2, Result.andThen_ok, h4, Sem.run_pure]
theorem jaH {t u E : TypeId} {x y : Operand} {n c : Nat} (hu : (underlying t).run P w = .ok (.slice E) w) (hx : ev e x = some (.slice none n c)) (hy : ev e y = some (.slice none 0 0)) :
    Val P e w ⟨dst, .binOp .eql t x y u, ty, pos, after, g⟩ (.bool true) := fun n' ds ac he => by
  have h2 : (eqGuard .eql t x y (.slice none n c) (.slice none 0 0)).run P w = .ok () w := rfl
  have h4 : (binOp .eql t (.slice none n c) (.slice none 0 0)).run P w = .ok (.bool true) w := by
    simp only [binOp_eql_sl, Sem.run_bind, run_eqNil hu, Result.andThen_ok, Sem.run_pure]
    rfl
  simp only [execOp, he.eval hx, he.eval hy, Sem.run_bind, h2, Result.andThen_ok, h4, Sem.run_pure]
end
theorem AOK.len0 {n : Nat} (h : AOK n none) : n = 0 := by
  rcases Nat.eq_zero_or_pos n with h0 | h0
  · exact h0
  · obtain ⟨b, o, h1⟩ := h h0
    exact absurd h1 (by simp)
theorem AOK.nilL {α : Type} {l : List α} {n : Nat} (h : AOK n none) (hn : l.length = n) : l = [] := List.length_eq_zero_iff.1 (by rw [hn, h.len0])
end Go.Gx

namespace Go.Proofs.Wb
set_option maxHeartbeats 4000000
set_option maxRecDepth 100000
open Go Go.Fw Go.Gx Go.Sb
open Tryz
set_option linter.unusedVariables false
theorem KZ : (Tryz.prog.info? 3).map (fun i => (i.zero, i.size, i.bytes)) = some (some (.int .i64 0), 1, 8) := by kernel_rfl
theorem jal : (Tryz.prog.info? 22).map (fun i => (i.zero, i.size, i.bytes)) = some (some (.slice none 0 0), 1, 24) := by kernel_rfl
theorem YP : (Tryz.prog.info? 55).map (fun i => (i.zero, i.size, i.bytes)) = some (some (.agg #[.int .i64 0, .int .i64 0, .bool false]), 3, 24) := by kernel_rfl
theorem ZS : (Tryz.prog.info? 66).map (fun i => (i.zero, i.size, i.bytes)) = some (some (.int .i64 0), 1, 8) := by kernel_rfl
theorem Zy : (Tryz.prog.info? 98).map (fun i => (i.zero, i.size, i.bytes)) = some (some (.agg #[.int .i64 0, .int .i64 0, .int .i64 0]), 3, 24) := by kernel_rfl
theorem jaD : (Tryz.prog.info? 155).map (fun i => (i.zero, i.size, i.bytes)) = some (some (.slice none 0 0), 1, 24) := by kernel_rfl
theorem Z6 : (Tryz.prog.info? 159).map (fun i => (i.zero, i.size, i.bytes)) = some (some (.agg #[.int .i64 0, .int .i64 0, .int .i64 0, .int .i64 0]), 4, 32) := by kernel_rfl
theorem ja7 : (Tryz.prog.info? 55).map (fun i => i.size) = some 3 := by kernel_rfl
theorem jaR : Tryz.prog.eqGuardType Tryz.prog.depth 50 = false := by decide +kernel
theorem jaW : Tryz.prog.stoodInHeld 50 = false := by decide +kernel
theorem ja3 (x y : Span) (w : World) : (Op.equalIn 10000 50 (.agg (RSp.cells x).toArray) (.agg (RSp.cells y).toArray)).run Tryz.prog w = .ok (decide (x = y)) w := by
  have h := equal_struct (xs := (RSp.cells x).toArray) (ys := (RSp.cells y).toArray) underlying50 jaW (.int Y (fun w => isAgg3 w) ⟨_, underlying3⟩ Y Y (.int Y (fun w => isAgg3 w) ⟨_, underlying3⟩ Y Y .nil)) w
  rw [h]
  congr 1
  cases x; cases y
  rw [Bool.eq_iff_iff]
  simp only [Bool.and_eq_true, decide_eq_true_eq, Span.mk.injEq, and_true]
theorem jaX : Tryz.prog.eqGuardType Tryz.prog.depth 55 = false := by decide +kernel
theorem jaP : Tryz.prog.stoodInHeld 55 = false := by decide +kernel
theorem ja9 (x y : Sight) (w : World) : (Op.equalIn 10000 55 (.agg (RSi.cells x).toArray) (.agg (RSi.cells y).toArray)).run Tryz.prog w = .ok (decide (x = y)) w := by
  have h := equal_struct (xs := (RSi.cells x).toArray) (ys := (RSi.cells y).toArray) underlying55 jaP (.int Y (fun w => isAgg3 w) ⟨_, underlying3⟩ Y Y (.int Y (fun w => isAgg3 w) ⟨_, underlying3⟩ Y Y (.bool Y (fun w => isAgg4 w) underlying4 Y Y .nil))) w
  rw [h]
  congr 1
  cases x; cases y
  rw [Bool.eq_iff_iff]
  simp only [Bool.and_eq_true, decide_eq_true_eq, Sight.mk.injEq, and_true]
structure JQ where
  r0_0 : Int
  r0_1 : Int
  r0_2 : (List Int)
  r0_3 : (List Sand)
def kS (tides0 : Int) (sights1 : (List Sight)) : Option JQ :=
 some (⟨6, tides0, [1, 4], [(⟨(⟨0, 2⟩ : Span), 1⟩ : Sand)]⟩ : JQ)
theorem qI (tides0 : Int) (sights1 : (List Sight)) (qa0 : Option Addr) (na0 ca0 : Nat) (w : World) (hw : HV w (keys [] []) [] [] [(aB qa0, aO qa0, RSi.enc sights1)] w) (hna0 : sights1.length = na0) (hqa0 : AOK na0 qa0) (hla0 : na0 ≤ ca0) {res : JQ} (hm : kS tides0 sights1 = some res) :
    Calls Tryz.prog 70 #[.int .i64 tides0, .slice qa0 na0 ca0] w (fun en w' => ∃ l : VL × VL, en = .returned (.agg #[.int .i64 res.r0_0, .int .i64 res.r0_1, sL l.1, sL l.2, .slice qa0 na0 ca0]) ∧ (VOK 1 l.1.n l.1.cap (RI.enc res.r0_2) l.1.sp l.1.q ∧ VOK 3 l.2.n l.2.cap (RSa.enc res.r0_3) l.2.sp l.2.q) ∧ HV w (keys [] []) [] [vL 3 l.1 (RI.enc res.r0_2), vL 98 l.2 (RSa.enc res.r0_3)] [] w') := by
  unfold kS at hm
  refine yr func70 Y ntmps70 Y (e := [(0, _), (1, _)]) Y hw (jr ?_)
  refine js (fun w => zeroValue26 w) Y (fun b h3 => ?_)
  refine k7 (jg Y Y ?_)
  refine qE RI [1, 4] (ps := [(0, _), (1, _)]) (cells := [_, _]) (fun w => runUnderlying22 w) (fun w => sizeOf3 w) (fun w => zeroValue3 w) Y Y Y Y Y Y Y Y (fun L h4 => ?_)
  refine jc Y Y Y (fun _ _ => k9 (vs := [(0, _), (1, _)]) (cells := [_, _]) Y Y) (jc Y Y Y (fun _ _ => k9 (vs := [(0, _), (1, _)]) (cells := [_, _, _]) Y Y) ?_)
  refine qE RSa [(⟨(⟨0, 2⟩ : Span), 1⟩ : Sand)] (ps := [(0, _)]) (cells := [_, _, _]) (fun w => runUnderlying23 w) (fun w => sizeOf98 w) (fun w => zeroValue98 w) Y Y Y Y Y Y Y Y (fun L_1 h5 => ?_)
  refine jg Y Y (jc Y Y Y (fun _ _ => k9 (vs := [(0, _), (1, _), (2, _), (3, _), (4, _)]) (cells := [_, _, _, _, _]) Y Y) (kz (us := #[_, _, _, _, _]) (cs' := [_, _, _, _, _]) (S' := [_]) 0 (fun w => sizeOf26 w) Y Y Y Y Y Y Y (jq (jv ?_))))
  obtain rfl := sj hm
  refine jm Y (fun w hh => (.cell Y (loadVar_agg (vs := [_, _, _, _, _]) (isAgg26 _) (sizeOf26 _) (hh.cells 0 Y Y)) .nil)) (fun w hh => ⟨(L, L_1), rfl, ⟨h4, h5⟩, hh.se [] [1, 0] 1 Y Y Y rfl⟩)
def qH (n0 : Int) (lo1 : Int) (hi2 : Int) : Option Bool :=
 (if lo1 ≤ n0 then
 (some (decide (n0 ≤ hi2))) else
 (some false)).bind fun o =>
 some o
theorem z1 (n0 : Int) (lo1 : Int) (hi2 : Int)  (w : World) (hw : HV w (keys [] []) [] [] [] w)  {res : Bool} (hm : qH n0 lo1 hi2 = some res) :
    Calls Tryz.prog 106 #[.int .i64 n0, .int .i64 lo1, .int .i64 hi2] w (fun en w' => ∃ l : Unit, en = .returned (.bool res) ∧ (True) ∧ HV w (keys [] []) [] [] [] w') := by
  unfold qH at hm
  refine yr func106 Y ntmps106 Y (e := [(0, _), (1, _), (2, _)]) Y hw (jr (jo Y Y (jq (ji ?_))))
  obtain ⟨o, h1, h2⟩ := bindO hm
  refine j3 (ι := Unit) (fun l => True) (fun l => [(6, .bool o)]) (fun l => []) (fun l => []) ?_ ?_
  ·replace hm := h1
   refine je (jg Y Y (jg Y Y (jc Y Y Y (fun _ _ => YI Y Y) (jg Y Y ?_))))
   refine j4 10 Y (fun h3 => ?_) (fun h3 => ?_)
   ·replace hm := ifD h3 hm
    refine jb Y Y (jg Y Y (jb Y Y (jg Y Y (jb Y Y (jc Y Y Y (fun _ _ => Z1 Y Y) (yy Y Y Y (jo Y Y ?_)))))))
    refine jx ?_
    obtain rfl := sj hm
    exact jk () (trivial) (sE Y) (fun w hh => hh)
   replace hm := ifE h3 hm
   refine g_k Y Y Y Y (g_k Y Y Y Y (g_k Y Y Y Y (zu Y Y Y (jo Y Y (jx ?_)))))
   obtain rfl := sj hm
   exact jk () (trivial) (sE Y) (fun w hh => hh)
  intro l hj
  replace hm := h2
  refine ja (jv ?_)
  obtain rfl := sj hm
  refine jm Y (fun w hh => (.tmp Y .nil)) (fun w hh => ⟨(), rfl, trivial, hh⟩)
def JG (s0 : Sand) : Option Bool :=
 (qH s0.reach 1 2).bind fun t5 =>
 some t5
theorem YY (s0 : Sand)  (w : World) (hw : HV w (keys [] []) [] [] [] w)  {res : Bool} (hm : JG s0 = some res) :
    Calls Tryz.prog 133 #[.agg #[.int .i64 s0.span.lo, .int .i64 s0.span.hi, .int .i64 s0.reach]] w (fun en w' => ∃ l : Unit, en = .returned (.bool res) ∧ (True) ∧ HV w (keys [] []) [] [] [] w') := by
  unfold JG at hm
  refine yr func133 Y ntmps133 Y (e := [(0, _)]) Y hw (jr ?_)
  refine jI Y Y (fun b h1 => ?_)
  refine jo Y Y (k7 (yD 2 runUnderlying98 Y sizeOf3 Y Y (yf 0 isAgg3 Y Y Y Y ?_)))
  obtain ⟨t5, h2, hm⟩ := bindO hm
  refine jd [] [] Y Y Y Y Y Y Y call106 (fun w hh => z1 s0.reach 1 2 w (HV.callee (S0 := []) (vs0 := []) hh roN)  h2) (fun l h3 => ?_)
  refine jo Y Y (jq (jv ?_))
  obtain rfl := sj hm
  refine jm Y (fun w hh => (.tmp Y .nil)) (fun w hh => ⟨(), rfl, trivial, hh.se [] [] 0 Y Y Y rfl⟩)
def kV (x0 : Sand) : Option Bool :=
 (JG x0).bind fun t6 =>
 some (!t6)
theorem KC (x0 : Sand) (rb : Nat) (w : World) (hw : HV w (keys [] []) [] [] [(rb, 0, [.func (.func 133) #[] #[]])] w)  {res : Bool} (hm : kV x0 = some res) :
    Calls Tryz.prog 175 #[.agg #[.int .i64 x0.span.lo, .int .i64 x0.span.hi, .int .i64 x0.reach], ptr rb 0] w (fun en w' => ∃ l : Unit, en = .returned (.bool res) ∧ (True) ∧ HV w (keys [] []) [] [] [] w') := by
  unfold kV at hm
  refine yr func175 Y ntmps175 Y (e := [(0, _), (1, _)]) Y hw (jr ?_)
  refine jI Y Y (fun b h1 => ?_)
  refine jo Y Y (k7 (jc Y Y Y (fun w hh => jz (isAgg188 w) Y (segCell (hh.seg 0 Y) 0 Y)) (zX [_, _, _] 0 isAgg98 sizeOf98 Y Y Y Y ?_)))
  obtain ⟨t6, h2, hm⟩ := bindO hm
  refine jd [] [] Y Y Y Y Y Y Y call133 (fun w hh => YY x0 w (HV.callee (S0 := []) (vs0 := []) hh roN)  h2) (fun l h3 => ?_)
  refine jc Y Y Y (fun _ _ => zt Y) (jo Y Y (jq (jv ?_)))
  obtain rfl := sj hm
  refine jm Y (fun w hh => (.tmp Y .nil)) (fun w hh => ⟨(), rfl, trivial, hh.se [] [] 1 Y Y Y rfl⟩)
def qi (s0 : (List Sand)) (s : Int) : Option (Int ⊕ (Unit ⊕ Int)) :=
 if s < (s0.length : Int) then
 ((ix s0 s).bind fun t14 =>
 (kV (⟨(⟨t14.span.lo, t14.span.hi⟩ : Span), t14.reach⟩ : Sand)).bind fun t16 =>
 if t16 = true then
 (some (.inr (.inr s))) else
 ((addc s 1).bind fun t18 =>
 some (.inl t18))) else
 (some (.inr (.inl ())))
def kL (s0 : (List Sand)) : Option Int :=
 (iterM FU (qi s0) 0).bind fun o =>
 oc o (fun j => some (-1)) (fun r_1 => some r_1)
theorem JO (s0 : (List Sand)) (qa0 : Option Addr) (na0 ca0 : Nat) (rb : Nat) (w : World) (hw : HV w (keys [] []) [] [] [(aB qa0, aO qa0, RSa.enc s0), (rb, 0, [.func (.func 133) #[] #[]])] w) (hna0 : s0.length = na0) (hqa0 : AOK na0 qa0) (hla0 : na0 ≤ ca0)  {res : Int} (hm : kL s0 = some res) :
    Calls Tryz.prog 202 #[.slice qa0 na0 ca0, .func (.func 175) #[] #[ptr rb 0]] w (fun en w' => ∃ l : Unit, en = .returned (.int .i64 res) ∧ (True) ∧ HV w (keys [] []) [] [] [] w') := by
  unfold kL at hm
  refine yr func202 Y ntmps202 Y (e := [(0, _), (1, _)]) Y hw (jr (jo Y Y (jq (ji (jr (jg Y Y (jc Y Y Y (fun w _ => qd hna0 (runUnderlying23 w) Y) ?_)))))))
  refine jg Y Y (jq ?_)
  obtain ⟨o, h1, h2⟩ := bindO hm
  refine j3 (ι := Unit) (fun j => o = .inl j) (fun j => []) (fun j => []) (fun j => []) ?_ ?_
  ·replace hm := h1
   refine jp ?_
   refine kk (ι := Unit) hm (fun s l => True) (fun s l => [(0, .slice qa0 na0 ca0), (1, .func (.func 175) #[] #[ptr rb 0]), (7, .int .i64 (s0.length : Int)), (8, .int .i64 s)]) (fun s l => []) (fun s l => []) () (trivial) (sE Y) (fun w hh => hh) (fun s l r hpl hm h3 => ?_)
   unfold qi at hm
   refine jr (Kv Y Y Y (jq (ji ?_)))
   refine ju Y (fun h4 => ?_) (fun h4 => ?_)
   ·replace hm := ifD h4 hm
    refine jt (ja (ji (jp (jr (jg Y Y (jo Y Y (k7 ?_)))))))
    refine jg Y Y (jg Y Y (jg Y Y ?_))
    obtain ⟨t14, h5, hm⟩ := bindO hm
    refine jc Y Y Y (fun w _ => Jy h5 (runUnderlying23 w) (sizeOf98 w) Y Y hna0 hqa0) ?_
    refine jc Y Y Y (fun w hh => JE RSa 0 [.int .i64 t14.span.lo, .int .i64 t14.span.hi, .int .i64 t14.reach] h5 (isAgg98 w) (sizeOf98 w) Y (hh.seg 0 Y) Y (Nat.add_zero _).symm) ?_
    obtain ⟨t16, h6, hm⟩ := bindO hm
    refine jd [] [] Y Y Y Y Y Y Y call175 (fun w hh => KC (⟨(⟨t14.span.lo, t14.span.hi⟩ : Span), t14.reach⟩ : Sand) rb w (HV.callee (S0 := []) (vs0 := []) hh (roR hh 1 Y roN))  h6) (fun l_1 h7 => ?_)
    refine jq ?_
    refine ju Y (fun h8 => ?_) (fun h8 => ?_)
    ·replace hm := ifT (h8) hm
     refine jr (jg Y Y (jo Y Y (jq (jv (jJ (jh (jh ?_)))))))
     refine jJ ?_
     obtain rfl := sj hm
     have hbo := h3 _ Y
     subst hbo
     refine jh ?_
     replace hm := ocR h2
     refine jh ?_
     obtain rfl := sj hm
     refine jm Y (fun w hh => (.tmp Y .nil)) (fun w hh => ⟨(), rfl, trivial, hh.se [] [] 2 Y Y Y rfl⟩)
    replace hm := ifN h8 hm
    refine jt (jw (ja (je ?_)))
    obtain ⟨t18, h9, hm⟩ := bindO hm
    refine Kq h9 Y Y Y (jg Y Y (jx ?_))
    obtain rfl := sj hm
    refine ja ?_
    exact jN _ () Y (trivial) (sE Y) (fun w hh => hh)
   replace hm := ifE h4 hm
   refine kN (jl (jl (jO ?_)))
   obtain rfl := sj hm
   have hbo := h3 _ Y
   subst hbo
   exact jk () (Y) (.nil) (fun w hh => hh)
  intro j hj
  have h10 := hj
  subst h10
  replace hm := ocL h2
  refine ja (jr (jo Y Y (jq (jv ?_))))
  obtain rfl := sj hm
  refine jm Y (fun w hh => (.tmp Y .nil)) (fun w hh => ⟨(), rfl, trivial, hh.se [] [] 2 Y Y Y rfl⟩)
def kh (s0 : (List Sand)) : Option Bool :=
 (kL s0).bind fun t7 =>
 some (decide (0 ≤ t7))
theorem Jj (s0 : (List Sand)) (qa0 : Option Addr) (na0 ca0 : Nat) (rb : Nat) (w : World) (hw : HV w (keys [] []) [] [] [(aB qa0, aO qa0, RSa.enc s0), (rb, 0, [.func (.func 133) #[] #[]])] w) (hna0 : s0.length = na0) (hqa0 : AOK na0 qa0) (hla0 : na0 ≤ ca0)  {res : Bool} (hm : kh s0 = some res) :
    Calls Tryz.prog 174 #[.slice qa0 na0 ca0, .func (.func 175) #[] #[ptr rb 0]] w (fun en w' => ∃ l : Unit, en = .returned (.bool res) ∧ (True) ∧ HV w (keys [] []) [] [] [] w') := by
  unfold kh at hm
  refine yr func174 Y ntmps174 Y (e := [(0, _), (1, _)]) Y hw (jr (jo Y Y (k7 (jg Y Y (jg Y Y ?_)))))
  obtain ⟨t7, h1, hm⟩ := bindO hm
  refine jd [] [] Y Y Y Y Y Y Y call202 (fun w hh => JO s0 qa0 na0 ca0 rb w (HV.callee (S0 := []) (vs0 := []) hh (roR hh 0 Y (roR hh 1 Y roN))) hna0 hqa0 hla0 h1) (fun l h2 => ?_)
  refine jc Y Y Y (fun _ _ => YI Y Y) (jo Y Y (jq (jv ?_)))
  obtain rfl := sj hm
  refine jm Y (fun w hh => (.tmp Y .nil)) (fun w hh => ⟨(), rfl, trivial, hh.se [] [] 2 Y Y Y rfl⟩)
def qw (l0 : (List Sand)) : Option Bool :=
 (kh l0).bind fun t7 =>
 some (!t7)
theorem Qh (l0 : (List Sand)) (qa0 : Option Addr) (na0 ca0 : Nat) (w : World) (hw : HV w (keys [] []) [] [] [(aB qa0, aO qa0, RSa.enc l0)] w) (hna0 : l0.length = na0) (hqa0 : AOK na0 qa0) (hla0 : na0 ≤ ca0) {res : Bool} (hm : qw l0 = some res) :
    Calls Tryz.prog 132 #[.slice qa0 na0 ca0, .func (.func 133) #[] #[]] w (fun en w' => ∃ l : Unit, en = .returned (.bool res) ∧ (True) ∧ HV w (keys [] []) [] [] [] w') := by
  unfold qw at hm
  refine yr func132 Y ntmps132 Y (e := [(0, _), (1, _)]) Y hw (jr ?_)
  refine jI Y Y (fun b h1 => ?_)
  refine jo Y Y (k7 (jg Y Y (jc Y Y Y (fun _ _ => ku (u := #[]) (u' := #[_]) Y Y) ?_)))
  obtain ⟨t7, h2, hm⟩ := bindO hm
  refine jd [] [] Y Y Y Y Y Y Y call174 (fun w hh => Jj l0 qa0 na0 ca0 b w (HV.callee (S0 := []) (vs0 := []) hh (roR hh 0 Y (roC (bsep (hh.bseg 0 Y)) roN))) hna0 hqa0 hla0 h2) (fun l h3 => ?_)
  refine jc Y Y Y (fun _ _ => zt Y) (jo Y Y (jq (jv ?_)))
  obtain rfl := sj hm
  refine jm Y (fun w hh => (.tmp Y .nil)) (fun w hh => ⟨(), rfl, trivial, hh.se [] [] 1 Y Y Y rfl⟩)
def qs (c0 : Channel) (n1 : Int) : Option Bool :=
 (qH n1 0 c0.tides).bind fun t8 =>
 some t8
theorem Ke (c0 : Channel) (n1 : Int) (qa0 : Option Addr) (na0 ca0 : Nat) (qa1 : Option Addr) (na1 ca1 : Nat) (qa2 : Option Addr) (na2 ca2 : Nat) (w : World) (hw : HV w (keys [] []) [] [] [(aB qa0, aO qa0, RI.enc c0.fords), (aB qa1, aO qa1, RSa.enc c0.sands), (aB qa2, aO qa2, RSi.enc c0.sights)] w) (hna0 : c0.fords.length = na0) (hqa0 : AOK na0 qa0) (hla0 : na0 ≤ ca0) (hna1 : c0.sands.length = na1) (hqa1 : AOK na1 qa1) (hla1 : na1 ≤ ca1) (hna2 : c0.sights.length = na2) (hqa2 : AOK na2 qa2) (hla2 : na2 ≤ ca2) {res : Bool} (hm : qs c0 n1 = some res) :
    Calls Tryz.prog 112 #[.agg #[.int .i64 c0.cells, .int .i64 c0.tides, .slice qa0 na0 ca0, .slice qa1 na1 ca1, .slice qa2 na2 ca2], .int .i64 n1] w (fun en w' => ∃ l : Unit, en = .returned (.bool res) ∧ (True) ∧ HV w (keys [] []) [] [] [] w') := by
  unfold qs at hm
  refine yr func112 Y ntmps112 Y (e := [(0, _), (1, _)]) Y hw (jr ?_)
  refine jI Y Y (fun b h1 => ?_)
  refine jo Y Y (k7 (jg Y Y (yD 1 runUnderlying26 Y sizeOf3 Y Y (yf 0 isAgg3 Y Y Y Y ?_))))
  obtain ⟨t8, h2, hm⟩ := bindO hm
  refine jd [] [] Y Y Y Y Y Y Y call106 (fun w hh => z1 n1 0 c0.tides w (HV.callee (S0 := []) (vs0 := []) hh roN)  h2) (fun l h3 => ?_)
  refine jo Y Y (jq (jv ?_))
  obtain rfl := sj hm
  refine jm Y (fun w hh => (.tmp Y .nil)) (fun w hh => ⟨(), rfl, trivial, hh.se [] [] 3 Y Y Y rfl⟩)
def JL (s0 : Sight) (a11_cells : Int) (a11_tides : Int) (a11_fords : (List Int)) (a11_sands : (List Sand)) (a11_sights : (List Sight)) : Option Bool :=
 (qs (⟨a11_cells, a11_tides, a11_fords, a11_sands, a11_sights⟩ : Channel) s0.after).bind fun t7 =>
 some t7
theorem YX (s0 : Sight) (a11_cells : Int) (a11_tides : Int) (a11_fords : (List Int)) (a11_sands : (List Sand)) (a11_sights : (List Sight)) (rb : Nat) (qa1 : Option Addr) (na1 ca1 : Nat) (qa2 : Option Addr) (na2 ca2 : Nat) (qa3 : Option Addr) (na3 ca3 : Nat) (w : World) (hw : HV w (keys [] []) [] [] [(rb, 0, [.int .i64 a11_cells, .int .i64 a11_tides, .slice qa1 na1 ca1, .slice qa2 na2 ca2, .slice qa3 na3 ca3]), (aB qa1, aO qa1, RI.enc a11_fords), (aB qa2, aO qa2, RSa.enc a11_sands), (aB qa3, aO qa3, RSi.enc a11_sights)] w)  (hna1 : a11_fords.length = na1) (hqa1 : AOK na1 qa1) (hla1 : na1 ≤ ca1) (hna2 : a11_sands.length = na2) (hqa2 : AOK na2 qa2) (hla2 : na2 ≤ ca2) (hna3 : a11_sights.length = na3) (hqa3 : AOK na3 qa3) (hla3 : na3 ≤ ca3) {res : Bool} (hm : JL s0 a11_cells a11_tides a11_fords a11_sands a11_sights = some res) :
    Calls Tryz.prog 135 #[.agg #[.int .i64 s0.after, .int .i64 s0.cell, .bool s0.upright], ptr rb 0] w (fun en w' => ∃ l : Unit, en = .returned (.bool res) ∧ (True) ∧ HV w (keys [] []) [] [] [] w') := by
  unfold JL at hm
  refine yr func135 Y ntmps135 Y (e := [(0, _), (1, _)]) Y hw (jr ?_)
  refine jI Y Y (fun b h1 => ?_)
  refine jo Y Y (k7 (jc Y Y Y (fun w hh => jP (vs := [_, _, _, _, _]) (isAgg26 w) (sizeOf26 w) Y (segCells (hh.seg 0 Y) 0 Y)) (yD 0 runUnderlying55 Y sizeOf3 Y Y (yf 0 isAgg3 Y Y Y Y ?_))))
  obtain ⟨t7, h2, hm⟩ := bindO hm
  refine jd [] [] Y Y Y Y Y Y Y call112 (fun w hh => Ke (⟨a11_cells, a11_tides, a11_fords, a11_sands, a11_sights⟩ : Channel) s0.after qa1 na1 ca1 qa2 na2 ca2 qa3 na3 ca3 w (HV.callee (S0 := []) (vs0 := []) hh (roR hh 1 Y (roR hh 2 Y (roR hh 3 Y roN)))) hna1 hqa1 hla1 hna2 hqa2 hla2 hna3 hqa3 hla3 h2) (fun l h3 => ?_)
  refine jo Y Y (jq (jv ?_))
  obtain rfl := sj hm
  refine jm Y (fun w hh => (.tmp Y .nil)) (fun w hh => ⟨(), rfl, trivial, hh.se [] [] 4 Y Y Y rfl⟩)
def kP (x0 : Sight) (a11_c0_cells : Int) (a11_c0_tides : Int) (a11_c0_fords : (List Int)) (a11_c0_sands : (List Sand)) (a11_c0_sights : (List Sight)) : Option Bool :=
 (JL x0 a11_c0_cells a11_c0_tides a11_c0_fords a11_c0_sands a11_c0_sights).bind fun t6 =>
 some (!t6)
theorem Ky (x0 : Sight) (a11_c0_cells : Int) (a11_c0_tides : Int) (a11_c0_fords : (List Int)) (a11_c0_sands : (List Sand)) (a11_c0_sights : (List Sight)) (rb : Nat) (rb_1 : Nat) (qa2 : Option Addr) (na2 ca2 : Nat) (qa3 : Option Addr) (na3 ca3 : Nat) (qa4 : Option Addr) (na4 ca4 : Nat) (w : World) (hw : HV w (keys [] []) [] [] [(rb, 0, [.func (.func 135) #[] #[ptr rb_1 0]]), (rb_1, 0, [.int .i64 a11_c0_cells, .int .i64 a11_c0_tides, .slice qa2 na2 ca2, .slice qa3 na3 ca3, .slice qa4 na4 ca4]), (aB qa2, aO qa2, RI.enc a11_c0_fords), (aB qa3, aO qa3, RSa.enc a11_c0_sands), (aB qa4, aO qa4, RSi.enc a11_c0_sights)] w)   (hna2 : a11_c0_fords.length = na2) (hqa2 : AOK na2 qa2) (hla2 : na2 ≤ ca2) (hna3 : a11_c0_sands.length = na3) (hqa3 : AOK na3 qa3) (hla3 : na3 ≤ ca3) (hna4 : a11_c0_sights.length = na4) (hqa4 : AOK na4 qa4) (hla4 : na4 ≤ ca4) {res : Bool} (hm : kP x0 a11_c0_cells a11_c0_tides a11_c0_fords a11_c0_sands a11_c0_sights = some res) :
    Calls Tryz.prog 176 #[.agg #[.int .i64 x0.after, .int .i64 x0.cell, .bool x0.upright], ptr rb 0] w (fun en w' => ∃ l : Unit, en = .returned (.bool res) ∧ (True) ∧ HV w (keys [] []) [] [] [] w') := by
  unfold kP at hm
  refine yr func176 Y ntmps176 Y (e := [(0, _), (1, _)]) Y hw (jr ?_)
  refine jI Y Y (fun b h1 => ?_)
  refine jo Y Y (k7 (jc Y Y Y (fun w hh => jz (isAgg190 w) Y (segCell (hh.seg 0 Y) 0 Y)) (zX [_, _, _] 0 isAgg55 sizeOf55 Y Y Y Y ?_)))
  obtain ⟨t6, h2, hm⟩ := bindO hm
  refine jd [] [] Y Y Y Y Y Y Y call135 (fun w hh => YX x0 a11_c0_cells a11_c0_tides a11_c0_fords a11_c0_sands a11_c0_sights rb_1 qa2 na2 ca2 qa3 na3 ca3 qa4 na4 ca4 w (HV.callee (S0 := []) (vs0 := []) hh (roR hh 1 Y (roR hh 2 Y (roR hh 3 Y (roR hh 4 Y roN))))) hna2 hqa2 hla2 hna3 hqa3 hla3 hna4 hqa4 hla4 h2) (fun l h3 => ?_)
  refine jc Y Y Y (fun _ _ => zt Y) (jo Y Y (jq (jv ?_)))
  obtain rfl := sj hm
  refine jm Y (fun w hh => (.tmp Y .nil)) (fun w hh => ⟨(), rfl, trivial, hh.se [] [] 5 Y Y Y rfl⟩)
def k3 (s0 : (List Sight)) (f1_c0_c0_cells : Int) (f1_c0_c0_tides : Int) (f1_c0_c0_fords : (List Int)) (f1_c0_c0_sands : (List Sand)) (f1_c0_c0_sights : (List Sight)) (s : Int) : Option (Int ⊕ (Unit ⊕ Int)) :=
 if s < (s0.length : Int) then
 ((ix s0 s).bind fun t14 =>
 (kP (⟨t14.after, t14.cell, t14.upright⟩ : Sight) f1_c0_c0_cells f1_c0_c0_tides f1_c0_c0_fords f1_c0_c0_sands f1_c0_c0_sights).bind fun t16 =>
 if t16 = true then
 (some (.inr (.inr s))) else
 ((addc s 1).bind fun t18 =>
 some (.inl t18))) else
 (some (.inr (.inl ())))
def kn (s0 : (List Sight)) (f1_c0_c0_cells : Int) (f1_c0_c0_tides : Int) (f1_c0_c0_fords : (List Int)) (f1_c0_c0_sands : (List Sand)) (f1_c0_c0_sights : (List Sight)) : Option Int :=
 (iterM FU (k3 s0 f1_c0_c0_cells f1_c0_c0_tides f1_c0_c0_fords f1_c0_c0_sands f1_c0_c0_sights) 0).bind fun o =>
 oc o (fun j => some (-1)) (fun r_1 => some r_1)
theorem Js (s0 : (List Sight)) (f1_c0_c0_cells : Int) (f1_c0_c0_tides : Int) (f1_c0_c0_fords : (List Int)) (f1_c0_c0_sands : (List Sand)) (f1_c0_c0_sights : (List Sight)) (qa0 : Option Addr) (na0 ca0 : Nat) (rb : Nat) (rb_1 : Nat) (qa3 : Option Addr) (na3 ca3 : Nat) (qa4 : Option Addr) (na4 ca4 : Nat) (qa5 : Option Addr) (na5 ca5 : Nat) (w : World) (hw : HV w (keys [] []) [] [] [(aB qa0, aO qa0, RSi.enc s0), (rb, 0, [.func (.func 135) #[] #[ptr rb_1 0]]), (rb_1, 0, [.int .i64 f1_c0_c0_cells, .int .i64 f1_c0_c0_tides, .slice qa3 na3 ca3, .slice qa4 na4 ca4, .slice qa5 na5 ca5]), (aB qa3, aO qa3, RI.enc f1_c0_c0_fords), (aB qa4, aO qa4, RSa.enc f1_c0_c0_sands), (aB qa5, aO qa5, RSi.enc f1_c0_c0_sights)] w) (hna0 : s0.length = na0) (hqa0 : AOK na0 qa0) (hla0 : na0 ≤ ca0)   (hna3 : f1_c0_c0_fords.length = na3) (hqa3 : AOK na3 qa3) (hla3 : na3 ≤ ca3) (hna4 : f1_c0_c0_sands.length = na4) (hqa4 : AOK na4 qa4) (hla4 : na4 ≤ ca4) (hna5 : f1_c0_c0_sights.length = na5) (hqa5 : AOK na5 qa5) (hla5 : na5 ≤ ca5) {res : Int} (hm : kn s0 f1_c0_c0_cells f1_c0_c0_tides f1_c0_c0_fords f1_c0_c0_sands f1_c0_c0_sights = some res) :
    Calls Tryz.prog 183 #[.slice qa0 na0 ca0, .func (.func 176) #[] #[ptr rb 0]] w (fun en w' => ∃ l : Unit, en = .returned (.int .i64 res) ∧ (True) ∧ HV w (keys [] []) [] [] [] w') := by
  unfold kn at hm
  refine yr func183 Y ntmps183 Y (e := [(0, _), (1, _)]) Y hw (jr (jo Y Y (jq (ji (jr (jg Y Y (jc Y Y Y (fun w _ => qd hna0 (runUnderlying24 w) Y) ?_)))))))
  refine jg Y Y (jq ?_)
  obtain ⟨o, h1, h2⟩ := bindO hm
  refine j3 (ι := Unit) (fun j => o = .inl j) (fun j => []) (fun j => []) (fun j => []) ?_ ?_
  ·replace hm := h1
   refine jp ?_
   refine kk (ι := Unit) hm (fun s l => True) (fun s l => [(0, .slice qa0 na0 ca0), (1, .func (.func 176) #[] #[ptr rb 0]), (7, .int .i64 (s0.length : Int)), (8, .int .i64 s)]) (fun s l => []) (fun s l => []) () (trivial) (sE Y) (fun w hh => hh) (fun s l r hpl hm h3 => ?_)
   unfold k3 at hm
   refine jr (Kv Y Y Y (jq (ji ?_)))
   refine ju Y (fun h4 => ?_) (fun h4 => ?_)
   ·replace hm := ifD h4 hm
    refine jt (ja (ji (jp (jr (jg Y Y (jo Y Y (k7 ?_)))))))
    refine jg Y Y (jg Y Y (jg Y Y ?_))
    obtain ⟨t14, h5, hm⟩ := bindO hm
    refine jc Y Y Y (fun w _ => Jy h5 (runUnderlying24 w) (sizeOf55 w) Y Y hna0 hqa0) ?_
    refine jc Y Y Y (fun w hh => JE RSi 0 [.int .i64 t14.after, .int .i64 t14.cell, .bool t14.upright] h5 (isAgg55 w) (sizeOf55 w) Y (hh.seg 0 Y) Y (Nat.add_zero _).symm) ?_
    obtain ⟨t16, h6, hm⟩ := bindO hm
    refine jd [] [] Y Y Y Y Y Y Y call176 (fun w hh => Ky (⟨t14.after, t14.cell, t14.upright⟩ : Sight) f1_c0_c0_cells f1_c0_c0_tides f1_c0_c0_fords f1_c0_c0_sands f1_c0_c0_sights rb rb_1 qa3 na3 ca3 qa4 na4 ca4 qa5 na5 ca5 w (HV.callee (S0 := []) (vs0 := []) hh (roR hh 1 Y (roR hh 2 Y (roR hh 3 Y (roR hh 4 Y (roR hh 5 Y roN)))))) hna3 hqa3 hla3 hna4 hqa4 hla4 hna5 hqa5 hla5 h6) (fun l_1 h7 => ?_)
    refine jq ?_
    refine ju Y (fun h8 => ?_) (fun h8 => ?_)
    ·replace hm := ifT (h8) hm
     refine jr (jg Y Y (jo Y Y (jq (jv (jJ (jh (jh ?_)))))))
     refine jJ ?_
     obtain rfl := sj hm
     have hbo := h3 _ Y
     subst hbo
     refine jh ?_
     replace hm := ocR h2
     refine jh ?_
     obtain rfl := sj hm
     refine jm Y (fun w hh => (.tmp Y .nil)) (fun w hh => ⟨(), rfl, trivial, hh.se [] [] 6 Y Y Y rfl⟩)
    replace hm := ifN h8 hm
    refine jt (jw (ja (je ?_)))
    obtain ⟨t18, h9, hm⟩ := bindO hm
    refine Kq h9 Y Y Y (jg Y Y (jx ?_))
    obtain rfl := sj hm
    refine ja ?_
    exact jN _ () Y (trivial) (sE Y) (fun w hh => hh)
   replace hm := ifE h4 hm
   refine kN (jl (jl (jO ?_)))
   obtain rfl := sj hm
   have hbo := h3 _ Y
   subst hbo
   exact jk () (Y) (.nil) (fun w hh => hh)
  intro j hj
  have h10 := hj
  subst h10
  replace hm := ocL h2
  refine ja (jr (jo Y Y (jq (jv ?_))))
  obtain rfl := sj hm
  refine jm Y (fun w hh => (.tmp Y .nil)) (fun w hh => ⟨(), rfl, trivial, hh.se [] [] 6 Y Y Y rfl⟩)
def jY (s0 : (List Sight)) (f1_c0_c0_cells : Int) (f1_c0_c0_tides : Int) (f1_c0_c0_fords : (List Int)) (f1_c0_c0_sands : (List Sand)) (f1_c0_c0_sights : (List Sight)) : Option Bool :=
 (kn s0 f1_c0_c0_cells f1_c0_c0_tides f1_c0_c0_fords f1_c0_c0_sands f1_c0_c0_sights).bind fun t7 =>
 some (decide (0 ≤ t7))
theorem zZ (s0 : (List Sight)) (f1_c0_c0_cells : Int) (f1_c0_c0_tides : Int) (f1_c0_c0_fords : (List Int)) (f1_c0_c0_sands : (List Sand)) (f1_c0_c0_sights : (List Sight)) (qa0 : Option Addr) (na0 ca0 : Nat) (rb : Nat) (rb_1 : Nat) (qa3 : Option Addr) (na3 ca3 : Nat) (qa4 : Option Addr) (na4 ca4 : Nat) (qa5 : Option Addr) (na5 ca5 : Nat) (w : World) (hw : HV w (keys [] []) [] [] [(aB qa0, aO qa0, RSi.enc s0), (rb, 0, [.func (.func 135) #[] #[ptr rb_1 0]]), (rb_1, 0, [.int .i64 f1_c0_c0_cells, .int .i64 f1_c0_c0_tides, .slice qa3 na3 ca3, .slice qa4 na4 ca4, .slice qa5 na5 ca5]), (aB qa3, aO qa3, RI.enc f1_c0_c0_fords), (aB qa4, aO qa4, RSa.enc f1_c0_c0_sands), (aB qa5, aO qa5, RSi.enc f1_c0_c0_sights)] w) (hna0 : s0.length = na0) (hqa0 : AOK na0 qa0) (hla0 : na0 ≤ ca0)   (hna3 : f1_c0_c0_fords.length = na3) (hqa3 : AOK na3 qa3) (hla3 : na3 ≤ ca3) (hna4 : f1_c0_c0_sands.length = na4) (hqa4 : AOK na4 qa4) (hla4 : na4 ≤ ca4) (hna5 : f1_c0_c0_sights.length = na5) (hqa5 : AOK na5 qa5) (hla5 : na5 ≤ ca5) {res : Bool} (hm : jY s0 f1_c0_c0_cells f1_c0_c0_tides f1_c0_c0_fords f1_c0_c0_sands f1_c0_c0_sights = some res) :
    Calls Tryz.prog 150 #[.slice qa0 na0 ca0, .func (.func 176) #[] #[ptr rb 0]] w (fun en w' => ∃ l : Unit, en = .returned (.bool res) ∧ (True) ∧ HV w (keys [] []) [] [] [] w') := by
  unfold jY at hm
  refine yr func150 Y ntmps150 Y (e := [(0, _), (1, _)]) Y hw (jr (jo Y Y (k7 (jg Y Y (jg Y Y ?_)))))
  obtain ⟨t7, h1, hm⟩ := bindO hm
  refine jd [] [] Y Y Y Y Y Y Y call183 (fun w hh => Js s0 f1_c0_c0_cells f1_c0_c0_tides f1_c0_c0_fords f1_c0_c0_sands f1_c0_c0_sights qa0 na0 ca0 rb rb_1 qa3 na3 ca3 qa4 na4 ca4 qa5 na5 ca5 w (HV.callee (S0 := []) (vs0 := []) hh (roR hh 0 Y (roR hh 1 Y (roR hh 2 Y (roR hh 3 Y (roR hh 4 Y (roR hh 5 Y roN))))))) hna0 hqa0 hla0 hna3 hqa3 hla3 hna4 hqa4 hla4 hna5 hqa5 hla5 h1) (fun l h2 => ?_)
  refine jc Y Y Y (fun _ _ => YI Y Y) (jo Y Y (jq (jv ?_)))
  obtain rfl := sj hm
  refine jm Y (fun w hh => (.tmp Y .nil)) (fun w hh => ⟨(), rfl, trivial, hh.se [] [] 6 Y Y Y rfl⟩)
def qk (l0 : (List Sight)) (holds1_c0_cells : Int) (holds1_c0_tides : Int) (holds1_c0_fords : (List Int)) (holds1_c0_sands : (List Sand)) (holds1_c0_sights : (List Sight)) : Option Bool :=
 (jY l0 holds1_c0_cells holds1_c0_tides holds1_c0_fords holds1_c0_sands holds1_c0_sights).bind fun t7 =>
 some (!t7)
theorem KU (l0 : (List Sight)) (holds1_c0_cells : Int) (holds1_c0_tides : Int) (holds1_c0_fords : (List Int)) (holds1_c0_sands : (List Sand)) (holds1_c0_sights : (List Sight)) (qa0 : Option Addr) (na0 ca0 : Nat) (rb : Nat) (qa2 : Option Addr) (na2 ca2 : Nat) (qa3 : Option Addr) (na3 ca3 : Nat) (qa4 : Option Addr) (na4 ca4 : Nat) (w : World) (hw : HV w (keys [] []) [] [] [(aB qa0, aO qa0, RSi.enc l0), (rb, 0, [.int .i64 holds1_c0_cells, .int .i64 holds1_c0_tides, .slice qa2 na2 ca2, .slice qa3 na3 ca3, .slice qa4 na4 ca4]), (aB qa2, aO qa2, RI.enc holds1_c0_fords), (aB qa3, aO qa3, RSa.enc holds1_c0_sands), (aB qa4, aO qa4, RSi.enc holds1_c0_sights)] w) (hna0 : l0.length = na0) (hqa0 : AOK na0 qa0) (hla0 : na0 ≤ ca0)  (hna2 : holds1_c0_fords.length = na2) (hqa2 : AOK na2 qa2) (hla2 : na2 ≤ ca2) (hna3 : holds1_c0_sands.length = na3) (hqa3 : AOK na3 qa3) (hla3 : na3 ≤ ca3) (hna4 : holds1_c0_sights.length = na4) (hqa4 : AOK na4 qa4) (hla4 : na4 ≤ ca4) {res : Bool} (hm : qk l0 holds1_c0_cells holds1_c0_tides holds1_c0_fords holds1_c0_sands holds1_c0_sights = some res) :
    Calls Tryz.prog 134 #[.slice qa0 na0 ca0, .func (.func 135) #[] #[ptr rb 0]] w (fun en w' => ∃ l : Unit, en = .returned (.bool res) ∧ (True) ∧ HV w (keys [] []) [] [] [] w') := by
  unfold qk at hm
  refine yr func134 Y ntmps134 Y (e := [(0, _), (1, _)]) Y hw (jr ?_)
  refine jI Y Y (fun b h1 => ?_)
  refine jo Y Y (k7 (jg Y Y (jc Y Y Y (fun _ _ => ku (u := #[]) (u' := #[_]) Y Y) ?_)))
  obtain ⟨t7, h2, hm⟩ := bindO hm
  refine jd [] [] Y Y Y Y Y Y Y call150 (fun w hh => zZ l0 holds1_c0_cells holds1_c0_tides holds1_c0_fords holds1_c0_sands holds1_c0_sights qa0 na0 ca0 b rb qa2 na2 ca2 qa3 na3 ca3 qa4 na4 ca4 w (HV.callee (S0 := []) (vs0 := []) hh (roR hh 0 Y (roC (bsep (hh.bseg 0 Y)) (roR hh 1 Y (roR hh 2 Y (roR hh 3 Y (roR hh 4 Y roN))))))) hna0 hqa0 hla0 hna2 hqa2 hla2 hna3 hqa3 hla3 hna4 hqa4 hla4 h2) (fun l h3 => ?_)
  refine jc Y Y Y (fun _ _ => zt Y) (jo Y Y (jq (jv ?_)))
  obtain rfl := sj hm
  refine jm Y (fun w hh => (.tmp Y .nil)) (fun w hh => ⟨(), rfl, trivial, hh.se [] [] 5 Y Y Y rfl⟩)
def kC (c0 : Channel) (n1 : Int) : Option Bool :=
 (subc c0.cells 1).bind fun t8 =>
 (qH n1 0 t8).bind fun t9 =>
 some t9
theorem zg (c0 : Channel) (n1 : Int) (qa0 : Option Addr) (na0 ca0 : Nat) (qa1 : Option Addr) (na1 ca1 : Nat) (qa2 : Option Addr) (na2 ca2 : Nat) (w : World) (hw : HV w (keys [] []) [] [] [(aB qa0, aO qa0, RI.enc c0.fords), (aB qa1, aO qa1, RSa.enc c0.sands), (aB qa2, aO qa2, RSi.enc c0.sights)] w) (hna0 : c0.fords.length = na0) (hqa0 : AOK na0 qa0) (hla0 : na0 ≤ ca0) (hna1 : c0.sands.length = na1) (hqa1 : AOK na1 qa1) (hla1 : na1 ≤ ca1) (hna2 : c0.sights.length = na2) (hqa2 : AOK na2 qa2) (hla2 : na2 ≤ ca2) {res : Bool} (hm : kC c0 n1 = some res) :
    Calls Tryz.prog 131 #[.agg #[.int .i64 c0.cells, .int .i64 c0.tides, .slice qa0 na0 ca0, .slice qa1 na1 ca1, .slice qa2 na2 ca2], .int .i64 n1] w (fun en w' => ∃ l : Unit, en = .returned (.bool res) ∧ (True) ∧ HV w (keys [] []) [] [] [] w') := by
  unfold kC at hm
  refine yr func131 Y ntmps131 Y (e := [(0, _), (1, _)]) Y hw (jr ?_)
  refine jI Y Y (fun b h1 => ?_)
  refine jo Y Y (k7 (jg Y Y (yD 0 runUnderlying26 Y sizeOf3 Y Y (yf 0 isAgg3 Y Y Y Y ?_))))
  obtain ⟨t8, h2, hm⟩ := bindO hm
  refine jc Y Y Y (fun _ _ => zO h2 Y Y) ?_
  obtain ⟨t9, h3, hm⟩ := bindO hm
  refine jd [] [] Y Y Y Y Y Y Y call106 (fun w hh => z1 n1 0 t8 w (HV.callee (S0 := []) (vs0 := []) hh roN)  h3) (fun l h4 => ?_)
  refine jo Y Y (jq (jv ?_))
  obtain rfl := sj hm
  refine jm Y (fun w hh => (.tmp Y .nil)) (fun w hh => ⟨(), rfl, trivial, hh.se [] [] 3 Y Y Y rfl⟩)
def yK (x0 : Int) (a11_f0 : Channel) : Option Bool :=
 (kC a11_f0 x0).bind fun t6 =>
 some (!t6)
theorem Yf (x0 : Int) (a11_f0 : Channel) (rb : Nat) (qa1 : Option Addr) (na1 ca1 : Nat) (qa2 : Option Addr) (na2 ca2 : Nat) (qa3 : Option Addr) (na3 ca3 : Nat) (w : World) (hw : HV w (keys [] []) [] [] [(rb, 0, [.func (.func 131) #[.agg #[.int .i64 a11_f0.cells, .int .i64 a11_f0.tides, .slice qa1 na1 ca1, .slice qa2 na2 ca2, .slice qa3 na3 ca3]] #[]]), (aB qa1, aO qa1, RI.enc a11_f0.fords), (aB qa2, aO qa2, RSa.enc a11_f0.sands), (aB qa3, aO qa3, RSi.enc a11_f0.sights)] w)  (hna1 : a11_f0.fords.length = na1) (hqa1 : AOK na1 qa1) (hla1 : na1 ≤ ca1) (hna2 : a11_f0.sands.length = na2) (hqa2 : AOK na2 qa2) (hla2 : na2 ≤ ca2) (hna3 : a11_f0.sights.length = na3) (hqa3 : AOK na3 qa3) (hla3 : na3 ≤ ca3) {res : Bool} (hm : yK x0 a11_f0 = some res) :
    Calls Tryz.prog 170 #[.int .i64 x0, ptr rb 0] w (fun en w' => ∃ l : Unit, en = .returned (.bool res) ∧ (True) ∧ HV w (keys [] []) [] [] [] w') := by
  unfold yK at hm
  refine yr func170 Y ntmps170 Y (e := [(0, _), (1, _)]) Y hw (jr (jo Y Y (k7 (jc Y Y Y (fun w hh => jz (isAgg102 w) Y (segCell (hh.seg 0 Y) 0 Y)) (jg Y Y ?_)))))
  obtain ⟨t6, h1, hm⟩ := bindO hm
  refine jd [] [] Y Y Y Y Y Y Y call131 (fun w hh => zg a11_f0 x0 qa1 na1 ca1 qa2 na2 ca2 qa3 na3 ca3 w (HV.callee (S0 := []) (vs0 := []) hh (roR hh 1 Y (roR hh 2 Y (roR hh 3 Y roN)))) hna1 hqa1 hla1 hna2 hqa2 hla2 hna3 hqa3 hla3 h1) (fun l h2 => ?_)
  refine jc Y Y Y (fun _ _ => zt Y) (jo Y Y (jq (jv ?_)))
  obtain rfl := sj hm
  refine jm Y (fun w hh => (.tmp Y .nil)) (fun w hh => ⟨(), rfl, trivial, hh.se [] [] 4 Y Y Y rfl⟩)
def zx (s0 : (List Int)) (f1_c0_f0 : Channel) (s : Int) : Option (Int ⊕ (Unit ⊕ Int)) :=
 if s < (s0.length : Int) then
 ((ix s0 s).bind fun t14 =>
 (yK t14 f1_c0_f0).bind fun t16 =>
 if t16 = true then
 (some (.inr (.inr s))) else
 ((addc s 1).bind fun t18 =>
 some (.inl t18))) else
 (some (.inr (.inl ())))
def zm (s0 : (List Int)) (f1_c0_f0 : Channel) : Option Int :=
 (iterM FU (zx s0 f1_c0_f0) 0).bind fun o =>
 oc o (fun j => some (-1)) (fun r_1 => some r_1)
theorem Q4 (s0 : (List Int)) (f1_c0_f0 : Channel) (qa0 : Option Addr) (na0 ca0 : Nat) (rb : Nat) (qa2 : Option Addr) (na2 ca2 : Nat) (qa3 : Option Addr) (na3 ca3 : Nat) (qa4 : Option Addr) (na4 ca4 : Nat) (w : World) (hw : HV w (keys [] []) [] [] [(aB qa0, aO qa0, RI.enc s0), (rb, 0, [.func (.func 131) #[.agg #[.int .i64 f1_c0_f0.cells, .int .i64 f1_c0_f0.tides, .slice qa2 na2 ca2, .slice qa3 na3 ca3, .slice qa4 na4 ca4]] #[]]), (aB qa2, aO qa2, RI.enc f1_c0_f0.fords), (aB qa3, aO qa3, RSa.enc f1_c0_f0.sands), (aB qa4, aO qa4, RSi.enc f1_c0_f0.sights)] w) (hna0 : s0.length = na0) (hqa0 : AOK na0 qa0) (hla0 : na0 ≤ ca0)  (hna2 : f1_c0_f0.fords.length = na2) (hqa2 : AOK na2 qa2) (hla2 : na2 ≤ ca2) (hna3 : f1_c0_f0.sands.length = na3) (hqa3 : AOK na3 qa3) (hla3 : na3 ≤ ca3) (hna4 : f1_c0_f0.sights.length = na4) (hqa4 : AOK na4 qa4) (hla4 : na4 ≤ ca4) {res : Int} (hm : zm s0 f1_c0_f0 = some res) :
    Calls Tryz.prog 148 #[.slice qa0 na0 ca0, .func (.func 170) #[] #[ptr rb 0]] w (fun en w' => ∃ l : Unit, en = .returned (.int .i64 res) ∧ (True) ∧ HV w (keys [] []) [] [] [] w') := by
  unfold zm at hm
  refine yr func148 Y ntmps148 Y (e := [(0, _), (1, _)]) Y hw (jr (jo Y Y (jq (ji (jr (jg Y Y (jc Y Y Y (fun w _ => qd hna0 (runUnderlying22 w) Y) ?_)))))))
  refine jg Y Y (jq ?_)
  obtain ⟨o, h1, h2⟩ := bindO hm
  refine j3 (ι := Unit) (fun j => o = .inl j) (fun j => []) (fun j => []) (fun j => []) ?_ ?_
  ·replace hm := h1
   refine jp ?_
   refine kk (ι := Unit) hm (fun s l => True) (fun s l => [(0, .slice qa0 na0 ca0), (1, .func (.func 170) #[] #[ptr rb 0]), (7, .int .i64 (s0.length : Int)), (8, .int .i64 s)]) (fun s l => []) (fun s l => []) () (trivial) (sE Y) (fun w hh => hh) (fun s l r hpl hm h3 => ?_)
   unfold zx at hm
   refine jr (Kv Y Y Y (jq (ji ?_)))
   refine ju Y (fun h4 => ?_) (fun h4 => ?_)
   ·replace hm := ifD h4 hm
    refine jt (ja (ji (jp (jr (jg Y Y (jo Y Y (k7 ?_)))))))
    refine jg Y Y (jg Y Y (jg Y Y ?_))
    obtain ⟨t14, h5, hm⟩ := bindO hm
    refine jc Y Y Y (fun w _ => Jy h5 (runUnderlying22 w) (sizeOf3 w) Y Y hna0 hqa0) (jc Y Y Y (fun w hh => zR RI 0 h5 (isAgg3 w) Y (hh.seg 0 Y) Y (Nat.add_zero _).symm) ?_)
    obtain ⟨t16, h6, hm⟩ := bindO hm
    refine jd [] [] Y Y Y Y Y Y Y call170 (fun w hh => Yf t14 f1_c0_f0 rb qa2 na2 ca2 qa3 na3 ca3 qa4 na4 ca4 w (HV.callee (S0 := []) (vs0 := []) hh (roR hh 1 Y (roR hh 2 Y (roR hh 3 Y (roR hh 4 Y roN))))) hna2 hqa2 hla2 hna3 hqa3 hla3 hna4 hqa4 hla4 h6) (fun l_1 h7 => ?_)
    refine jq ?_
    refine ju Y (fun h8 => ?_) (fun h8 => ?_)
    ·replace hm := ifT (h8) hm
     refine jr (jg Y Y (jo Y Y (jq (jv (jJ (jh (jh ?_)))))))
     refine jJ ?_
     obtain rfl := sj hm
     have hbo := h3 _ Y
     subst hbo
     refine jh ?_
     replace hm := ocR h2
     refine jh ?_
     obtain rfl := sj hm
     refine jm Y (fun w hh => (.tmp Y .nil)) (fun w hh => ⟨(), rfl, trivial, hh.se [] [] 5 Y Y Y rfl⟩)
    replace hm := ifN h8 hm
    refine jt (jw (ja (je ?_)))
    obtain ⟨t18, h9, hm⟩ := bindO hm
    refine Kq h9 Y Y Y (jg Y Y (jx ?_))
    obtain rfl := sj hm
    refine ja ?_
    exact jN _ () Y (trivial) (sE Y) (fun w hh => hh)
   replace hm := ifE h4 hm
   refine kN (jl (jl (jO ?_)))
   obtain rfl := sj hm
   have hbo := h3 _ Y
   subst hbo
   exact jk () (Y) (.nil) (fun w hh => hh)
  intro j hj
  have h10 := hj
  subst h10
  replace hm := ocL h2
  refine ja (jr (jo Y Y (jq (jv ?_))))
  obtain rfl := sj hm
  refine jm Y (fun w hh => (.tmp Y .nil)) (fun w hh => ⟨(), rfl, trivial, hh.se [] [] 5 Y Y Y rfl⟩)
def yC (s0 : (List Int)) (f1_c0_f0 : Channel) : Option Bool :=
 (zm s0 f1_c0_f0).bind fun t7 =>
 some (decide (0 ≤ t7))
theorem Qr (s0 : (List Int)) (f1_c0_f0 : Channel) (qa0 : Option Addr) (na0 ca0 : Nat) (rb : Nat) (qa2 : Option Addr) (na2 ca2 : Nat) (qa3 : Option Addr) (na3 ca3 : Nat) (qa4 : Option Addr) (na4 ca4 : Nat) (w : World) (hw : HV w (keys [] []) [] [] [(aB qa0, aO qa0, RI.enc s0), (rb, 0, [.func (.func 131) #[.agg #[.int .i64 f1_c0_f0.cells, .int .i64 f1_c0_f0.tides, .slice qa2 na2 ca2, .slice qa3 na3 ca3, .slice qa4 na4 ca4]] #[]]), (aB qa2, aO qa2, RI.enc f1_c0_f0.fords), (aB qa3, aO qa3, RSa.enc f1_c0_f0.sands), (aB qa4, aO qa4, RSi.enc f1_c0_f0.sights)] w) (hna0 : s0.length = na0) (hqa0 : AOK na0 qa0) (hla0 : na0 ≤ ca0)  (hna2 : f1_c0_f0.fords.length = na2) (hqa2 : AOK na2 qa2) (hla2 : na2 ≤ ca2) (hna3 : f1_c0_f0.sands.length = na3) (hqa3 : AOK na3 qa3) (hla3 : na3 ≤ ca3) (hna4 : f1_c0_f0.sights.length = na4) (hqa4 : AOK na4 qa4) (hla4 : na4 ≤ ca4) {res : Bool} (hm : yC s0 f1_c0_f0 = some res) :
    Calls Tryz.prog 65 #[.slice qa0 na0 ca0, .func (.func 170) #[] #[ptr rb 0]] w (fun en w' => ∃ l : Unit, en = .returned (.bool res) ∧ (True) ∧ HV w (keys [] []) [] [] [] w') := by
  unfold yC at hm
  refine yr func65 Y ntmps65 Y (e := [(0, _), (1, _)]) Y hw (jr (jo Y Y (k7 (jg Y Y (jg Y Y ?_)))))
  obtain ⟨t7, h1, hm⟩ := bindO hm
  refine jd [] [] Y Y Y Y Y Y Y call148 (fun w hh => Q4 s0 f1_c0_f0 qa0 na0 ca0 rb qa2 na2 ca2 qa3 na3 ca3 qa4 na4 ca4 w (HV.callee (S0 := []) (vs0 := []) hh (roR hh 0 Y (roR hh 1 Y (roR hh 2 Y (roR hh 3 Y (roR hh 4 Y roN)))))) hna0 hqa0 hla0 hna2 hqa2 hla2 hna3 hqa3 hla3 hna4 hqa4 hla4 h1) (fun l h2 => ?_)
  refine jc Y Y Y (fun _ _ => YI Y Y) (jo Y Y (jq (jv ?_)))
  obtain rfl := sj hm
  refine jm Y (fun w hh => (.tmp Y .nil)) (fun w hh => ⟨(), rfl, trivial, hh.se [] [] 5 Y Y Y rfl⟩)
def zh (l0 : (List Int)) (holds1_f0 : Channel) : Option Bool :=
 (yC l0 holds1_f0).bind fun t7 =>
 some (!t7)
theorem Yx (l0 : (List Int)) (holds1_f0 : Channel) (qa0 : Option Addr) (na0 ca0 : Nat) (qa1 : Option Addr) (na1 ca1 : Nat) (qa2 : Option Addr) (na2 ca2 : Nat) (qa3 : Option Addr) (na3 ca3 : Nat) (w : World) (hw : HV w (keys [] []) [] [] [(aB qa0, aO qa0, RI.enc l0), (aB qa1, aO qa1, RI.enc holds1_f0.fords), (aB qa2, aO qa2, RSa.enc holds1_f0.sands), (aB qa3, aO qa3, RSi.enc holds1_f0.sights)] w) (hna0 : l0.length = na0) (hqa0 : AOK na0 qa0) (hla0 : na0 ≤ ca0) (hna1 : holds1_f0.fords.length = na1) (hqa1 : AOK na1 qa1) (hla1 : na1 ≤ ca1) (hna2 : holds1_f0.sands.length = na2) (hqa2 : AOK na2 qa2) (hla2 : na2 ≤ ca2) (hna3 : holds1_f0.sights.length = na3) (hqa3 : AOK na3 qa3) (hla3 : na3 ≤ ca3) {res : Bool} (hm : zh l0 holds1_f0 = some res) :
    Calls Tryz.prog 119 #[.slice qa0 na0 ca0, .func (.func 131) #[.agg #[.int .i64 holds1_f0.cells, .int .i64 holds1_f0.tides, .slice qa1 na1 ca1, .slice qa2 na2 ca2, .slice qa3 na3 ca3]] #[]] w (fun en w' => ∃ l : Unit, en = .returned (.bool res) ∧ (True) ∧ HV w (keys [] []) [] [] [] w') := by
  unfold zh at hm
  refine yr func119 Y ntmps119 Y (e := [(0, _), (1, _)]) Y hw (jr ?_)
  refine jI Y Y (fun b h1 => ?_)
  refine jo Y Y (k7 (jg Y Y (jc Y Y Y (fun _ _ => ku (u := #[]) (u' := #[_]) Y Y) ?_)))
  obtain ⟨t7, h2, hm⟩ := bindO hm
  refine jd [] [] Y Y Y Y Y Y Y call65 (fun w hh => Qr l0 holds1_f0 qa0 na0 ca0 b qa1 na1 ca1 qa2 na2 ca2 qa3 na3 ca3 w (HV.callee (S0 := []) (vs0 := []) hh (roR hh 0 Y (roC (bsep (hh.bseg 0 Y)) (roR hh 1 Y (roR hh 2 Y (roR hh 3 Y roN)))))) hna0 hqa0 hla0 hna1 hqa1 hla1 hna2 hqa2 hla2 hna3 hqa3 hla3 h2) (fun l h3 => ?_)
  refine jc Y Y Y (fun _ _ => zt Y) (jo Y Y (jq (jv ?_)))
  obtain rfl := sj hm
  refine jm Y (fun w hh => (.tmp Y .nil)) (fun w hh => ⟨(), rfl, trivial, hh.se [] [] 4 Y Y Y rfl⟩)
def JH (s0 : Sand) (a11_f0 : Channel) : Option Bool :=
 ((kC a11_f0 s0.span.lo).bind fun t8 =>
 if t8 = true then
 ((kC a11_f0 s0.span.hi).bind fun t14 =>
 some t14) else
 (some false)).bind fun o =>
 some o
theorem YV (s0 : Sand) (a11_f0 : Channel) (rb : Nat) (qa1 : Option Addr) (na1 ca1 : Nat) (qa2 : Option Addr) (na2 ca2 : Nat) (qa3 : Option Addr) (na3 ca3 : Nat) (w : World) (hw : HV w (keys [] []) [] [] [(rb, 0, [.func (.func 131) #[.agg #[.int .i64 a11_f0.cells, .int .i64 a11_f0.tides, .slice qa1 na1 ca1, .slice qa2 na2 ca2, .slice qa3 na3 ca3]] #[]]), (aB qa1, aO qa1, RI.enc a11_f0.fords), (aB qa2, aO qa2, RSa.enc a11_f0.sands), (aB qa3, aO qa3, RSi.enc a11_f0.sights)] w)  (hna1 : a11_f0.fords.length = na1) (hqa1 : AOK na1 qa1) (hla1 : na1 ≤ ca1) (hna2 : a11_f0.sands.length = na2) (hqa2 : AOK na2 qa2) (hla2 : na2 ≤ ca2) (hna3 : a11_f0.sights.length = na3) (hqa3 : AOK na3 qa3) (hla3 : na3 ≤ ca3) {res : Bool} (hm : JH s0 a11_f0 = some res) :
    Calls Tryz.prog 136 #[.agg #[.int .i64 s0.span.lo, .int .i64 s0.span.hi, .int .i64 s0.reach], ptr rb 0] w (fun en w' => ∃ l : Unit, en = .returned (.bool res) ∧ (True) ∧ HV w (keys [] []) [] [] [] w') := by
  unfold JH at hm
  refine yr func136 Y ntmps136 Y (e := [(0, _), (1, _)]) Y hw (jr ?_)
  refine jI Y Y (fun b h1 => ?_)
  refine jo Y Y (jq (ji ?_))
  obtain ⟨o, h2, h3⟩ := bindO hm
  refine j3 (ι := Unit) (fun l => True) (fun l => [(3, .bool o)]) (fun l => [kc b #[.int .i64 s0.span.lo, .int .i64 s0.span.hi, .int .i64 s0.reach] 98]) (fun l => []) ?_ ?_
  ·replace hm := h2
   refine je (jc Y Y Y (fun w hh => jz (isAgg102 w) Y (segCell (hh.seg 0 Y) 0 Y)) (yD 0 runUnderlying98 Y sizeOf50 Y Y (yD 0 runUnderlying50 Y sizeOf3 Y Y (yf 0 isAgg3 Y Y Y Y ?_))))
   obtain ⟨t8, h4, hm⟩ := bindO hm
   refine jd [] [] Y Y Y Y Y Y Y call131 (fun w hh => zg a11_f0 s0.span.lo qa1 na1 ca1 qa2 na2 ca2 qa3 na3 ca3 w (HV.callee (S0 := []) (vs0 := []) hh (roR hh 1 Y (roR hh 2 Y (roR hh 3 Y roN)))) hna1 hqa1 hla1 hna2 hqa2 hla2 hna3 hqa3 hla3 h4) (fun l_1 h5 => ?_)
   refine jg Y Y ?_
   refine j4 9 Y (fun h6 => ?_) (fun h6 => ?_)
   ·replace hm := ifT (h6) hm
    refine jb Y Y (jc Y Y Y (fun w hh => jz (isAgg102 w) Y (segCell (hh.seg 0 Y) 0 Y)) (jb Y Y (yD 0 runUnderlying98 Y sizeOf50 Y Y (jb Y Y (yD 1 runUnderlying50 Y sizeOf3 Y Y (jb Y Y (yf 0 isAgg3 Y Y Y Y ?_)))))))
    refine jb Y Y ?_
    obtain ⟨t14, h7, hm⟩ := bindO hm
    refine jd [] [] Y Y Y Y Y Y Y call131 (fun w hh => zg a11_f0 s0.span.hi qa1 na1 ca1 qa2 na2 ca2 qa3 na3 ca3 w (HV.callee (S0 := []) (vs0 := []) hh (roR hh 1 Y (roR hh 2 Y (roR hh 3 Y roN)))) hna1 hqa1 hla1 hna2 hqa2 hla2 hna3 hqa3 hla3 h7) (fun l_2 h8 => ?_)
    refine yy Y Y Y (jo Y Y (jx ?_))
    obtain rfl := sj hm
    exact jk () (trivial) (sE Y) (fun w hh => hh)
   replace hm := ifN h6 hm
   refine g_k Y Y Y Y (g_k Y Y Y Y (g_k Y Y Y Y (g_k Y Y Y Y (g_k Y Y Y Y (zu Y Y Y (jo Y Y (jx ?_)))))))
   obtain rfl := sj hm
   exact jk () (trivial) (sE Y) (fun w hh => hh)
  intro l hj
  replace hm := h3
  refine ja (jv ?_)
  obtain rfl := sj hm
  refine jm Y (fun w hh => (.tmp Y .nil)) (fun w hh => ⟨(), rfl, trivial, hh.se [] [] 4 Y Y Y rfl⟩)
def kD (x0 : Sand) (a11_c0_f0 : Channel) : Option Bool :=
 (JH x0 a11_c0_f0).bind fun t6 =>
 some (!t6)
theorem Ku (x0 : Sand) (a11_c0_f0 : Channel) (rb : Nat) (rb_1 : Nat) (qa2 : Option Addr) (na2 ca2 : Nat) (qa3 : Option Addr) (na3 ca3 : Nat) (qa4 : Option Addr) (na4 ca4 : Nat) (w : World) (hw : HV w (keys [] []) [] [] [(rb, 0, [.func (.func 136) #[] #[ptr rb_1 0]]), (rb_1, 0, [.func (.func 131) #[.agg #[.int .i64 a11_c0_f0.cells, .int .i64 a11_c0_f0.tides, .slice qa2 na2 ca2, .slice qa3 na3 ca3, .slice qa4 na4 ca4]] #[]]), (aB qa2, aO qa2, RI.enc a11_c0_f0.fords), (aB qa3, aO qa3, RSa.enc a11_c0_f0.sands), (aB qa4, aO qa4, RSi.enc a11_c0_f0.sights)] w)   (hna2 : a11_c0_f0.fords.length = na2) (hqa2 : AOK na2 qa2) (hla2 : na2 ≤ ca2) (hna3 : a11_c0_f0.sands.length = na3) (hqa3 : AOK na3 qa3) (hla3 : na3 ≤ ca3) (hna4 : a11_c0_f0.sights.length = na4) (hqa4 : AOK na4 qa4) (hla4 : na4 ≤ ca4) {res : Bool} (hm : kD x0 a11_c0_f0 = some res) :
    Calls Tryz.prog 175 #[.agg #[.int .i64 x0.span.lo, .int .i64 x0.span.hi, .int .i64 x0.reach], ptr rb 0] w (fun en w' => ∃ l : Unit, en = .returned (.bool res) ∧ (True) ∧ HV w (keys [] []) [] [] [] w') := by
  unfold kD at hm
  refine yr func175 Y ntmps175 Y (e := [(0, _), (1, _)]) Y hw (jr ?_)
  refine jI Y Y (fun b h1 => ?_)
  refine jo Y Y (k7 (jc Y Y Y (fun w hh => jz (isAgg188 w) Y (segCell (hh.seg 0 Y) 0 Y)) (zX [_, _, _] 0 isAgg98 sizeOf98 Y Y Y Y ?_)))
  obtain ⟨t6, h2, hm⟩ := bindO hm
  refine jd [] [] Y Y Y Y Y Y Y call136 (fun w hh => YV x0 a11_c0_f0 rb_1 qa2 na2 ca2 qa3 na3 ca3 qa4 na4 ca4 w (HV.callee (S0 := []) (vs0 := []) hh (roR hh 1 Y (roR hh 2 Y (roR hh 3 Y (roR hh 4 Y roN))))) hna2 hqa2 hla2 hna3 hqa3 hla3 hna4 hqa4 hla4 h2) (fun l h3 => ?_)
  refine jc Y Y Y (fun _ _ => zt Y) (jo Y Y (jq (jv ?_)))
  obtain rfl := sj hm
  refine jm Y (fun w hh => (.tmp Y .nil)) (fun w hh => ⟨(), rfl, trivial, hh.se [] [] 5 Y Y Y rfl⟩)
def kZ (s0 : (List Sand)) (f1_c0_c0_f0 : Channel) (s : Int) : Option (Int ⊕ (Unit ⊕ Int)) :=
 if s < (s0.length : Int) then
 ((ix s0 s).bind fun t14 =>
 (kD (⟨(⟨t14.span.lo, t14.span.hi⟩ : Span), t14.reach⟩ : Sand) f1_c0_c0_f0).bind fun t16 =>
 if t16 = true then
 (some (.inr (.inr s))) else
 ((addc s 1).bind fun t18 =>
 some (.inl t18))) else
 (some (.inr (.inl ())))
def km (s0 : (List Sand)) (f1_c0_c0_f0 : Channel) : Option Int :=
 (iterM FU (kZ s0 f1_c0_c0_f0) 0).bind fun o =>
 oc o (fun j => some (-1)) (fun r_1 => some r_1)
theorem Jw (s0 : (List Sand)) (f1_c0_c0_f0 : Channel) (qa0 : Option Addr) (na0 ca0 : Nat) (rb : Nat) (rb_1 : Nat) (qa3 : Option Addr) (na3 ca3 : Nat) (qa4 : Option Addr) (na4 ca4 : Nat) (qa5 : Option Addr) (na5 ca5 : Nat) (w : World) (hw : HV w (keys [] []) [] [] [(aB qa0, aO qa0, RSa.enc s0), (rb, 0, [.func (.func 136) #[] #[ptr rb_1 0]]), (rb_1, 0, [.func (.func 131) #[.agg #[.int .i64 f1_c0_c0_f0.cells, .int .i64 f1_c0_c0_f0.tides, .slice qa3 na3 ca3, .slice qa4 na4 ca4, .slice qa5 na5 ca5]] #[]]), (aB qa3, aO qa3, RI.enc f1_c0_c0_f0.fords), (aB qa4, aO qa4, RSa.enc f1_c0_c0_f0.sands), (aB qa5, aO qa5, RSi.enc f1_c0_c0_f0.sights)] w) (hna0 : s0.length = na0) (hqa0 : AOK na0 qa0) (hla0 : na0 ≤ ca0)   (hna3 : f1_c0_c0_f0.fords.length = na3) (hqa3 : AOK na3 qa3) (hla3 : na3 ≤ ca3) (hna4 : f1_c0_c0_f0.sands.length = na4) (hqa4 : AOK na4 qa4) (hla4 : na4 ≤ ca4) (hna5 : f1_c0_c0_f0.sights.length = na5) (hqa5 : AOK na5 qa5) (hla5 : na5 ≤ ca5) {res : Int} (hm : km s0 f1_c0_c0_f0 = some res) :
    Calls Tryz.prog 202 #[.slice qa0 na0 ca0, .func (.func 175) #[] #[ptr rb 0]] w (fun en w' => ∃ l : Unit, en = .returned (.int .i64 res) ∧ (True) ∧ HV w (keys [] []) [] [] [] w') := by
  unfold km at hm
  refine yr func202 Y ntmps202 Y (e := [(0, _), (1, _)]) Y hw (jr (jo Y Y (jq (ji (jr (jg Y Y (jc Y Y Y (fun w _ => qd hna0 (runUnderlying23 w) Y) ?_)))))))
  refine jg Y Y (jq ?_)
  obtain ⟨o, h1, h2⟩ := bindO hm
  refine j3 (ι := Unit) (fun j => o = .inl j) (fun j => []) (fun j => []) (fun j => []) ?_ ?_
  ·replace hm := h1
   refine jp ?_
   refine kk (ι := Unit) hm (fun s l => True) (fun s l => [(0, .slice qa0 na0 ca0), (1, .func (.func 175) #[] #[ptr rb 0]), (7, .int .i64 (s0.length : Int)), (8, .int .i64 s)]) (fun s l => []) (fun s l => []) () (trivial) (sE Y) (fun w hh => hh) (fun s l r hpl hm h3 => ?_)
   unfold kZ at hm
   refine jr (Kv Y Y Y (jq (ji ?_)))
   refine ju Y (fun h4 => ?_) (fun h4 => ?_)
   ·replace hm := ifD h4 hm
    refine jt (ja (ji (jp (jr (jg Y Y (jo Y Y (k7 ?_)))))))
    refine jg Y Y (jg Y Y (jg Y Y ?_))
    obtain ⟨t14, h5, hm⟩ := bindO hm
    refine jc Y Y Y (fun w _ => Jy h5 (runUnderlying23 w) (sizeOf98 w) Y Y hna0 hqa0) ?_
    refine jc Y Y Y (fun w hh => JE RSa 0 [.int .i64 t14.span.lo, .int .i64 t14.span.hi, .int .i64 t14.reach] h5 (isAgg98 w) (sizeOf98 w) Y (hh.seg 0 Y) Y (Nat.add_zero _).symm) ?_
    obtain ⟨t16, h6, hm⟩ := bindO hm
    refine jd [] [] Y Y Y Y Y Y Y call175 (fun w hh => Ku (⟨(⟨t14.span.lo, t14.span.hi⟩ : Span), t14.reach⟩ : Sand) f1_c0_c0_f0 rb rb_1 qa3 na3 ca3 qa4 na4 ca4 qa5 na5 ca5 w (HV.callee (S0 := []) (vs0 := []) hh (roR hh 1 Y (roR hh 2 Y (roR hh 3 Y (roR hh 4 Y (roR hh 5 Y roN)))))) hna3 hqa3 hla3 hna4 hqa4 hla4 hna5 hqa5 hla5 h6) (fun l_1 h7 => ?_)
    refine jq ?_
    refine ju Y (fun h8 => ?_) (fun h8 => ?_)
    ·replace hm := ifT (h8) hm
     refine jr (jg Y Y (jo Y Y (jq (jv (jJ (jh (jh ?_)))))))
     refine jJ ?_
     obtain rfl := sj hm
     have hbo := h3 _ Y
     subst hbo
     refine jh ?_
     replace hm := ocR h2
     refine jh ?_
     obtain rfl := sj hm
     refine jm Y (fun w hh => (.tmp Y .nil)) (fun w hh => ⟨(), rfl, trivial, hh.se [] [] 6 Y Y Y rfl⟩)
    replace hm := ifN h8 hm
    refine jt (jw (ja (je ?_)))
    obtain ⟨t18, h9, hm⟩ := bindO hm
    refine Kq h9 Y Y Y (jg Y Y (jx ?_))
    obtain rfl := sj hm
    refine ja ?_
    exact jN _ () Y (trivial) (sE Y) (fun w hh => hh)
   replace hm := ifE h4 hm
   refine kN (jl (jl (jO ?_)))
   obtain rfl := sj hm
   have hbo := h3 _ Y
   subst hbo
   exact jk () (Y) (.nil) (fun w hh => hh)
  intro j hj
  have h10 := hj
  subst h10
  replace hm := ocL h2
  refine ja (jr (jo Y Y (jq (jv ?_))))
  obtain rfl := sj hm
  refine jm Y (fun w hh => (.tmp Y .nil)) (fun w hh => ⟨(), rfl, trivial, hh.se [] [] 6 Y Y Y rfl⟩)
def jZ (s0 : (List Sand)) (f1_c0_c0_f0 : Channel) : Option Bool :=
 (km s0 f1_c0_c0_f0).bind fun t7 =>
 some (decide (0 ≤ t7))
theorem zY (s0 : (List Sand)) (f1_c0_c0_f0 : Channel) (qa0 : Option Addr) (na0 ca0 : Nat) (rb : Nat) (rb_1 : Nat) (qa3 : Option Addr) (na3 ca3 : Nat) (qa4 : Option Addr) (na4 ca4 : Nat) (qa5 : Option Addr) (na5 ca5 : Nat) (w : World) (hw : HV w (keys [] []) [] [] [(aB qa0, aO qa0, RSa.enc s0), (rb, 0, [.func (.func 136) #[] #[ptr rb_1 0]]), (rb_1, 0, [.func (.func 131) #[.agg #[.int .i64 f1_c0_c0_f0.cells, .int .i64 f1_c0_c0_f0.tides, .slice qa3 na3 ca3, .slice qa4 na4 ca4, .slice qa5 na5 ca5]] #[]]), (aB qa3, aO qa3, RI.enc f1_c0_c0_f0.fords), (aB qa4, aO qa4, RSa.enc f1_c0_c0_f0.sands), (aB qa5, aO qa5, RSi.enc f1_c0_c0_f0.sights)] w) (hna0 : s0.length = na0) (hqa0 : AOK na0 qa0) (hla0 : na0 ≤ ca0)   (hna3 : f1_c0_c0_f0.fords.length = na3) (hqa3 : AOK na3 qa3) (hla3 : na3 ≤ ca3) (hna4 : f1_c0_c0_f0.sands.length = na4) (hqa4 : AOK na4 qa4) (hla4 : na4 ≤ ca4) (hna5 : f1_c0_c0_f0.sights.length = na5) (hqa5 : AOK na5 qa5) (hla5 : na5 ≤ ca5) {res : Bool} (hm : jZ s0 f1_c0_c0_f0 = some res) :
    Calls Tryz.prog 174 #[.slice qa0 na0 ca0, .func (.func 175) #[] #[ptr rb 0]] w (fun en w' => ∃ l : Unit, en = .returned (.bool res) ∧ (True) ∧ HV w (keys [] []) [] [] [] w') := by
  unfold jZ at hm
  refine yr func174 Y ntmps174 Y (e := [(0, _), (1, _)]) Y hw (jr (jo Y Y (k7 (jg Y Y (jg Y Y ?_)))))
  obtain ⟨t7, h1, hm⟩ := bindO hm
  refine jd [] [] Y Y Y Y Y Y Y call202 (fun w hh => Jw s0 f1_c0_c0_f0 qa0 na0 ca0 rb rb_1 qa3 na3 ca3 qa4 na4 ca4 qa5 na5 ca5 w (HV.callee (S0 := []) (vs0 := []) hh (roR hh 0 Y (roR hh 1 Y (roR hh 2 Y (roR hh 3 Y (roR hh 4 Y (roR hh 5 Y roN))))))) hna0 hqa0 hla0 hna3 hqa3 hla3 hna4 hqa4 hla4 hna5 hqa5 hla5 h1) (fun l h2 => ?_)
  refine jc Y Y Y (fun _ _ => YI Y Y) (jo Y Y (jq (jv ?_)))
  obtain rfl := sj hm
  refine jm Y (fun w hh => (.tmp Y .nil)) (fun w hh => ⟨(), rfl, trivial, hh.se [] [] 6 Y Y Y rfl⟩)
def qa (l0 : (List Sand)) (holds1_c0_f0 : Channel) : Option Bool :=
 (jZ l0 holds1_c0_f0).bind fun t7 =>
 some (!t7)
theorem KI (l0 : (List Sand)) (holds1_c0_f0 : Channel) (qa0 : Option Addr) (na0 ca0 : Nat) (rb : Nat) (qa2 : Option Addr) (na2 ca2 : Nat) (qa3 : Option Addr) (na3 ca3 : Nat) (qa4 : Option Addr) (na4 ca4 : Nat) (w : World) (hw : HV w (keys [] []) [] [] [(aB qa0, aO qa0, RSa.enc l0), (rb, 0, [.func (.func 131) #[.agg #[.int .i64 holds1_c0_f0.cells, .int .i64 holds1_c0_f0.tides, .slice qa2 na2 ca2, .slice qa3 na3 ca3, .slice qa4 na4 ca4]] #[]]), (aB qa2, aO qa2, RI.enc holds1_c0_f0.fords), (aB qa3, aO qa3, RSa.enc holds1_c0_f0.sands), (aB qa4, aO qa4, RSi.enc holds1_c0_f0.sights)] w) (hna0 : l0.length = na0) (hqa0 : AOK na0 qa0) (hla0 : na0 ≤ ca0)  (hna2 : holds1_c0_f0.fords.length = na2) (hqa2 : AOK na2 qa2) (hla2 : na2 ≤ ca2) (hna3 : holds1_c0_f0.sands.length = na3) (hqa3 : AOK na3 qa3) (hla3 : na3 ≤ ca3) (hna4 : holds1_c0_f0.sights.length = na4) (hqa4 : AOK na4 qa4) (hla4 : na4 ≤ ca4) {res : Bool} (hm : qa l0 holds1_c0_f0 = some res) :
    Calls Tryz.prog 132 #[.slice qa0 na0 ca0, .func (.func 136) #[] #[ptr rb 0]] w (fun en w' => ∃ l : Unit, en = .returned (.bool res) ∧ (True) ∧ HV w (keys [] []) [] [] [] w') := by
  unfold qa at hm
  refine yr func132 Y ntmps132 Y (e := [(0, _), (1, _)]) Y hw (jr ?_)
  refine jI Y Y (fun b h1 => ?_)
  refine jo Y Y (k7 (jg Y Y (jc Y Y Y (fun _ _ => ku (u := #[]) (u' := #[_]) Y Y) ?_)))
  obtain ⟨t7, h2, hm⟩ := bindO hm
  refine jd [] [] Y Y Y Y Y Y Y call174 (fun w hh => zY l0 holds1_c0_f0 qa0 na0 ca0 b rb qa2 na2 ca2 qa3 na3 ca3 qa4 na4 ca4 w (HV.callee (S0 := []) (vs0 := []) hh (roR hh 0 Y (roC (bsep (hh.bseg 0 Y)) (roR hh 1 Y (roR hh 2 Y (roR hh 3 Y (roR hh 4 Y roN))))))) hna0 hqa0 hla0 hna2 hqa2 hla2 hna3 hqa3 hla3 hna4 hqa4 hla4 h2) (fun l h3 => ?_)
  refine jc Y Y Y (fun _ _ => zt Y) (jo Y Y (jq (jv ?_)))
  obtain rfl := sj hm
  refine jm Y (fun w hh => (.tmp Y .nil)) (fun w hh => ⟨(), rfl, trivial, hh.se [] [] 5 Y Y Y rfl⟩)
def JI (s0 : Sight) (a11_f0 : Channel) : Option Bool :=
 (kC a11_f0 s0.cell).bind fun t7 =>
 some t7
theorem Y0 (s0 : Sight) (a11_f0 : Channel) (rb : Nat) (qa1 : Option Addr) (na1 ca1 : Nat) (qa2 : Option Addr) (na2 ca2 : Nat) (qa3 : Option Addr) (na3 ca3 : Nat) (w : World) (hw : HV w (keys [] []) [] [] [(rb, 0, [.func (.func 131) #[.agg #[.int .i64 a11_f0.cells, .int .i64 a11_f0.tides, .slice qa1 na1 ca1, .slice qa2 na2 ca2, .slice qa3 na3 ca3]] #[]]), (aB qa1, aO qa1, RI.enc a11_f0.fords), (aB qa2, aO qa2, RSa.enc a11_f0.sands), (aB qa3, aO qa3, RSi.enc a11_f0.sights)] w)  (hna1 : a11_f0.fords.length = na1) (hqa1 : AOK na1 qa1) (hla1 : na1 ≤ ca1) (hna2 : a11_f0.sands.length = na2) (hqa2 : AOK na2 qa2) (hla2 : na2 ≤ ca2) (hna3 : a11_f0.sights.length = na3) (hqa3 : AOK na3 qa3) (hla3 : na3 ≤ ca3) {res : Bool} (hm : JI s0 a11_f0 = some res) :
    Calls Tryz.prog 137 #[.agg #[.int .i64 s0.after, .int .i64 s0.cell, .bool s0.upright], ptr rb 0] w (fun en w' => ∃ l : Unit, en = .returned (.bool res) ∧ (True) ∧ HV w (keys [] []) [] [] [] w') := by
  unfold JI at hm
  refine yr func137 Y ntmps137 Y (e := [(0, _), (1, _)]) Y hw (jr ?_)
  refine jI Y Y (fun b h1 => ?_)
  refine jo Y Y (k7 (jc Y Y Y (fun w hh => jz (isAgg102 w) Y (segCell (hh.seg 0 Y) 0 Y)) (yD 1 runUnderlying55 Y sizeOf3 Y Y (yf 0 isAgg3 Y Y Y Y ?_))))
  obtain ⟨t7, h2, hm⟩ := bindO hm
  refine jd [] [] Y Y Y Y Y Y Y call131 (fun w hh => zg a11_f0 s0.cell qa1 na1 ca1 qa2 na2 ca2 qa3 na3 ca3 w (HV.callee (S0 := []) (vs0 := []) hh (roR hh 1 Y (roR hh 2 Y (roR hh 3 Y roN)))) hna1 hqa1 hla1 hna2 hqa2 hla2 hna3 hqa3 hla3 h2) (fun l h3 => ?_)
  refine jo Y Y (jq (jv ?_))
  obtain rfl := sj hm
  refine jm Y (fun w hh => (.tmp Y .nil)) (fun w hh => ⟨(), rfl, trivial, hh.se [] [] 4 Y Y Y rfl⟩)
def kw (x0 : Sight) (a11_c0_f0 : Channel) : Option Bool :=
 (JI x0 a11_c0_f0).bind fun t6 =>
 some (!t6)
theorem Km (x0 : Sight) (a11_c0_f0 : Channel) (rb : Nat) (rb_1 : Nat) (qa2 : Option Addr) (na2 ca2 : Nat) (qa3 : Option Addr) (na3 ca3 : Nat) (qa4 : Option Addr) (na4 ca4 : Nat) (w : World) (hw : HV w (keys [] []) [] [] [(rb, 0, [.func (.func 137) #[] #[ptr rb_1 0]]), (rb_1, 0, [.func (.func 131) #[.agg #[.int .i64 a11_c0_f0.cells, .int .i64 a11_c0_f0.tides, .slice qa2 na2 ca2, .slice qa3 na3 ca3, .slice qa4 na4 ca4]] #[]]), (aB qa2, aO qa2, RI.enc a11_c0_f0.fords), (aB qa3, aO qa3, RSa.enc a11_c0_f0.sands), (aB qa4, aO qa4, RSi.enc a11_c0_f0.sights)] w)   (hna2 : a11_c0_f0.fords.length = na2) (hqa2 : AOK na2 qa2) (hla2 : na2 ≤ ca2) (hna3 : a11_c0_f0.sands.length = na3) (hqa3 : AOK na3 qa3) (hla3 : na3 ≤ ca3) (hna4 : a11_c0_f0.sights.length = na4) (hqa4 : AOK na4 qa4) (hla4 : na4 ≤ ca4) {res : Bool} (hm : kw x0 a11_c0_f0 = some res) :
    Calls Tryz.prog 176 #[.agg #[.int .i64 x0.after, .int .i64 x0.cell, .bool x0.upright], ptr rb 0] w (fun en w' => ∃ l : Unit, en = .returned (.bool res) ∧ (True) ∧ HV w (keys [] []) [] [] [] w') := by
  unfold kw at hm
  refine yr func176 Y ntmps176 Y (e := [(0, _), (1, _)]) Y hw (jr ?_)
  refine jI Y Y (fun b h1 => ?_)
  refine jo Y Y (k7 (jc Y Y Y (fun w hh => jz (isAgg190 w) Y (segCell (hh.seg 0 Y) 0 Y)) (zX [_, _, _] 0 isAgg55 sizeOf55 Y Y Y Y ?_)))
  obtain ⟨t6, h2, hm⟩ := bindO hm
  refine jd [] [] Y Y Y Y Y Y Y call137 (fun w hh => Y0 x0 a11_c0_f0 rb_1 qa2 na2 ca2 qa3 na3 ca3 qa4 na4 ca4 w (HV.callee (S0 := []) (vs0 := []) hh (roR hh 1 Y (roR hh 2 Y (roR hh 3 Y (roR hh 4 Y roN))))) hna2 hqa2 hla2 hna3 hqa3 hla3 hna4 hqa4 hla4 h2) (fun l h3 => ?_)
  refine jc Y Y Y (fun _ _ => zt Y) (jo Y Y (jq (jv ?_)))
  obtain rfl := sj hm
  refine jm Y (fun w hh => (.tmp Y .nil)) (fun w hh => ⟨(), rfl, trivial, hh.se [] [] 5 Y Y Y rfl⟩)
def kQ (s0 : (List Sight)) (f1_c0_c0_f0 : Channel) (s : Int) : Option (Int ⊕ (Unit ⊕ Int)) :=
 if s < (s0.length : Int) then
 ((ix s0 s).bind fun t14 =>
 (kw (⟨t14.after, t14.cell, t14.upright⟩ : Sight) f1_c0_c0_f0).bind fun t16 =>
 if t16 = true then
 (some (.inr (.inr s))) else
 ((addc s 1).bind fun t18 =>
 some (.inl t18))) else
 (some (.inr (.inl ())))
def j6 (s0 : (List Sight)) (f1_c0_c0_f0 : Channel) : Option Int :=
 (iterM FU (kQ s0 f1_c0_c0_f0) 0).bind fun o =>
 oc o (fun j => some (-1)) (fun r_1 => some r_1)
theorem Ja (s0 : (List Sight)) (f1_c0_c0_f0 : Channel) (qa0 : Option Addr) (na0 ca0 : Nat) (rb : Nat) (rb_1 : Nat) (qa3 : Option Addr) (na3 ca3 : Nat) (qa4 : Option Addr) (na4 ca4 : Nat) (qa5 : Option Addr) (na5 ca5 : Nat) (w : World) (hw : HV w (keys [] []) [] [] [(aB qa0, aO qa0, RSi.enc s0), (rb, 0, [.func (.func 137) #[] #[ptr rb_1 0]]), (rb_1, 0, [.func (.func 131) #[.agg #[.int .i64 f1_c0_c0_f0.cells, .int .i64 f1_c0_c0_f0.tides, .slice qa3 na3 ca3, .slice qa4 na4 ca4, .slice qa5 na5 ca5]] #[]]), (aB qa3, aO qa3, RI.enc f1_c0_c0_f0.fords), (aB qa4, aO qa4, RSa.enc f1_c0_c0_f0.sands), (aB qa5, aO qa5, RSi.enc f1_c0_c0_f0.sights)] w) (hna0 : s0.length = na0) (hqa0 : AOK na0 qa0) (hla0 : na0 ≤ ca0)   (hna3 : f1_c0_c0_f0.fords.length = na3) (hqa3 : AOK na3 qa3) (hla3 : na3 ≤ ca3) (hna4 : f1_c0_c0_f0.sands.length = na4) (hqa4 : AOK na4 qa4) (hla4 : na4 ≤ ca4) (hna5 : f1_c0_c0_f0.sights.length = na5) (hqa5 : AOK na5 qa5) (hla5 : na5 ≤ ca5) {res : Int} (hm : j6 s0 f1_c0_c0_f0 = some res) :
    Calls Tryz.prog 183 #[.slice qa0 na0 ca0, .func (.func 176) #[] #[ptr rb 0]] w (fun en w' => ∃ l : Unit, en = .returned (.int .i64 res) ∧ (True) ∧ HV w (keys [] []) [] [] [] w') := by
  unfold j6 at hm
  refine yr func183 Y ntmps183 Y (e := [(0, _), (1, _)]) Y hw (jr (jo Y Y (jq (ji (jr (jg Y Y (jc Y Y Y (fun w _ => qd hna0 (runUnderlying24 w) Y) ?_)))))))
  refine jg Y Y (jq ?_)
  obtain ⟨o, h1, h2⟩ := bindO hm
  refine j3 (ι := Unit) (fun j => o = .inl j) (fun j => []) (fun j => []) (fun j => []) ?_ ?_
  ·replace hm := h1
   refine jp ?_
   refine kk (ι := Unit) hm (fun s l => True) (fun s l => [(0, .slice qa0 na0 ca0), (1, .func (.func 176) #[] #[ptr rb 0]), (7, .int .i64 (s0.length : Int)), (8, .int .i64 s)]) (fun s l => []) (fun s l => []) () (trivial) (sE Y) (fun w hh => hh) (fun s l r hpl hm h3 => ?_)
   unfold kQ at hm
   refine jr (Kv Y Y Y (jq (ji ?_)))
   refine ju Y (fun h4 => ?_) (fun h4 => ?_)
   ·replace hm := ifD h4 hm
    refine jt (ja (ji (jp (jr (jg Y Y (jo Y Y (k7 ?_)))))))
    refine jg Y Y (jg Y Y (jg Y Y ?_))
    obtain ⟨t14, h5, hm⟩ := bindO hm
    refine jc Y Y Y (fun w _ => Jy h5 (runUnderlying24 w) (sizeOf55 w) Y Y hna0 hqa0) ?_
    refine jc Y Y Y (fun w hh => JE RSi 0 [.int .i64 t14.after, .int .i64 t14.cell, .bool t14.upright] h5 (isAgg55 w) (sizeOf55 w) Y (hh.seg 0 Y) Y (Nat.add_zero _).symm) ?_
    obtain ⟨t16, h6, hm⟩ := bindO hm
    refine jd [] [] Y Y Y Y Y Y Y call176 (fun w hh => Km (⟨t14.after, t14.cell, t14.upright⟩ : Sight) f1_c0_c0_f0 rb rb_1 qa3 na3 ca3 qa4 na4 ca4 qa5 na5 ca5 w (HV.callee (S0 := []) (vs0 := []) hh (roR hh 1 Y (roR hh 2 Y (roR hh 3 Y (roR hh 4 Y (roR hh 5 Y roN)))))) hna3 hqa3 hla3 hna4 hqa4 hla4 hna5 hqa5 hla5 h6) (fun l_1 h7 => ?_)
    refine jq ?_
    refine ju Y (fun h8 => ?_) (fun h8 => ?_)
    ·replace hm := ifT (h8) hm
     refine jr (jg Y Y (jo Y Y (jq (jv (jJ (jh (jh ?_)))))))
     refine jJ ?_
     obtain rfl := sj hm
     have hbo := h3 _ Y
     subst hbo
     refine jh ?_
     replace hm := ocR h2
     refine jh ?_
     obtain rfl := sj hm
     refine jm Y (fun w hh => (.tmp Y .nil)) (fun w hh => ⟨(), rfl, trivial, hh.se [] [] 6 Y Y Y rfl⟩)
    replace hm := ifN h8 hm
    refine jt (jw (ja (je ?_)))
    obtain ⟨t18, h9, hm⟩ := bindO hm
    refine Kq h9 Y Y Y (jg Y Y (jx ?_))
    obtain rfl := sj hm
    refine ja ?_
    exact jN _ () Y (trivial) (sE Y) (fun w hh => hh)
   replace hm := ifE h4 hm
   refine kN (jl (jl (jO ?_)))
   obtain rfl := sj hm
   have hbo := h3 _ Y
   subst hbo
   exact jk () (Y) (.nil) (fun w hh => hh)
  intro j hj
  have h10 := hj
  subst h10
  replace hm := ocL h2
  refine ja (jr (jo Y Y (jq (jv ?_))))
  obtain rfl := sj hm
  refine jm Y (fun w hh => (.tmp Y .nil)) (fun w hh => ⟨(), rfl, trivial, hh.se [] [] 6 Y Y Y rfl⟩)
def jT (s0 : (List Sight)) (f1_c0_c0_f0 : Channel) : Option Bool :=
 (j6 s0 f1_c0_c0_f0).bind fun t7 =>
 some (decide (0 ≤ t7))
theorem zM (s0 : (List Sight)) (f1_c0_c0_f0 : Channel) (qa0 : Option Addr) (na0 ca0 : Nat) (rb : Nat) (rb_1 : Nat) (qa3 : Option Addr) (na3 ca3 : Nat) (qa4 : Option Addr) (na4 ca4 : Nat) (qa5 : Option Addr) (na5 ca5 : Nat) (w : World) (hw : HV w (keys [] []) [] [] [(aB qa0, aO qa0, RSi.enc s0), (rb, 0, [.func (.func 137) #[] #[ptr rb_1 0]]), (rb_1, 0, [.func (.func 131) #[.agg #[.int .i64 f1_c0_c0_f0.cells, .int .i64 f1_c0_c0_f0.tides, .slice qa3 na3 ca3, .slice qa4 na4 ca4, .slice qa5 na5 ca5]] #[]]), (aB qa3, aO qa3, RI.enc f1_c0_c0_f0.fords), (aB qa4, aO qa4, RSa.enc f1_c0_c0_f0.sands), (aB qa5, aO qa5, RSi.enc f1_c0_c0_f0.sights)] w) (hna0 : s0.length = na0) (hqa0 : AOK na0 qa0) (hla0 : na0 ≤ ca0)   (hna3 : f1_c0_c0_f0.fords.length = na3) (hqa3 : AOK na3 qa3) (hla3 : na3 ≤ ca3) (hna4 : f1_c0_c0_f0.sands.length = na4) (hqa4 : AOK na4 qa4) (hla4 : na4 ≤ ca4) (hna5 : f1_c0_c0_f0.sights.length = na5) (hqa5 : AOK na5 qa5) (hla5 : na5 ≤ ca5) {res : Bool} (hm : jT s0 f1_c0_c0_f0 = some res) :
    Calls Tryz.prog 150 #[.slice qa0 na0 ca0, .func (.func 176) #[] #[ptr rb 0]] w (fun en w' => ∃ l : Unit, en = .returned (.bool res) ∧ (True) ∧ HV w (keys [] []) [] [] [] w') := by
  unfold jT at hm
  refine yr func150 Y ntmps150 Y (e := [(0, _), (1, _)]) Y hw (jr (jo Y Y (k7 (jg Y Y (jg Y Y ?_)))))
  obtain ⟨t7, h1, hm⟩ := bindO hm
  refine jd [] [] Y Y Y Y Y Y Y call183 (fun w hh => Ja s0 f1_c0_c0_f0 qa0 na0 ca0 rb rb_1 qa3 na3 ca3 qa4 na4 ca4 qa5 na5 ca5 w (HV.callee (S0 := []) (vs0 := []) hh (roR hh 0 Y (roR hh 1 Y (roR hh 2 Y (roR hh 3 Y (roR hh 4 Y (roR hh 5 Y roN))))))) hna0 hqa0 hla0 hna3 hqa3 hla3 hna4 hqa4 hla4 hna5 hqa5 hla5 h1) (fun l h2 => ?_)
  refine jc Y Y Y (fun _ _ => YI Y Y) (jo Y Y (jq (jv ?_)))
  obtain rfl := sj hm
  refine jm Y (fun w hh => (.tmp Y .nil)) (fun w hh => ⟨(), rfl, trivial, hh.se [] [] 6 Y Y Y rfl⟩)
def kU (l0 : (List Sight)) (holds1_c0_f0 : Channel) : Option Bool :=
 (jT l0 holds1_c0_f0).bind fun t7 =>
 some (!t7)
theorem KF (l0 : (List Sight)) (holds1_c0_f0 : Channel) (qa0 : Option Addr) (na0 ca0 : Nat) (rb : Nat) (qa2 : Option Addr) (na2 ca2 : Nat) (qa3 : Option Addr) (na3 ca3 : Nat) (qa4 : Option Addr) (na4 ca4 : Nat) (w : World) (hw : HV w (keys [] []) [] [] [(aB qa0, aO qa0, RSi.enc l0), (rb, 0, [.func (.func 131) #[.agg #[.int .i64 holds1_c0_f0.cells, .int .i64 holds1_c0_f0.tides, .slice qa2 na2 ca2, .slice qa3 na3 ca3, .slice qa4 na4 ca4]] #[]]), (aB qa2, aO qa2, RI.enc holds1_c0_f0.fords), (aB qa3, aO qa3, RSa.enc holds1_c0_f0.sands), (aB qa4, aO qa4, RSi.enc holds1_c0_f0.sights)] w) (hna0 : l0.length = na0) (hqa0 : AOK na0 qa0) (hla0 : na0 ≤ ca0)  (hna2 : holds1_c0_f0.fords.length = na2) (hqa2 : AOK na2 qa2) (hla2 : na2 ≤ ca2) (hna3 : holds1_c0_f0.sands.length = na3) (hqa3 : AOK na3 qa3) (hla3 : na3 ≤ ca3) (hna4 : holds1_c0_f0.sights.length = na4) (hqa4 : AOK na4 qa4) (hla4 : na4 ≤ ca4) {res : Bool} (hm : kU l0 holds1_c0_f0 = some res) :
    Calls Tryz.prog 134 #[.slice qa0 na0 ca0, .func (.func 137) #[] #[ptr rb 0]] w (fun en w' => ∃ l : Unit, en = .returned (.bool res) ∧ (True) ∧ HV w (keys [] []) [] [] [] w') := by
  unfold kU at hm
  refine yr func134 Y ntmps134 Y (e := [(0, _), (1, _)]) Y hw (jr ?_)
  refine jI Y Y (fun b h1 => ?_)
  refine jo Y Y (k7 (jg Y Y (jc Y Y Y (fun _ _ => ku (u := #[]) (u' := #[_]) Y Y) ?_)))
  obtain ⟨t7, h2, hm⟩ := bindO hm
  refine jd [] [] Y Y Y Y Y Y Y call150 (fun w hh => zM l0 holds1_c0_f0 qa0 na0 ca0 b rb qa2 na2 ca2 qa3 na3 ca3 qa4 na4 ca4 w (HV.callee (S0 := []) (vs0 := []) hh (roR hh 0 Y (roC (bsep (hh.bseg 0 Y)) (roR hh 1 Y (roR hh 2 Y (roR hh 3 Y (roR hh 4 Y roN))))))) hna0 hqa0 hla0 hna2 hqa2 hla2 hna3 hqa3 hla3 hna4 hqa4 hla4 h2) (fun l h3 => ?_)
  refine jc Y Y Y (fun _ _ => zt Y) (jo Y Y (jq (jv ?_)))
  obtain rfl := sj hm
  refine jm Y (fun w hh => (.tmp Y .nil)) (fun w hh => ⟨(), rfl, trivial, hh.se [] [] 5 Y Y Y rfl⟩)
def z8 (x0 : Int) : Option Bool :=
 some (!decide (x0 = x0))
theorem QT (x0 : Int)  (w : World) (hw : HV w (keys [] []) [] [] [] w)  {res : Bool} (hm : z8 x0 = some res) :
    Calls Tryz.prog 224 #[.int .i64 x0] w (fun en w' => ∃ l : Unit, en = .returned (.bool res) ∧ (True) ∧ HV w (keys [] []) [] [] [] w') := by
  unfold z8 at hm
  refine yr func224 Y ntmps224 Y (e := [(0, _)]) Y hw (jr (jo Y Y (k7 (jg Y Y (jg Y Y (jc Y Y Y (fun _ _ => Jc Y Y) (jo Y Y ?_)))))))
  refine jq (jv ?_)
  obtain rfl := sj hm
  refine jm Y (fun w hh => (.tmp Y .nil)) (fun w hh => ⟨(), rfl, trivial, hh⟩)
def JC (x0 : Int) (y1 : Int) : Option Bool :=
 ((z8 x0).bind fun t6 =>
 if t6 = true then
 ((z8 y1).bind fun t9 =>
 if (!t9) = true then
 (some true) else
 (some (decide (x0 < y1)))) else
 (some (decide (x0 < y1)))).bind fun o =>
 some o
theorem Zf (x0 : Int) (y1 : Int)  (w : World) (hw : HV w (keys [] []) [] [] [] w)  {res : Bool} (hm : JC x0 y1 = some res) :
    Calls Tryz.prog 197 #[.int .i64 x0, .int .i64 y1] w (fun en w' => ∃ l : Unit, en = .returned (.bool res) ∧ (True) ∧ HV w (keys [] []) [] [] [] w') := by
  unfold JC at hm
  refine yr func197 Y ntmps197 Y (e := [(0, _), (1, _)]) Y hw (jr (jo Y Y (jq (ji ?_))))
  obtain ⟨o, h1, h2⟩ := bindO hm
  refine j3 (ι := Unit) (fun l => True) (fun l => [(4, .bool o)]) (fun l => []) (fun l => []) ?_ ?_
  ·replace hm := h1
   refine je (jg Y Y ?_)
   obtain ⟨t6, h3, hm⟩ := bindO hm
   refine jd [] [] Y Y Y Y Y Y Y call224 (fun w hh => QT x0 w (HV.callee (S0 := []) (vs0 := []) hh roN)  h3) (fun l_1 h4 => ?_)
   refine jg Y Y ?_
   refine j4 7 Y (fun h5 => ?_) (fun h5 => ?_)
   ·replace hm := ifT (h5) hm
    refine jb Y Y (jg Y Y (jb Y Y ?_))
    obtain ⟨t9, h6, hm⟩ := bindO hm
    refine jd [] [] Y Y Y Y Y Y Y call224 (fun w hh => QT y1 w (HV.callee (S0 := []) (vs0 := []) hh roN)  h6) (fun l_2 h7 => ?_)
    refine jb Y Y (jc Y Y Y (fun _ _ => zt Y) (yy Y Y Y (jg Y Y ?_)))
    refine j4 12 Y (fun h8 => ?_) (fun h8 => ?_)
    ·replace hm := ifT (h8) hm
     refine g_k Y Y Y Y (g_k Y Y Y Y (g_k Y Y Y Y (yy Y Y Y (jo Y Y (jx ?_)))))
     obtain rfl := sj hm
     exact jk () (trivial) (sE Y) (fun w hh => hh)
    replace hm := ifN h8 hm
    refine jb Y Y (jg Y Y (jb Y Y (jg Y Y (jb Y Y (Kv Y Y Y (zu Y Y Y (jo Y Y ?_)))))))
    refine jx ?_
    obtain rfl := sj hm
    exact jk () (trivial) (sE Y) (fun w hh => hh)
   replace hm := ifN h5 hm
   refine g_k Y Y Y Y (g_k Y Y Y Y (g_k Y Y Y Y (zu Y Y Y (jg Y Y (jb Y Y (jg Y Y (jb Y Y ?_)))))))
   refine jg Y Y (jb Y Y (Kv Y Y Y (zu Y Y Y (jo Y Y (jx ?_)))))
   obtain rfl := sj hm
   exact jk () (trivial) (sE Y) (fun w hh => hh)
  intro l hj
  replace hm := h2
  refine ja (jv ?_)
  obtain rfl := sj hm
  refine jm Y (fun w hh => (.tmp Y .nil)) (fun w hh => ⟨(), rfl, trivial, hh⟩)
def qU (x0 : (List Int)) (s : Int) : Option (Int ⊕ (Unit ⊕ Bool)) :=
 if 0 < s then
 ((ix x0 s).bind fun t13 =>
 (subc s 1).bind fun t17 =>
 (ix x0 t17).bind fun t18 =>
 (JC t13 t18).bind fun t20 =>
 if t20 = true then
 (some (.inr (.inr false))) else
 ((subc s 1).bind fun t10 =>
 some (.inl t10))) else
 (some (.inr (.inl ())))
def yM (x0 : (List Int)) : Option Bool :=
 (subc (x0.length : Int) 1).bind fun t6 =>
 (iterM FU (qU x0) t6).bind fun o =>
 oc o (fun j => some true) (fun r_1 => some r_1)
theorem Yg (x0 : (List Int)) (qa0 : Option Addr) (na0 ca0 : Nat) (w : World) (hw : HV w (keys [] []) [] [] [(aB qa0, aO qa0, RI.enc x0)] w) (hna0 : x0.length = na0) (hqa0 : AOK na0 qa0) (hla0 : na0 ≤ ca0) {res : Bool} (hm : yM x0 = some res) :
    Calls Tryz.prog 177 #[.slice qa0 na0 ca0] w (fun en w' => ∃ l : Unit, en = .returned (.bool res) ∧ (True) ∧ HV w (keys [] []) [] [] [] w') := by
  unfold yM at hm
  refine yr func177 Y ntmps177 Y (e := [(0, _)]) Y hw (jr (jo Y Y (jq (ji (jr (jg Y Y (jc Y Y Y (fun w _ => qd hna0 (runUnderlying22 w) Y) ?_)))))))
  obtain ⟨t6, h1, hm⟩ := bindO hm
  refine jc Y Y Y (fun _ _ => zO h1 Y Y) (jo Y Y (jq ?_))
  obtain ⟨o, h2, h3⟩ := bindO hm
  refine j3 (ι := Unit) (fun j => o = .inl j) (fun j => []) (fun j => []) (fun j => []) ?_ ?_
  ·replace hm := h2
   refine jp ?_
   refine kk (ι := Unit) hm (fun s l => True) (fun s l => [(0, .slice qa0 na0 ca0), (3, .int .i64 s)]) (fun s l => []) (fun s l => []) () (trivial) (sE Y) (fun w hh => hh) (fun s l r hpl hm h4 => ?_)
   unfold qU at hm
   refine ji (jr (jg Y Y (jc Y Y Y (fun _ _ => Zj Y Y) (jq ?_))))
   refine ju Y (fun h5 => ?_) (fun h5 => ?_)
   ·replace hm := ifD h5 hm
    refine jt (ja (ji (jp (ji ?_))))
    refine ky none (.free 0 (.free 1 (.free 2 (.hoist 3 (.free 4 (.free 5 (.free 6 (.free 7 (.hoist 8 (.one 9 .done)))))))))) _ Y (by decide +kernel) (fun w k hh => hh.draw k) (fun w hh => hh) ?_
    refine zs Y Y Y (zs Y Y Y ?_)
    obtain ⟨t13, h6, hm⟩ := bindO hm
    refine jn Y Y Y Y (fun w _ => Jy h6 (runUnderlying22 w) (sizeOf3 w) Y Y hna0 hqa0) (jy Y Y Y Y (fun w hh => zR RI 0 h6 (isAgg3 w) Y (hh.seg 0 Y) Y (Nat.add_zero _).symm) (zs Y Y Y (zs Y Y Y ?_)))
    obtain ⟨t17, h7, hm⟩ := bindO hm
    refine jn Y Y Y Y (fun _ _ => zO h7 Y Y) ?_
    obtain ⟨t18, h8, hm⟩ := bindO hm
    refine jn Y Y Y Y (fun w _ => Jy h8 (runUnderlying22 w) (sizeOf3 w) Y Y hna0 hqa0) (jy Y Y Y Y (fun w hh => zR RI 0 h8 (isAgg3 w) Y (hh.seg 0 Y) Y (Nat.add_zero _).symm) (jA Y ?_))
    obtain ⟨t20, h9, hm⟩ := bindO hm
    refine jd [] [] Y Y Y Y Y Y Y call197 (fun w hh => Zf t13 t18 w (HV.callee (S0 := []) (vs0 := []) hh roN)  h9) (fun l_1 h10 => ?_)
    refine jj (fun w hh => hh) (jM (ja ?_))
    refine ju Y (fun h11 => ?_) (fun h11 => ?_)
    ·replace hm := ifT (h11) hm
     refine jr (jo Y Y (jq (jv (jJ (jh (jh (jJ ?_)))))))
     obtain rfl := sj hm
     have hbo := h4 _ Y
     subst hbo
     refine jh ?_
     replace hm := ocR h3
     refine jh ?_
     obtain rfl := sj hm
     refine jm Y (fun w hh => (.tmp Y .nil)) (fun w hh => ⟨(), rfl, trivial, hh.se [] [] 1 Y Y Y rfl⟩)
    replace hm := ifN h11 hm
    refine jt (jw (ja (je (jg Y Y ?_))))
    obtain ⟨t10, h12, hm⟩ := bindO hm
    refine jc Y Y Y (fun _ _ => zO h12 Y Y) (jo Y Y (jx ?_))
    obtain rfl := sj hm
    refine ja ?_
    exact jN _ () Y (trivial) (sE Y) (fun w hh => hh)
   replace hm := ifE h5 hm
   refine kN (jl (jl (jO ?_)))
   obtain rfl := sj hm
   have hbo := h4 _ Y
   subst hbo
   exact jk () (Y) (.nil) (fun w hh => hh)
  intro j hj
  have h13 := hj
  subst h13
  replace hm := ocL h3
  refine ja (jr (jo Y Y (jq (jv ?_))))
  obtain rfl := sj hm
  refine jm Y (fun w hh => (.tmp Y .nil)) (fun w hh => ⟨(), rfl, trivial, hh.se [] [] 1 Y Y Y rfl⟩)
def kp (s0 : (List Int)) : Option (List Int) :=
 (appc 8 [] s0).bind fun t7 =>
 some t7
theorem kx (s0 : (List Int)) (qa0 : Option Addr) (na0 ca0 : Nat) (w : World) (hw : HV w (keys [] []) [] [] [(aB qa0, aO qa0, RI.enc s0)] w) (hna0 : s0.length = na0) (hqa0 : AOK na0 qa0) (hla0 : na0 ≤ ca0) {res : (List Int)} (hm : kp s0 = some res) :
    Calls Tryz.prog 74 #[.slice qa0 na0 ca0] w (fun en w' => ∃ l : VL, en = .returned (sL l) ∧ (VOK 1 l.n l.cap (RI.enc res) l.sp l.q) ∧ HV w (keys [] []) [] [vL 3 l (RI.enc res)] [] w') := by
  unfold kp at hm
  refine yr func74 Y ntmps74 Y (e := [(0, _)]) Y hw (jr (jc Y Y Y (fun _ _ => yc Y) (jq (ji (jr (jg Y Y ?_))))))
  cases qa0 with
  | none =>
    obtain rfl : s0 = [] := AOK.nilL hqa0 hna0
    refine jc Y Y Y (fun w _ => jaH (runUnderlying22 w) Y Y) (jq (J1 Y Y (jr (jc Y Y Y (fun _ _ => yc Y) (jq (jv (jh ?_)))))))
    obtain rfl := sj hm
    refine zV 3 ?_
    exact jm Y (fun w hh => (.tmp Y .nil)) (fun w hh => ⟨vl0, rfl, VOK.nil, hh.se [] [0] 1 Y Y Y rfl⟩)
  | some a0 =>
   refine jc Y Y Y (fun w _ => jaI (runUnderlying22 w) Y Y) (jq (Ka Y Y (jt (ja (jr ?_)))))
   refine jaq RI (fun w => runUnderlying22 w) (fun w => sizeOf3 w) Y Y (fun L h3 => ?_)
   refine jg Y Y ?_
   obtain ⟨t7, h4, hm⟩ := bindO hm
   refine zz RI 0 h4 underlying22 KZ Y Y Y Y Y h3 Y Y hna0 hqa0 (fun w hh => (hh.seg 0 Y)) Y (fun L_1 h5 h5n => ?_)
   refine jV (S' := []) (vs' := [_]) [] [0] 0 Y Y Y Y (jo Y Y (jq (jv ?_)))
   obtain rfl := sj hm
   refine jm Y (fun w hh => (.tmp Y .nil)) (fun w hh => ⟨L_1, rfl, h5, hh.se [] [0] 1 Y Y Y rfl⟩)
def z2 (l0 : (List Int)) : Option Bool :=
 ((yM l0).bind fun t4 =>
 if t4 = true then
 ((kp l0).bind fun t7 =>
 (yH t7).bind fun t8 =>
 some (decide ((t8.length : Int) = (l0.length : Int)))) else
 (some false)).bind fun o =>
 some o
theorem Y4 (l0 : (List Int)) (qa0 : Option Addr) (na0 ca0 : Nat) (w : World) (hw : HV w (keys [] []) [] [] [(aB qa0, aO qa0, RI.enc l0)] w) (hna0 : l0.length = na0) (hqa0 : AOK na0 qa0) (hla0 : na0 ≤ ca0) {res : Bool} (hm : z2 l0 = some res) :
    Calls Tryz.prog 138 #[.slice qa0 na0 ca0] w (fun en w' => ∃ l : Unit, en = .returned (.bool res) ∧ (True) ∧ HV w (keys [] []) [] [] [] w') := by
  unfold z2 at hm
  refine yr func138 Y ntmps138 Y (e := [(0, _)]) Y hw (jr (jo Y Y (jq (ji ?_))))
  obtain ⟨o, h1, h2⟩ := bindO hm
  refine j3 (ι := Unit) (fun l => True) (fun l => [(2, .bool o)]) (fun l => []) (fun l => []) ?_ ?_
  ·replace hm := h1
   refine je (jg Y Y ?_)
   obtain ⟨t4, h3, hm⟩ := bindO hm
   refine jd [] [] Y Y Y Y Y Y Y call177 (fun w hh => Yg l0 qa0 na0 ca0 w (HV.callee (S0 := []) (vs0 := []) hh (roR hh 0 Y roN)) hna0 hqa0 hla0 h3) (fun l_1 h4 => ?_)
   refine jg Y Y ?_
   refine j4 5 Y (fun h5 => ?_) (fun h5 => ?_)
   ·replace hm := ifT (h5) hm
    refine jb Y Y (jg Y Y (jb Y Y ?_))
    obtain ⟨t7, h6, hm⟩ := bindO hm
    refine jd [] [] Y Y Y Y Y Y Y call74 (fun w hh => kx l0 qa0 na0 ca0 w (HV.callee (S0 := []) (vs0 := []) hh (roR hh 0 Y roN)) hna0 hqa0 hla0 h6) (fun l_2 h7 => ?_)
    have h8 := h7
    refine jV (S' := []) (vs' := [_]) [] [0] 0 Y Y Y Y (jb Y Y ?_)
    obtain ⟨t8, h9, hm⟩ := bindO hm
    refine jd [] [_] Y Y Y Y Y Y Y call114 (fun w hh => Qu t7 ⟨l_2.q, l_2.n, l_2.cap, l_2.sp⟩ w (HV.callee (S0 := []) (vs0 := [_]) hh roN) h8 h9) (fun l_3 h10 => ?_)
    have h11 := h10
    refine jV (S' := []) (vs' := [_]) [] [0] 0 Y Y Y Y (jb Y Y (jc Y Y Y (fun w _ => zr (vlen RI h11 Y) (runUnderlying22 w) Y) (jb Y Y (jg Y Y (jb Y Y (jc Y Y Y (fun w _ => qd hna0 (runUnderlying22 w) Y) (jb Y Y ?_)))))))
    refine jc Y Y Y (fun _ _ => Ju Y Y) (yy Y Y Y (jo Y Y (jx ?_)))
    obtain rfl := sj hm
    exact jk () (trivial) (sE Y) (hsE [] [] 0 Y Y Y Y)
   replace hm := ifN h5 hm
   refine g_k Y Y Y Y (g_k Y Y Y Y (g_k Y Y Y Y (g_k Y Y Y Y (g_k Y Y Y Y (g_k Y Y Y Y (g_k Y Y Y Y (zu Y Y Y ?_)))))))
   refine jo Y Y (jx ?_)
   obtain rfl := sj hm
   exact jk () (trivial) (sE Y) (fun w hh => hh)
  intro l hj
  replace hm := h2
  refine ja (jv ?_)
  obtain rfl := sj hm
  refine jm Y (fun w hh => (.tmp Y .nil)) (fun w hh => ⟨(), rfl, trivial, hh.se [] [] 1 Y Y Y rfl⟩)
def JK (s0 : Sand) : Option Bool :=
 some (decide (s0.span.lo ≤ s0.span.hi))
theorem YW (s0 : Sand)  (w : World) (hw : HV w (keys [] []) [] [] [] w)  {res : Bool} (hm : JK s0 = some res) :
    Calls Tryz.prog 139 #[.agg #[.int .i64 s0.span.lo, .int .i64 s0.span.hi, .int .i64 s0.reach]] w (fun en w' => ∃ l : Unit, en = .returned (.bool res) ∧ (True) ∧ HV w (keys [] []) [] [] [] w') := by
  unfold JK at hm
  refine yr func139 Y ntmps139 Y (e := [(0, _)]) Y hw (jr ?_)
  refine jI Y Y (fun b h1 => ?_)
  refine jo Y Y (k7 (yD 0 runUnderlying98 Y sizeOf50 Y Y (yD 0 runUnderlying50 Y sizeOf3 Y Y (yf 0 isAgg3 Y Y Y Y (yD 0 runUnderlying98 Y sizeOf50 Y Y (yD 1 runUnderlying50 Y sizeOf3 Y Y (yf 0 isAgg3 Y Y Y Y ?_)))))))
  refine jc Y Y Y (fun _ _ => Z1 Y Y) (jo Y Y (jq (jv ?_)))
  obtain rfl := sj hm
  refine jm Y (fun w hh => (.tmp Y .nil)) (fun w hh => ⟨(), rfl, trivial, hh.se [] [] 0 Y Y Y rfl⟩)
def kE (x0 : Sand) : Option Bool :=
 (JK x0).bind fun t6 =>
 some (!t6)
theorem Kw (x0 : Sand) (rb : Nat) (w : World) (hw : HV w (keys [] []) [] [] [(rb, 0, [.func (.func 139) #[] #[]])] w)  {res : Bool} (hm : kE x0 = some res) :
    Calls Tryz.prog 175 #[.agg #[.int .i64 x0.span.lo, .int .i64 x0.span.hi, .int .i64 x0.reach], ptr rb 0] w (fun en w' => ∃ l : Unit, en = .returned (.bool res) ∧ (True) ∧ HV w (keys [] []) [] [] [] w') := by
  unfold kE at hm
  refine yr func175 Y ntmps175 Y (e := [(0, _), (1, _)]) Y hw (jr ?_)
  refine jI Y Y (fun b h1 => ?_)
  refine jo Y Y (k7 (jc Y Y Y (fun w hh => jz (isAgg188 w) Y (segCell (hh.seg 0 Y) 0 Y)) (zX [_, _, _] 0 isAgg98 sizeOf98 Y Y Y Y ?_)))
  obtain ⟨t6, h2, hm⟩ := bindO hm
  refine jd [] [] Y Y Y Y Y Y Y call139 (fun w hh => YW x0 w (HV.callee (S0 := []) (vs0 := []) hh roN)  h2) (fun l h3 => ?_)
  refine jc Y Y Y (fun _ _ => zt Y) (jo Y Y (jq (jv ?_)))
  obtain rfl := sj hm
  refine jm Y (fun w hh => (.tmp Y .nil)) (fun w hh => ⟨(), rfl, trivial, hh.se [] [] 1 Y Y Y rfl⟩)
def kY (s0 : (List Sand)) (s : Int) : Option (Int ⊕ (Unit ⊕ Int)) :=
 if s < (s0.length : Int) then
 ((ix s0 s).bind fun t14 =>
 (kE (⟨(⟨t14.span.lo, t14.span.hi⟩ : Span), t14.reach⟩ : Sand)).bind fun t16 =>
 if t16 = true then
 (some (.inr (.inr s))) else
 ((addc s 1).bind fun t18 =>
 some (.inl t18))) else
 (some (.inr (.inl ())))
def kl (s0 : (List Sand)) : Option Int :=
 (iterM FU (kY s0) 0).bind fun o =>
 oc o (fun j => some (-1)) (fun r_1 => some r_1)
theorem Jr (s0 : (List Sand)) (qa0 : Option Addr) (na0 ca0 : Nat) (rb : Nat) (w : World) (hw : HV w (keys [] []) [] [] [(aB qa0, aO qa0, RSa.enc s0), (rb, 0, [.func (.func 139) #[] #[]])] w) (hna0 : s0.length = na0) (hqa0 : AOK na0 qa0) (hla0 : na0 ≤ ca0)  {res : Int} (hm : kl s0 = some res) :
    Calls Tryz.prog 202 #[.slice qa0 na0 ca0, .func (.func 175) #[] #[ptr rb 0]] w (fun en w' => ∃ l : Unit, en = .returned (.int .i64 res) ∧ (True) ∧ HV w (keys [] []) [] [] [] w') := by
  unfold kl at hm
  refine yr func202 Y ntmps202 Y (e := [(0, _), (1, _)]) Y hw (jr (jo Y Y (jq (ji (jr (jg Y Y (jc Y Y Y (fun w _ => qd hna0 (runUnderlying23 w) Y) ?_)))))))
  refine jg Y Y (jq ?_)
  obtain ⟨o, h1, h2⟩ := bindO hm
  refine j3 (ι := Unit) (fun j => o = .inl j) (fun j => []) (fun j => []) (fun j => []) ?_ ?_
  ·replace hm := h1
   refine jp ?_
   refine kk (ι := Unit) hm (fun s l => True) (fun s l => [(0, .slice qa0 na0 ca0), (1, .func (.func 175) #[] #[ptr rb 0]), (7, .int .i64 (s0.length : Int)), (8, .int .i64 s)]) (fun s l => []) (fun s l => []) () (trivial) (sE Y) (fun w hh => hh) (fun s l r hpl hm h3 => ?_)
   unfold kY at hm
   refine jr (Kv Y Y Y (jq (ji ?_)))
   refine ju Y (fun h4 => ?_) (fun h4 => ?_)
   ·replace hm := ifD h4 hm
    refine jt (ja (ji (jp (jr (jg Y Y (jo Y Y (k7 ?_)))))))
    refine jg Y Y (jg Y Y (jg Y Y ?_))
    obtain ⟨t14, h5, hm⟩ := bindO hm
    refine jc Y Y Y (fun w _ => Jy h5 (runUnderlying23 w) (sizeOf98 w) Y Y hna0 hqa0) ?_
    refine jc Y Y Y (fun w hh => JE RSa 0 [.int .i64 t14.span.lo, .int .i64 t14.span.hi, .int .i64 t14.reach] h5 (isAgg98 w) (sizeOf98 w) Y (hh.seg 0 Y) Y (Nat.add_zero _).symm) ?_
    obtain ⟨t16, h6, hm⟩ := bindO hm
    refine jd [] [] Y Y Y Y Y Y Y call175 (fun w hh => Kw (⟨(⟨t14.span.lo, t14.span.hi⟩ : Span), t14.reach⟩ : Sand) rb w (HV.callee (S0 := []) (vs0 := []) hh (roR hh 1 Y roN))  h6) (fun l_1 h7 => ?_)
    refine jq ?_
    refine ju Y (fun h8 => ?_) (fun h8 => ?_)
    ·replace hm := ifT (h8) hm
     refine jr (jg Y Y (jo Y Y (jq (jv (jJ (jh (jh ?_)))))))
     refine jJ ?_
     obtain rfl := sj hm
     have hbo := h3 _ Y
     subst hbo
     refine jh ?_
     replace hm := ocR h2
     refine jh ?_
     obtain rfl := sj hm
     refine jm Y (fun w hh => (.tmp Y .nil)) (fun w hh => ⟨(), rfl, trivial, hh.se [] [] 2 Y Y Y rfl⟩)
    replace hm := ifN h8 hm
    refine jt (jw (ja (je ?_)))
    obtain ⟨t18, h9, hm⟩ := bindO hm
    refine Kq h9 Y Y Y (jg Y Y (jx ?_))
    obtain rfl := sj hm
    refine ja ?_
    exact jN _ () Y (trivial) (sE Y) (fun w hh => hh)
   replace hm := ifE h4 hm
   refine kN (jl (jl (jO ?_)))
   obtain rfl := sj hm
   have hbo := h3 _ Y
   subst hbo
   exact jk () (Y) (.nil) (fun w hh => hh)
  intro j hj
  have h10 := hj
  subst h10
  replace hm := ocL h2
  refine ja (jr (jo Y Y (jq (jv ?_))))
  obtain rfl := sj hm
  refine jm Y (fun w hh => (.tmp Y .nil)) (fun w hh => ⟨(), rfl, trivial, hh.se [] [] 2 Y Y Y rfl⟩)
def jX (s0 : (List Sand)) : Option Bool :=
 (kl s0).bind fun t7 =>
 some (decide (0 ≤ t7))
theorem zW (s0 : (List Sand)) (qa0 : Option Addr) (na0 ca0 : Nat) (rb : Nat) (w : World) (hw : HV w (keys [] []) [] [] [(aB qa0, aO qa0, RSa.enc s0), (rb, 0, [.func (.func 139) #[] #[]])] w) (hna0 : s0.length = na0) (hqa0 : AOK na0 qa0) (hla0 : na0 ≤ ca0)  {res : Bool} (hm : jX s0 = some res) :
    Calls Tryz.prog 174 #[.slice qa0 na0 ca0, .func (.func 175) #[] #[ptr rb 0]] w (fun en w' => ∃ l : Unit, en = .returned (.bool res) ∧ (True) ∧ HV w (keys [] []) [] [] [] w') := by
  unfold jX at hm
  refine yr func174 Y ntmps174 Y (e := [(0, _), (1, _)]) Y hw (jr (jo Y Y (k7 (jg Y Y (jg Y Y ?_)))))
  obtain ⟨t7, h1, hm⟩ := bindO hm
  refine jd [] [] Y Y Y Y Y Y Y call202 (fun w hh => Jr s0 qa0 na0 ca0 rb w (HV.callee (S0 := []) (vs0 := []) hh (roR hh 0 Y (roR hh 1 Y roN))) hna0 hqa0 hla0 h1) (fun l h2 => ?_)
  refine jc Y Y Y (fun _ _ => YI Y Y) (jo Y Y (jq (jv ?_)))
  obtain rfl := sj hm
  refine jm Y (fun w hh => (.tmp Y .nil)) (fun w hh => ⟨(), rfl, trivial, hh.se [] [] 2 Y Y Y rfl⟩)
def qc (l0 : (List Sand)) : Option Bool :=
 (jX l0).bind fun t7 =>
 some (!t7)
theorem KK (l0 : (List Sand)) (qa0 : Option Addr) (na0 ca0 : Nat) (w : World) (hw : HV w (keys [] []) [] [] [(aB qa0, aO qa0, RSa.enc l0)] w) (hna0 : l0.length = na0) (hqa0 : AOK na0 qa0) (hla0 : na0 ≤ ca0) {res : Bool} (hm : qc l0 = some res) :
    Calls Tryz.prog 132 #[.slice qa0 na0 ca0, .func (.func 139) #[] #[]] w (fun en w' => ∃ l : Unit, en = .returned (.bool res) ∧ (True) ∧ HV w (keys [] []) [] [] [] w') := by
  unfold qc at hm
  refine yr func132 Y ntmps132 Y (e := [(0, _), (1, _)]) Y hw (jr ?_)
  refine jI Y Y (fun b h1 => ?_)
  refine jo Y Y (k7 (jg Y Y (jc Y Y Y (fun _ _ => ku (u := #[]) (u' := #[_]) Y Y) ?_)))
  obtain ⟨t7, h2, hm⟩ := bindO hm
  refine jd [] [] Y Y Y Y Y Y Y call174 (fun w hh => zW l0 qa0 na0 ca0 b w (HV.callee (S0 := []) (vs0 := []) hh (roR hh 0 Y (roC (bsep (hh.bseg 0 Y)) roN))) hna0 hqa0 hla0 h2) (fun l h3 => ?_)
  refine jc Y Y Y (fun _ _ => zt Y) (jo Y Y (jq (jv ?_)))
  obtain rfl := sj hm
  refine jm Y (fun w hh => (.tmp Y .nil)) (fun w hh => ⟨(), rfl, trivial, hh.se [] [] 1 Y Y Y rfl⟩)
def zp (c0 : Channel) : Option Int :=
 ((qH c0.cells 2 10).bind fun t9 =>
 if (!t9) = true then
 (some true) else
 ((qH c0.tides 0 4).bind fun t14 =>
 if (!t14) = true then
 (some true) else
 ((qH (c0.fords.length : Int) 1 3).bind fun t21 =>
 if (!t21) = true then
 (some true) else
 (if 4 < (c0.sands.length : Int) then
 (some true) else
 (some (decide (8 < (c0.sights.length : Int)))))))).bind fun o =>
 if o = true then
 (some 2) else
 (((qw c0.sands).bind fun t39 =>
 if (!t39) = true then
 (some true) else
 ((qk c0.sights c0.cells c0.tides c0.fords c0.sands c0.sights).bind fun t45 =>
 some (!t45))).bind fun o_1 =>
 if o_1 = true then
 (some 3) else
 (((zh c0.fords c0).bind fun t52 =>
 if (!t52) = true then
 (some true) else
 ((qa c0.sands c0).bind fun t58 =>
 if (!t58) = true then
 (some true) else
 ((kU c0.sights c0).bind fun t65 =>
 some (!t65)))).bind fun o_2 =>
 if o_2 = true then
 (some 1) else
 (((z2 c0.fords).bind fun t71 =>
 if (!t71) = true then
 (some true) else
 ((qc c0.sands).bind fun t76 =>
 some (!t76))).bind fun o_3 =>
 if o_3 = true then
 (some 4) else
 (some 0))))
theorem Qf (c0 : Channel) (qa0 : Option Addr) (na0 ca0 : Nat) (qa1 : Option Addr) (na1 ca1 : Nat) (qa2 : Option Addr) (na2 ca2 : Nat) (w : World) (hw : HV w (keys [] []) [] [] [(aB qa0, aO qa0, RI.enc c0.fords), (aB qa1, aO qa1, RSa.enc c0.sands), (aB qa2, aO qa2, RSi.enc c0.sights)] w) (hna0 : c0.fords.length = na0) (hqa0 : AOK na0 qa0) (hla0 : na0 ≤ ca0) (hna1 : c0.sands.length = na1) (hqa1 : AOK na1 qa1) (hla1 : na1 ≤ ca1) (hna2 : c0.sights.length = na2) (hqa2 : AOK na2 qa2) (hla2 : na2 ≤ ca2) {res : Int} (hm : zp c0 = some res) :
    Calls Tryz.prog 55 #[.agg #[.int .i64 c0.cells, .int .i64 c0.tides, .slice qa0 na0 ca0, .slice qa1 na1 ca1, .slice qa2 na2 ca2]] w (fun en w' => ∃ l : Unit, en = .returned (.int .i64 res) ∧ (True) ∧ HV w (keys [] []) [] [] [] w') := by
  unfold zp at hm
  refine yr func55 Y ntmps55 Y (e := [(0, _)]) Y hw (jr ?_)
  refine jI Y Y (fun b h1 => ?_)
  refine jo Y Y (k7 (zX [_, _, _, _, _] 0 isAgg26 sizeOf26 Y Y Y Y (jc Y Y Y (fun _ _ => ku (u := #[_]) (u' := #[]) Y Y) ?_)))
  refine js (fun w => zeroValue102 w) Y (fun b_1 h2 => ?_)
  refine q4 (cs' := #[_]) (S' := [_, _]) 0 (fun w => sizeOf102 w) Y Y Y Y Y Y Y (jq (ji (jp (ji ?_))))
  obtain ⟨o, h3, h4⟩ := bindO hm
  refine j3 (ι := Unit) (fun l => True) (fun l => [(1, ptr b 0), (3, ptr b_1 0), (6, .bool o)]) (fun l => [(b_1, .cells #[.func (.func 131) #[.agg #[.int .i64 c0.cells, .int .i64 c0.tides, .slice qa0 na0 ca0, .slice qa1 na1 ca1, .slice qa2 na2 ca2]] #[]] 102 (0, 0)), kc b #[.int .i64 c0.cells, .int .i64 c0.tides, .slice qa0 na0 ca0, .slice qa1 na1 ca1, .slice qa2 na2 ca2] 26]) (fun l => []) ?_ ?_
  ·replace hm := h3
   refine je (yD 0 runUnderlying26 Y sizeOf3 Y Y (yf 1 isAgg3 Y Y Y Y ?_))
   obtain ⟨t9, h5, hm⟩ := bindO hm
   refine jd [] [] Y Y Y Y Y Y Y call106 (fun w hh => z1 c0.cells 2 10 w (HV.callee (S0 := []) (vs0 := []) hh roN)  h5) (fun l_1 h6 => ?_)
   refine jc Y Y Y (fun _ _ => zt Y) (jg Y Y ?_)
   refine j4 11 Y (fun h7 => ?_) (fun h7 => ?_)
   ·replace hm := ifT (h7) hm
    refine g_k Y Y Y Y (g_k Y Y Y Y (g_k Y Y Y Y (g_k Y Y Y Y (yy Y Y Y (jg Y Y (g_k Y Y Y Y (g_k Y Y Y Y ?_)))))))
    refine g_k Y Y Y Y (g_k Y Y Y Y (g_k Y Y Y Y (yy Y Y Y (jg Y Y (g_k Y Y Y Y (g_k Y Y Y Y (g_k Y Y Y Y ?_)))))))
    refine g_k Y Y Y Y (yy Y Y Y (jg Y Y (g_k Y Y Y Y (g_k Y Y Y Y (g_k Y Y Y Y (g_k Y Y Y Y (yy Y Y Y ?_)))))))
    refine jo Y Y (jx ?_)
    obtain rfl := sj hm
    exact jk () (trivial) (sE Y) (fun w hh => hh)
   replace hm := ifN h7 hm
   refine jb Y Y (yD 1 runUnderlying26 Y sizeOf3 Y Y (jb Y Y (yf 1 isAgg3 Y Y Y Y (jb Y Y ?_))))
   obtain ⟨t14, h8, hm⟩ := bindO hm
   refine jd [] [] Y Y Y Y Y Y Y call106 (fun w hh => z1 c0.tides 0 4 w (HV.callee (S0 := []) (vs0 := []) hh roN)  h8) (fun l_2 h9 => ?_)
   refine jb Y Y (jc Y Y Y (fun _ _ => zt Y) (zu Y Y Y (jg Y Y ?_)))
   refine j4 17 Y (fun h10 => ?_) (fun h10 => ?_)
   ·replace hm := ifT (h10) hm
    refine g_k Y Y Y Y (g_k Y Y Y Y (g_k Y Y Y Y (g_k Y Y Y Y (g_k Y Y Y Y (yy Y Y Y (jg Y Y (g_k Y Y Y Y ?_)))))))
    refine g_k Y Y Y Y (g_k Y Y Y Y (g_k Y Y Y Y (yy Y Y Y (jg Y Y (g_k Y Y Y Y (g_k Y Y Y Y (g_k Y Y Y Y ?_)))))))
    refine g_k Y Y Y Y (yy Y Y Y (jo Y Y (jx ?_)))
    obtain rfl := sj hm
    exact jk () (trivial) (sE Y) (fun w hh => hh)
   replace hm := ifN h10 hm
   refine jb Y Y (yD 2 runUnderlying26 Y sizeOf22 Y Y (jb Y Y (yf 1 isAgg22 Y Y Y Y (jb Y Y (jc Y Y Y (fun w _ => qd hna0 (runUnderlying22 w) Y) (jb Y Y ?_))))))
   obtain ⟨t21, h11, hm⟩ := bindO hm
   refine jd [] [] Y Y Y Y Y Y Y call106 (fun w hh => z1 (c0.fords.length : Int) 1 3 w (HV.callee (S0 := []) (vs0 := []) hh roN)  h11) (fun l_3 h12 => ?_)
   refine jb Y Y (jc Y Y Y (fun _ _ => zt Y) (zu Y Y Y (jg Y Y ?_)))
   refine j4 24 Y (fun h13 => ?_) (fun h13 => ?_)
   ·replace hm := ifT (h13) hm
    refine g_k Y Y Y Y (g_k Y Y Y Y (g_k Y Y Y Y (g_k Y Y Y Y (yy Y Y Y (jg Y Y (g_k Y Y Y Y (g_k Y Y Y Y ?_)))))))
    refine g_k Y Y Y Y (g_k Y Y Y Y (yy Y Y Y (jo Y Y (jx ?_))))
    obtain rfl := sj hm
    exact jk () (trivial) (sE Y) (fun w hh => hh)
   replace hm := ifN h13 hm
   refine jb Y Y (yD 3 runUnderlying26 Y sizeOf23 Y Y (jb Y Y (yf 1 isAgg23 Y Y Y Y (jb Y Y (jc Y Y Y (fun w _ => qd hna1 (runUnderlying23 w) Y) (jb Y Y (jc Y Y Y (fun _ _ => Zj Y Y) ?_)))))))
   refine zu Y Y Y (jg Y Y ?_)
   refine j4 30 Y (fun h14 => ?_) (fun h14 => ?_)
   ·replace hm := ifD h14 hm
    refine g_k Y Y Y Y (g_k Y Y Y Y (g_k Y Y Y Y (g_k Y Y Y Y (yy Y Y Y (jo Y Y (jx ?_))))))
    obtain rfl := sj hm
    exact jk () (trivial) (sE Y) (fun w hh => hh)
   replace hm := ifE h14 hm
   refine jb Y Y (yD 4 runUnderlying26 Y sizeOf24 Y Y (jb Y Y (yf 1 isAgg24 Y Y Y Y (jb Y Y (jc Y Y Y (fun w _ => qd hna2 (runUnderlying24 w) Y) (jb Y Y (jc Y Y Y (fun _ _ => Zj Y Y) ?_)))))))
   refine zu Y Y Y (jo Y Y (jx ?_))
   obtain rfl := sj hm
   exact jk () (trivial) (sE Y) (fun w hh => hh)
  intro l hj
  replace hm := h4
  refine ja ?_
  refine ju Y (fun h15 => ?_) (fun h15 => ?_)
  ·replace hm := ifT (h15) hm
   refine jr (jo Y Y (jq (jv (jJ (jh ?_)))))
   obtain rfl := sj hm
   refine jm Y (fun w hh => (.tmp Y .nil)) (fun w hh => ⟨(), rfl, trivial, hh.se [] [] 3 Y Y Y rfl⟩)
  replace hm := ifN h15 hm
  refine ji ?_
  obtain ⟨o_1, h16, h17⟩ := bindO hm
  refine j3 (ι := Unit) (fun l_4 => True) (fun l_4 => [(1, ptr b 0), (3, ptr b_1 0), (36, .bool o_1)]) (fun l_4 => [(b_1, .cells #[.func (.func 131) #[.agg #[.int .i64 c0.cells, .int .i64 c0.tides, .slice qa0 na0 ca0, .slice qa1 na1 ca1, .slice qa2 na2 ca2]] #[]] 102 (0, 0)), kc b #[.int .i64 c0.cells, .int .i64 c0.tides, .slice qa0 na0 ca0, .slice qa1 na1 ca1, .slice qa2 na2 ca2] 26]) (fun l_4 => []) ?_ ?_
  ·replace hm := h16
   refine je (yD 3 runUnderlying26 Y sizeOf23 Y Y (yf 1 isAgg23 Y Y Y Y ?_))
   obtain ⟨t39, h18, hm⟩ := bindO hm
   refine jd [] [] Y Y Y Y Y Y Y call132 (fun w hh => Qh c0.sands qa1 na1 ca1 w (HV.callee (S0 := []) (vs0 := []) hh (roR hh 1 Y roN)) hna1 hqa1 hla1 h18) (fun l_5 h19 => ?_)
   refine jc Y Y Y (fun _ _ => zt Y) (jg Y Y ?_)
   refine j4 41 Y (fun h20 => ?_) (fun h20 => ?_)
   ·replace hm := ifT (h20) hm
    refine g_k Y Y Y Y (g_k Y Y Y Y (g_k Y Y Y Y (g_k Y Y Y Y (g_k Y Y Y Y (yy Y Y Y (jo Y Y (jx ?_)))))))
    obtain rfl := sj hm
    exact jk () (trivial) (sE Y) (fun w hh => hh)
   replace hm := ifN h20 hm
   refine jb Y Y (yD 4 runUnderlying26 Y sizeOf24 Y Y (jb Y Y (yf 1 isAgg24 Y Y Y Y (jb Y Y (jc Y Y Y (fun _ _ => ku (u := #[]) (u' := #[_]) Y Y) (jb Y Y ?_))))))
   obtain ⟨t45, h21, hm⟩ := bindO hm
   refine jd [] [] Y Y Y Y Y Y Y call134 (fun w hh => KU c0.sights c0.cells c0.tides c0.fords c0.sands c0.sights qa2 na2 ca2 b qa0 na0 ca0 qa1 na1 ca1 qa2 na2 ca2 w (HV.callee (S0 := []) (vs0 := []) hh (roR hh 2 Y (roC (bsep (hh.bseg 1 Y)) (roR hh 0 Y (roR hh 1 Y (roR hh 2 Y roN)))))) hna2 hqa2 hla2 hna0 hqa0 hla0 hna1 hqa1 hla1 hna2 hqa2 hla2 h21) (fun l_6 h22 => ?_)
   refine jb Y Y (jc Y Y Y (fun _ _ => zt Y) (zu Y Y Y (jo Y Y (jx ?_))))
   obtain rfl := sj hm
   exact jk () (trivial) (sE Y) (fun w hh => hh)
  intro l_4 hj
  replace hm := h17
  refine ja ?_
  refine ju Y (fun h23 => ?_) (fun h23 => ?_)
  ·replace hm := ifT (h23) hm
   refine jr (jo Y Y (jq (jv (jJ (jh ?_)))))
   obtain rfl := sj hm
   refine jm Y (fun w hh => (.tmp Y .nil)) (fun w hh => ⟨(), rfl, trivial, hh.se [] [] 3 Y Y Y rfl⟩)
  replace hm := ifN h23 hm
  refine ji ?_
  obtain ⟨o_2, h24, h25⟩ := bindO hm
  refine j3 (ι := Unit) (fun l_7 => True) (fun l_7 => [(1, ptr b 0), (48, .bool o_2)]) (fun l_7 => [(b_1, .cells #[.func (.func 131) #[.agg #[.int .i64 c0.cells, .int .i64 c0.tides, .slice qa0 na0 ca0, .slice qa1 na1 ca1, .slice qa2 na2 ca2]] #[]] 102 (0, 0)), kc b #[.int .i64 c0.cells, .int .i64 c0.tides, .slice qa0 na0 ca0, .slice qa1 na1 ca1, .slice qa2 na2 ca2] 26]) (fun l_7 => []) ?_ ?_
  ·replace hm := h24
   refine je (yD 2 runUnderlying26 Y sizeOf22 Y Y (yf 1 isAgg22 Y Y Y Y (yf 0 isAgg102 Y Y Y Y ?_)))
   obtain ⟨t52, h26, hm⟩ := bindO hm
   refine jd [] [] Y Y Y Y Y Y Y call119 (fun w hh => Yx c0.fords c0 qa0 na0 ca0 qa0 na0 ca0 qa1 na1 ca1 qa2 na2 ca2 w (HV.callee (S0 := []) (vs0 := []) hh (roR hh 0 Y (roR hh 0 Y (roR hh 1 Y (roR hh 2 Y roN))))) hna0 hqa0 hla0 hna0 hqa0 hla0 hna1 hqa1 hla1 hna2 hqa2 hla2 h26) (fun l_8 h27 => ?_)
   refine jc Y Y Y (fun _ _ => zt Y) (jg Y Y ?_)
   refine j4 54 Y (fun h28 => ?_) (fun h28 => ?_)
   ·replace hm := ifT (h28) hm
    refine g_k Y Y Y Y (g_k Y Y Y Y (g_k Y Y Y Y (g_k Y Y Y Y (g_k Y Y Y Y (yy Y Y Y (jg Y Y (g_k Y Y Y Y ?_)))))))
    refine g_k Y Y Y Y (g_k Y Y Y Y (g_k Y Y Y Y (g_k Y Y Y Y (yy Y Y Y (jo Y Y (jx ?_))))))
    obtain rfl := sj hm
    exact jk () (trivial) (sE Y) (fun w hh => hh)
   replace hm := ifN h28 hm
   refine jb Y Y (yD 3 runUnderlying26 Y sizeOf23 Y Y (jb Y Y (yf 1 isAgg23 Y Y Y Y (jb Y Y (jc Y Y Y (fun _ _ => ku (u := #[]) (u' := #[_]) Y Y) (jb Y Y ?_))))))
   obtain ⟨t58, h29, hm⟩ := bindO hm
   refine jd [] [] Y Y Y Y Y Y Y call132 (fun w hh => KI c0.sands c0 qa1 na1 ca1 b_1 qa0 na0 ca0 qa1 na1 ca1 qa2 na2 ca2 w (HV.callee (S0 := []) (vs0 := []) hh (roR hh 1 Y (roC (bsep (hh.bseg 0 Y)) (roR hh 0 Y (roR hh 1 Y (roR hh 2 Y roN)))))) hna1 hqa1 hla1 hna0 hqa0 hla0 hna1 hqa1 hla1 hna2 hqa2 hla2 h29) (fun l_9 h30 => ?_)
   refine jb Y Y (jc Y Y Y (fun _ _ => zt Y) (zu Y Y Y (jg Y Y ?_)))
   refine j4 61 Y (fun h31 => ?_) (fun h31 => ?_)
   ·replace hm := ifT (h31) hm
    refine g_k Y Y Y Y (g_k Y Y Y Y (g_k Y Y Y Y (g_k Y Y Y Y (g_k Y Y Y Y (yy Y Y Y (jo Y Y (jx ?_)))))))
    obtain rfl := sj hm
    exact jk () (trivial) (sE Y) (fun w hh => hh)
   replace hm := ifN h31 hm
   refine jb Y Y (yD 4 runUnderlying26 Y sizeOf24 Y Y (jb Y Y (yf 1 isAgg24 Y Y Y Y (jb Y Y (jc Y Y Y (fun _ _ => ku (u := #[]) (u' := #[_]) Y Y) (jb Y Y ?_))))))
   obtain ⟨t65, h32, hm⟩ := bindO hm
   refine jd [] [] Y Y Y Y Y Y Y call134 (fun w hh => KF c0.sights c0 qa2 na2 ca2 b_1 qa0 na0 ca0 qa1 na1 ca1 qa2 na2 ca2 w (HV.callee (S0 := []) (vs0 := []) hh (roR hh 2 Y (roC (bsep (hh.bseg 0 Y)) (roR hh 0 Y (roR hh 1 Y (roR hh 2 Y roN)))))) hna2 hqa2 hla2 hna0 hqa0 hla0 hna1 hqa1 hla1 hna2 hqa2 hla2 h32) (fun l_10 h33 => ?_)
   refine jb Y Y (jc Y Y Y (fun _ _ => zt Y) (zu Y Y Y (jo Y Y (jx ?_))))
   obtain rfl := sj hm
   exact jk () (trivial) (sE Y) (fun w hh => hh)
  intro l_7 hj
  replace hm := h25
  refine ja ?_
  refine ju Y (fun h34 => ?_) (fun h34 => ?_)
  ·replace hm := ifT (h34) hm
   refine jr (jo Y Y (jq (jv (jJ (jh ?_)))))
   obtain rfl := sj hm
   refine jm Y (fun w hh => (.tmp Y .nil)) (fun w hh => ⟨(), rfl, trivial, hh.se [] [] 3 Y Y Y rfl⟩)
  replace hm := ifN h34 hm
  refine ji ?_
  obtain ⟨o_3, h35, h36⟩ := bindO hm
  refine j3 (ι := Unit) (fun l_11 => True) (fun l_11 => [(68, .bool o_3)]) (fun l_11 => [(b_1, .cells #[.func (.func 131) #[.agg #[.int .i64 c0.cells, .int .i64 c0.tides, .slice qa0 na0 ca0, .slice qa1 na1 ca1, .slice qa2 na2 ca2]] #[]] 102 (0, 0)), kc b #[.int .i64 c0.cells, .int .i64 c0.tides, .slice qa0 na0 ca0, .slice qa1 na1 ca1, .slice qa2 na2 ca2] 26]) (fun l_11 => []) ?_ ?_
  ·replace hm := h35
   refine je (yD 2 runUnderlying26 Y sizeOf22 Y Y (yf 1 isAgg22 Y Y Y Y ?_))
   obtain ⟨t71, h37, hm⟩ := bindO hm
   refine jd [] [] Y Y Y Y Y Y Y call138 (fun w hh => Y4 c0.fords qa0 na0 ca0 w (HV.callee (S0 := []) (vs0 := []) hh (roR hh 0 Y roN)) hna0 hqa0 hla0 h37) (fun l_12 h38 => ?_)
   refine jc Y Y Y (fun _ _ => zt Y) (jg Y Y ?_)
   refine j4 73 Y (fun h39 => ?_) (fun h39 => ?_)
   ·replace hm := ifT (h39) hm
    refine g_k Y Y Y Y (g_k Y Y Y Y (g_k Y Y Y Y (g_k Y Y Y Y (yy Y Y Y (jo Y Y (jx ?_))))))
    obtain rfl := sj hm
    exact jk () (trivial) (sE Y) (fun w hh => hh)
   replace hm := ifN h39 hm
   refine jb Y Y (yD 3 runUnderlying26 Y sizeOf23 Y Y (jb Y Y (yf 1 isAgg23 Y Y Y Y (jb Y Y ?_))))
   obtain ⟨t76, h40, hm⟩ := bindO hm
   refine jd [] [] Y Y Y Y Y Y Y call132 (fun w hh => KK c0.sands qa1 na1 ca1 w (HV.callee (S0 := []) (vs0 := []) hh (roR hh 1 Y roN)) hna1 hqa1 hla1 h40) (fun l_13 h41 => ?_)
   refine jb Y Y (jc Y Y Y (fun _ _ => zt Y) (zu Y Y Y (jo Y Y (jx ?_))))
   obtain rfl := sj hm
   exact jk () (trivial) (sE Y) (fun w hh => hh)
  intro l_11 hj
  replace hm := h36
  refine ja ?_
  refine ju Y (fun h42 => ?_) (fun h42 => ?_)
  ·replace hm := ifT (h42) hm
   refine jr (jo Y Y (jq (jv (jJ (jh ?_)))))
   obtain rfl := sj hm
   refine jm Y (fun w hh => (.tmp Y .nil)) (fun w hh => ⟨(), rfl, trivial, hh.se [] [] 3 Y Y Y rfl⟩)
  replace hm := ifN h42 hm
  refine jt (jw (ja (jr (jo Y Y (jq (jv ?_))))))
  obtain rfl := sj hm
  refine jm Y (fun w hh => (.tmp Y .nil)) (fun w hh => ⟨(), rfl, trivial, hh.se [] [] 3 Y Y Y rfl⟩)
end Go.Proofs.Wb

