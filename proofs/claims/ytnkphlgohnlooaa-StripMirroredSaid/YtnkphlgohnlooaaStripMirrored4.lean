/- What the functions that the law StripMirrored reaches come to, and why it holds: part 4. -/
import Derived.Test.YtnkphlgohnlooaaStripMirrored3
import Derived.Shelf.Spec.SlicesInsertGrow
namespace Go.Proofs
open Go.Shelf
def laysInsert_ren : Go.Shelf.Ren := ⟨fun | 21 => 110 | 27 => 139 | 28 => 140 | 35 => 149 | 39 => 150 | n => n, fun | 0 => 0 | 3 => 3 | 4 => 4 | 22 => 32 | n => n, fun | n => n⟩
theorem laysInsert : Go.Proofs.Lays2.n21 Try.prog laysInsert_ren := {
  mixed := by kernel_rfl,
  f21 := Try.func110.trans (congrArg some (by kernel_rfl)),
  f27 := Try.func139.trans (congrArg some (by kernel_rfl)),
  f28 := Try.func140.trans (congrArg some (by kernel_rfl)),
  f35 := Try.func149.trans (congrArg some (by kernel_rfl)),
  f39 := Try.func150.trans (congrArg some (by kernel_rfl)),
  t0 := Try.underlying0,
  a0 := Try.isAgg0,
  z0 := Try.sizeOf0,
  v0 := Try.zeroValue0,
  t3 := Try.underlying3,
  a3 := Try.isAgg3,
  z3 := Try.sizeOf3,
  v3 := Try.zeroValue3,
  t4 := Try.underlying4,
  a4 := Try.isAgg4,
  z4 := Try.sizeOf4,
  v4 := Try.zeroValue4,
  t22 := Try.underlying32,
  a22 := Try.isAgg32,
  z22 := Try.sizeOf32,
  v22 := Try.zeroValue32,
  i3 := by kernel_rfl }
end Go.Proofs
namespace Go.Gx
open Go Go.Fw
theorem setCells_row (b : Nat) {T : TypeId} {fr : Nat × Nat} : ∀ (vs : List Value) (o : Nat) (w : World) (A X C : List Value), A.length = o → X.length = vs.length → w.heap[b]? = some (.cells (A ++ X ++ C).toArray T fr) → (w.setCells b o vs).heap[b]? = some (.cells (A ++ vs ++ C).toArray T fr)
  | [], o, w, A, X, C, hA, hX, hb => by
    have : X = [] := List.length_eq_zero_iff.1 (by simpa using hX)
    subst this
    exact hb
  | v :: r, o, w, A, [], C, hA, hX, hb => by simp at hX
  | v :: r, o, w, A, x :: X, C, hA, hX, hb => by
    have h1 : (w.setCell ⟨b, o, none⟩ v).heap[b]? = some (.cells ((A ++ [v]) ++ X ++ C).toArray T fr) := by
      unfold World.setCell
      have hlt : b < w.heap.size := (Array.getElem?_eq_some_iff.1 hb).1
      rw [Array.getElem?_modify, if_pos rfl, hb]
      simp only [Option.map_some, Option.isSome_none, Bool.false_eq_true, if_false]
      congr 2
      apply Array.toList_inj.1
      rw [Array.toList_setIfInBounds]
      have e : A ++ x :: X ++ C = A ++ (x :: (X ++ C)) := by simp
      rw [e, List.set_append_right _ _ (by omega), hA]
      simp
    have := setCells_row b r (o + 1) (w.setCell ⟨b, o, none⟩ v) (A ++ [v]) X C (by simp [hA]) (by simpa using hX) h1
    rw [World.setCells, this]
    simp
theorem Ext.setCells (b : Nat) : ∀ (vs : List Value) (o : Nat) (w : World), Ext [b] w (w.setCells b o vs)
  | [], _, _ => Ext.refl _ _
  | v :: r, o, w => by
    have h1 : Ext [b] w (w.setCell ⟨b, o, none⟩ v) := ⟨rfl, rfl, rfl, by simp [World.setCell], fun k _ hk => by
      unfold World.setCell
      rw [Array.getElem?_modify, if_neg (fun e => hk (by simp [← e]))]⟩
    rw [World.setCells]
    exact h1.trans (Ext.setCells b r (o + 1) _)
theorem Ext.drew (w : World) : Ext [] w w.drew := ⟨rfl, rfl, rfl, Nat.le_refl _, fun _ _ _ => rfl⟩
theorem HV.grown {w0 w w' : World} {M : List Nat} {E : TypeId} {xs sp xs' sp' : List Value} {q : Option (Nat × Nat)} {v2 : VR} (h : HV w0 M [] [⟨E, xs, sp, q, []⟩, v2] [] w) (hx : Ext [] w w') (ho : w'.heap[w.heap.size]? = some (.cells (xs' ++ sp').toArray E (0, 0))) : HV w0 M [] [⟨E, xs', sp', some (w.heap.size, 0), []⟩, v2] [] w' := by
  have h0 : HS w0 M (vbl [⟨E, xs, sp, q, []⟩, v2]) [] w := h
  have h1 := h0.push hx (Nat.le_refl _) ho
  refine h1.drop ?_
  simp only [vbl, VR.bl, vown, List.nil_append, List.append_nil, List.singleton_append]
  exact List.Sublist.cons_cons _ (List.sublist_append_right _ _)
end Go.Gx
namespace Go.Proofs.Ws
open Go Go.Fw Go.Gx
theorem RI_map : ∀ l : List Int, RI.enc l = l.map fun n => Value.int .i64 n
  | [] => rfl
  | x :: l => by
    have := RI_map l
    simp only [Row.enc, List.flatMap_cons, List.map_cons] at this ⊢
    rw [this]; rfl
theorem RI_len' (l : List Int) : (RI.enc l).length = l.length := by rw [RI_map, List.length_map]
def q3 (l : List Int) (i : Int) (m : List Int) : Option (List Int) := if 0 ≤ i ∧ i ≤ (l.length : Int) ∧ 0 < m.length ∧ (l.length + m.length) * 8 ≤ 140737488355328 then some (l.take i.toNat ++ m ++ l.drop i.toNat) else none
theorem ins_enc (l m : List Int) (i : Nat) : RI.enc (l.take i ++ m ++ l.drop i) = (RI.enc l).take i ++ RI.enc m ++ (RI.enc l).drop i := by
  rw [RI.enc_append, RI.enc_append, RI_map, RI_map, RI_map, RI_map, List.map_take, List.map_drop]
theorem ins_len {l m : List Int} {i : Nat} (hi : i ≤ l.length) : (l.take i ++ m ++ l.drop i).length = l.length + m.length := by
  simp; omega
theorem int_zero : (Value.int .i64 0).cells.toList = RI.cells 0 := rfl
theorem Qn (l : List Int) (i : Int) (m : List Int) (V V2 : VL) (w : World) (hw : HV w (keys [] [⟨3, RI.enc l, V.sp, V.q, []⟩, ⟨3, RI.enc m, V2.sp, V2.q, []⟩]) [] [⟨3, RI.enc l, V.sp, V.q, []⟩, ⟨3, RI.enc m, V2.sp, V2.q, []⟩] [] w) (hv : VOK 1 V.n V.cap (RI.enc l) V.sp V.q) (hv2 : VOK 1 V2.n V2.cap (RI.enc m) V2.sp V2.q) {res : List Int} (hm : q3 l i m = some res) :
    Calls Try.prog 110 #[slv V.q V.n V.cap, .int .i64 i, slv V2.q V2.n V2.cap] w (fun en w' => ∃ l' : VL, en = .returned (slv l'.q l'.n l'.cap) ∧ (VOK 1 l'.n l'.cap (RI.enc res) l'.sp l'.q) ∧ HV w (keys [] [⟨3, RI.enc l, V.sp, V.q, []⟩, ⟨3, RI.enc m, V2.sp, V2.q, []⟩]) [] [⟨3, RI.enc res, l'.sp, l'.q, []⟩, ⟨3, RI.enc m, V2.sp, V2.q, []⟩] [] w') := by
  unfold q3 at hm
  obtain ⟨⟨hi0, hi1, hm0, hbig⟩, hm⟩ := ifO hm
  obtain rfl := Option.some.inj hm
  have hn := vlen RI hv rfl
  have hn2 := vlen RI hv2 rfl
  obtain ⟨q, n, cap, sp⟩ := V
  obtain ⟨q2, n2, cap2, sp2⟩ := V2
  simp only at hw hv hn hv2 hn2 ⊢
  subst hn hn2
  obtain ⟨k, rfl⟩ : ∃ k : Nat, i = (k : Int) := ⟨i.toNat, by omega⟩
  rw [Int.toNat_natCast]
  have hk : k ≤ l.length := by omega
  have hrl := ins_len (l := l) (m := m) hk
  have henc := ins_enc l m k
  have hL := RI_len' l
  have hM := RI_len' m
  have hcl : (RI.enc l).length = l.length := hL
  cases q2 with
  | none => have := (hv2.hnone rfl).1; omega
  | some p2 =>
    have ho2 := hv2.hoff p2 rfl
    have hb2 : w.heap[p2.1]? = some (.cells (RI.enc m ++ sp2).toArray 3 (0, 0)) := hw.hs.ownOK (p2.1, _) (HV.vmem (S := []) 1 rfl _ (by simp [VR.bl, vown]))
    have e2 : slv (some p2) m.length cap2 = Value.slice (some ⟨p2.1, 0, none⟩) m.length cap2 := by simp [slv, ho2]
    have hvs : ∀ j v, (RI.enc m)[j]? = some v → w.cell? ⟨p2.1, 0 + j, none⟩ = some v := fun j v hj => by
      have hjl : j < (RI.enc m).length := (List.getElem?_eq_some_iff.1 hj).1
      simp [World.cell?, hb2, List.getElem?_append_left hjl, hj]
    have hgrow : ∀ {w' : World} {G : Nat} {sp' : List Value}, Ext [] w w' → l.length + m.length ≤ G → G ≤ maxLen → sp'.length = G - (l.length + m.length) → w'.heap[w.heap.size]? = some (.cells (RI.enc (l.take k ++ m ++ l.drop k) ++ sp').toArray 3 (0, 0)) → ∃ l' : VL, Value.slice (some ⟨w.heap.size, 0, none⟩) (l.length + m.length) G = slv l'.q l'.n l'.cap ∧ (VOK 1 l'.n l'.cap (RI.enc (l.take k ++ m ++ l.drop k)) l'.sp l'.q) ∧ HV w (keys [] [⟨3, RI.enc l, sp, q, []⟩, ⟨3, RI.enc m, sp2, some p2, []⟩]) [] [⟨3, RI.enc (l.take k ++ m ++ l.drop k), l'.sp, l'.q, []⟩, ⟨3, RI.enc m, sp2, some p2, []⟩] [] w' := fun {w' G sp'} hx hG1 hG2 hsp ho => by
      refine ⟨⟨some (w.heap.size, 0), l.length + m.length, G, sp'⟩, by simp [slv], ⟨by rw [RI_len', hrl, Nat.mul_one], by show (RI.enc _ ++ sp').length = G * 1; rw [List.length_append, RI_len', hrl, hsp, Nat.mul_one]; omega, hG1, hG2, (fun h => by cases h), (fun p hp => by cases hp; rfl)⟩, hw.grown hx ho⟩
    have hz := fun c => zero_rep (R := RI) int_zero c
    cases q with
    | none =>
      have h0 := hv.hnone rfl
      have hl0 : l = [] := List.length_eq_zero_iff.1 h0.1
      subst hl0
      have hk0 : k = 0 := by simpa using hk
      subst hk0
      have hc0 : cap = 0 := h0.2
      subst hc0
      rw [e2, show slv none ([] : List Int).length 0 = Value.slice none 0 0 from rfl]
      refine Calls.mono (Any2.slices_Insert_int_end_grow laysInsert none 0 0 p2.1 0 m.length cap2 [] (RI.enc m) w hm0 (Nat.le_refl _) (by omega) (by simpa using hbig) rfl hM (fun _ => rfl) (fun a ha => by cases ha) hvs (fun v hv' => RI.enc_one _ v hv')) ?_
      rintro en w' ⟨rfl, rfl⟩
      obtain ⟨l', h1, h2, h3⟩ := hgrow (w' := w.drew.alloc (.cells (([] ++ RI.enc m).toArray ++ Builtin.zeroCells (Value.int .i64 0).cells (grownCap w (0 + m.length) 0 3 - (0 + m.length))) 3)) (G := grownCap w (0 + m.length) 0 3) (sp' := RI.enc (List.replicate (grownCap w (0 + m.length) 0 3 - (0 + m.length)) 0)) ((Ext.drew w).trans (Ext.alloc _ _)) (by have := grownCap_ge w (0 + m.length) 0 3; simpa using this) (grownCap_le_maxLen w (0 + m.length) 0 3 (by unfold maxLen; omega)) (by rw [RI_len', List.length_replicate]; simp) (by
        have := heap_alloc_new w.drew (.cells (([] ++ RI.enc m).toArray ++ Builtin.zeroCells (Value.int .i64 0).cells (grownCap w (0 + m.length) 0 3 - (0 + m.length))) 3)
        refine this.trans ?_
        congr 2
        apply Array.toList_inj.1
        simp [hz])
      exact ⟨l', congrArg _ h1, h2, h3⟩
    | some p =>
      have ho := hv.hoff p rfl
      have hb : w.heap[p.1]? = some (.cells (RI.enc l ++ sp).toArray 3 (0, 0)) := hw.hs.ownOK (p.1, _) (HV.vmem (S := []) 0 rfl _ (by simp [VR.bl, vown]))
      have e1 : slv (some p) l.length cap = Value.slice (some ⟨p.1, 0, none⟩) l.length cap := by simp [slv, ho]
      have hcap : (RI.enc l).length + sp.length = cap := by have := hv.hcap; rw [List.length_append, Nat.mul_one] at this; exact this
      have hne : p2.1 ≠ p.1 := by
        have := hw.hs.nodup
        simp only [vbl, VR.bl, vown, List.nil_append, List.append_nil, List.singleton_append, List.map_cons, List.map_nil, List.nodup_cons, List.mem_singleton] at this
        exact fun e => this.1 e.symm
      have hcs : ∀ j v, (RI.enc l)[j]? = some v → w.cell? ⟨p.1, 0 + j, none⟩ = some v := fun j v hj => by
        have hjl : j < (RI.enc l).length := (List.getElem?_eq_some_iff.1 hj).1
        simp [World.cell?, hb, List.getElem?_append_left hjl, hj]
      have hcell : ∀ j, j < cap → (w.cell? ⟨p.1, 0 + j, none⟩).isSome = true := fun j hj => by
        simp only [World.cell?, hb]
        simp [List.getElem?_eq_getElem (show j < (RI.enc l ++ sp).length by rw [List.length_append]; omega)]
      have hfz : ∀ j, w.frozen? ⟨p.1, j, none⟩ = false := fun j => by simp [World.frozen?, hb]
      have hmax : cap ≤ 9223372036854775807 := hv.hmax
      have hroomOK : ∀ {w' : World} {sp' : List Value}, l.length + m.length ≤ cap → sp'.length = cap - (l.length + m.length) → Ext [p.1] w w' → w'.heap[p.1]? = some (.cells (RI.enc (l.take k ++ m ++ l.drop k) ++ sp').toArray 3 (0, 0)) → ∃ l' : VL, Value.slice (some ⟨p.1, 0, none⟩) (l.length + m.length) cap = slv l'.q l'.n l'.cap ∧ (VOK 1 l'.n l'.cap (RI.enc (l.take k ++ m ++ l.drop k)) l'.sp l'.q) ∧ HV w (keys [] [⟨3, RI.enc l, sp, some p, []⟩, ⟨3, RI.enc m, sp2, some p2, []⟩]) [] [⟨3, RI.enc (l.take k ++ m ++ l.drop k), l'.sp, l'.q, []⟩, ⟨3, RI.enc m, sp2, some p2, []⟩] [] w' := fun {w' sp'} hr hsp hx hob =>
        ⟨⟨some p, l.length + m.length, cap, sp'⟩, by simp [slv, ho], ⟨by rw [RI_len', hrl, Nat.mul_one], by show (RI.enc _ ++ sp').length = cap * 1; rw [List.length_append, RI_len', hrl, hsp, Nat.mul_one]; omega, hr, hv.hmax, (fun h => by cases h), (fun p' hp => by cases hp; exact ho)⟩, hw.vupd2 0 rfl hx hob⟩
      rw [e1, e2]
      by_cases hroom : l.length + m.length ≤ cap
      · by_cases hend : k = l.length
        · subst hend
          refine Calls.mono (Any2.slices_Insert_int_end_room laysInsert p.1 0 l.length cap p2.1 0 m.length cap2 (RI.enc m) w hm0 hroom hmax hM (fun j hj => by have := hcell (l.length + j) (by omega); simpa [Nat.add_assoc] using this) (fun j hj => hfz _) hvs (fun v hv' => RI.enc_one _ v hv')) ?_
          rintro en w' ⟨rfl, rfl⟩
          obtain ⟨l', h1, h2, h3⟩ := hroomOK (w' := w.setCells p.1 (0 + l.length) (RI.enc m)) (sp' := sp.drop m.length) hroom (by rw [List.length_drop]; omega) (Ext.setCells _ _ _ _) (by
            have := setCells_row p.1 (T := 3) (fr := (0, 0)) (RI.enc m) (0 + l.length) w (RI.enc l) (sp.take m.length) (sp.drop m.length) (by omega) (by rw [List.length_take]; omega) (by rw [List.append_assoc, List.take_append_drop]; exact hb)
            rw [this, henc]
            simp [← hL])
          exact ⟨l', h1 ▸ rfl, h2, h3⟩
        · have hlt : k < l.length := by omega
          refine Calls.mono (Any2.slices_Insert_int_shift laysInsert p.1 0 l.length cap k p2.1 0 m.length cap2 (RI.enc l) (RI.enc m) w hlt hm0 hroom hmax hne hL hM hcs (fun j hj => hcell j (by omega)) (fun j hj => hfz _) hvs (fun v hv' => RI.enc_one _ v hv') (fun v hv' => RI.enc_one _ v hv') 3 3 (RI.enc m ++ sp2).length (RI.enc l ++ sp).length (by simp [World.shape?, hb2]) (by simp [World.shape?, hb]) (by rw [List.length_append]; omega) (by simp [World.frozen?, hb2]) (by simp [World.frozen?, hb2])) ?_
          rintro en w' ⟨rfl, rfl⟩
          have hlist : RI.enc l ++ sp = ((RI.enc l ++ sp).take (k + m.length)) ++ (((RI.enc l ++ sp).drop (k + m.length)).take (l.length - k)) ++ (RI.enc l ++ sp).drop (l.length + m.length) := by
            rw [List.append_assoc]
            conv => lhs; rw [← List.take_append_drop (k + m.length) (RI.enc l ++ sp)]
            congr 1
            conv => lhs; rw [← List.take_append_drop (l.length - k) ((RI.enc l ++ sp).drop (k + m.length))]
            rw [List.drop_drop, show k + m.length + (l.length - k) = l.length + m.length by omega]
          obtain ⟨l', h1, h2, h3⟩ := hroomOK (w' := (w.drew.setCells p.1 (0 + (k + m.length)) ((RI.enc l).drop k)).setCells p.1 (0 + k) (RI.enc m)) (sp' := (RI.enc l ++ sp).drop (l.length + m.length)) hroom (by rw [List.length_drop, List.length_append]; omega) ((((Ext.drew w).mono (by simp)).trans (Ext.setCells _ _ _ _)).trans (Ext.setCells _ _ _ _)) (by
            have s1 := setCells_row p.1 (T := 3) (fr := (0, 0)) ((RI.enc l).drop k) (0 + (k + m.length)) w.drew ((RI.enc l ++ sp).take (k + m.length)) (((RI.enc l ++ sp).drop (k + m.length)).take (l.length - k)) ((RI.enc l ++ sp).drop (l.length + m.length)) (by rw [List.length_take, List.length_append]; omega) (by rw [List.length_take, List.length_drop, List.length_drop, List.length_append]; omega) (by rw [← hlist]; exact hb)
            have hsplit : (RI.enc l ++ sp).take (k + m.length) = (RI.enc l).take k ++ ((RI.enc l ++ sp).drop k).take m.length := by
              rw [List.take_add, List.take_append_of_le_length (by omega)]
            rw [hsplit, List.append_assoc, List.append_assoc] at s1
            have s2 := setCells_row p.1 (T := 3) (fr := (0, 0)) (RI.enc m) (0 + k) _ ((RI.enc l).take k) (((RI.enc l ++ sp).drop k).take m.length) ((RI.enc l).drop k ++ (RI.enc l ++ sp).drop (l.length + m.length)) (by rw [List.length_take]; omega) (by rw [List.length_take, List.length_drop, List.length_append]; omega) (by rw [List.append_assoc]; exact s1)
            rw [s2, henc]
            simp)
          exact ⟨l', h1 ▸ rfl, h2, h3⟩
      · by_cases hend : k = l.length
        · subst hend
          refine Calls.mono (Any2.slices_Insert_int_end_grow laysInsert (some ⟨p.1, 0, none⟩) l.length cap p2.1 0 m.length cap2 (RI.enc l) (RI.enc m) w hm0 hv.hle (by omega) hbig hL hM (fun h => by cases h) (fun a ha j v hj => by cases ha; have := hcs j v hj; rw [addr_add]; exact this) hvs (fun v hv' => RI.enc_one _ v hv')) ?_
          rintro en w' ⟨rfl, rfl⟩
          obtain ⟨l', h1, h2, h3⟩ := hgrow (w' := w.drew.alloc (.cells ((RI.enc l ++ RI.enc m).toArray ++ Builtin.zeroCells (Value.int .i64 0).cells (grownCap w (l.length + m.length) cap 3 - (l.length + m.length))) 3)) (G := grownCap w (l.length + m.length) cap 3) (sp' := RI.enc (List.replicate (grownCap w (l.length + m.length) cap 3 - (l.length + m.length)) 0)) ((Ext.drew w).trans (Ext.alloc _ _)) (grownCap_ge w (l.length + m.length) cap 3) (grownCap_le_maxLen w (l.length + m.length) cap 3 (by unfold maxLen; omega)) (by rw [RI_len', List.length_replicate]) (by
            have := heap_alloc_new w.drew (.cells ((RI.enc l ++ RI.enc m).toArray ++ Builtin.zeroCells (Value.int .i64 0).cells (grownCap w (l.length + m.length) cap 3 - (l.length + m.length))) 3)
            refine this.trans ?_
            congr 2
            apply Array.toList_inj.1
            rw [henc]
            simp [hz, ← hL])
          exact ⟨l', h1 ▸ rfl, h2, h3⟩
        · have hlt : k < l.length := by omega
          refine Calls.mono (Any2.slices_Insert_int_grow laysInsert p.1 0 l.length cap k p2.1 0 m.length cap2 (RI.enc l) (RI.enc m) w hlt hm0 hv.hle (by omega) hbig hL hM hcs hvs (fun v hv' => RI.enc_one _ v hv') (fun v hv' => RI.enc_one _ v hv')) ?_
          rintro en w' ⟨rfl, rfl⟩
          obtain ⟨G, hG⟩ : ∃ G, grownCap w (l.length + m.length) cap 3 = G := ⟨_, rfl⟩
          have hG1 : l.length + m.length ≤ G := by rw [← hG]; exact grownCap_ge w (l.length + m.length) cap 3
          have hG2 : G ≤ maxLen := by rw [← hG]; exact grownCap_le_maxLen w (l.length + m.length) cap 3 (by unfold maxLen; omega)
          have hrep : RI.enc (List.replicate (l.length + m.length - k) 0) = RI.enc (List.replicate m.length 0) ++ RI.enc (List.replicate (l.length - k) 0) := by
            rw [← RI.enc_append, List.replicate_append_replicate, show m.length + (l.length - k) = l.length + m.length - k by omega]
          have hrow : (((RI.enc l).take k).toArray ++ Builtin.zeroCells (Value.int .i64 0).cells (l.length + m.length - k) ++ Builtin.zeroCells (Value.int .i64 0).cells (G - (l.length + m.length))) = ((RI.enc l).take k ++ RI.enc (List.replicate m.length 0) ++ (RI.enc (List.replicate (l.length - k) 0) ++ RI.enc (List.replicate (G - (l.length + m.length)) 0))).toArray := by
            apply Array.toList_inj.1
            simp [hz, hrep]
          obtain ⟨l', h1, h2, h3⟩ := hgrow (w' := (((w.alloc (.cells (((RI.enc l).take k).toArray ++ Builtin.zeroCells (Value.int .i64 0).cells (l.length + m.length - k) ++ Builtin.zeroCells (Value.int .i64 0).cells (G - (l.length + m.length))) 3)).drew.setCells w.heap.size k (RI.enc m)).drew).setCells w.heap.size (k + m.length) ((RI.enc l).drop k)) (G := G) (sp' := RI.enc (List.replicate (G - (l.length + m.length)) 0)) (by
            have a1 := Ext.alloc w (.cells (((RI.enc l).take k).toArray ++ Builtin.zeroCells (Value.int .i64 0).cells (l.length + m.length - k) ++ Builtin.zeroCells (Value.int .i64 0).cells (G - (l.length + m.length))) 3)
            have a2 := (((a1.trans (Ext.drew _)).mono (M' := [w.heap.size]) (by simp)).trans (Ext.setCells w.heap.size (RI.enc m) k _)).trans (((Ext.drew _).mono (M' := [w.heap.size]) (by simp)).trans (Ext.setCells w.heap.size ((RI.enc l).drop k) (k + m.length) _))
            exact a2.of_new (fun j hj => .inr (by simp at hj; omega))) hG1 hG2 (by rw [RI_len', List.length_replicate]) (by
            have s0 := heap_alloc_new w (.cells (((RI.enc l).take k).toArray ++ Builtin.zeroCells (Value.int .i64 0).cells (l.length + m.length - k) ++ Builtin.zeroCells (Value.int .i64 0).cells (G - (l.length + m.length))) 3)
            rw [hrow] at s0
            have s1 := setCells_row w.heap.size (T := 3) (fr := (0, 0)) (RI.enc m) k (w.alloc (.cells ((RI.enc l).take k ++ RI.enc (List.replicate m.length 0) ++ (RI.enc (List.replicate (l.length - k) 0) ++ RI.enc (List.replicate (G - (l.length + m.length)) 0))).toArray 3)).drew ((RI.enc l).take k) (RI.enc (List.replicate m.length 0)) (RI.enc (List.replicate (l.length - k) 0) ++ RI.enc (List.replicate (G - (l.length + m.length)) 0)) (by rw [List.length_take]; omega) (by rw [RI_len', RI_len', List.length_replicate]) s0
            have s2 := setCells_row w.heap.size (T := 3) (fr := (0, 0)) ((RI.enc l).drop k) (k + m.length) (World.drew ((w.alloc _).drew.setCells w.heap.size k (RI.enc m))) ((RI.enc l).take k ++ RI.enc m) (RI.enc (List.replicate (l.length - k) 0)) (RI.enc (List.replicate (G - (l.length + m.length)) 0)) (by rw [List.length_append, List.length_take]; omega) (by rw [RI_len', List.length_replicate, List.length_drop]; omega) (by rw [List.append_assoc]; exact s1)
            rw [hrow, henc]
            exact s2)
          subst hG
          exact ⟨l', h1 ▸ rfl, h2, h3⟩
end Go.Proofs.Ws

namespace Go.Gx
open Go Go.Fw
theorem Y {α : Sort _} {a : α} : a = a := rfl
abbrev kc (b : Nat) (cs : Array Value) (T : TypeId) : Nat × Obj := (b, .cells cs T (0, 0))
end Go.Gx

namespace Go.Proofs.Ws
set_option maxHeartbeats 4000000
set_option maxRecDepth 100000
open Go Go.Fw Go.Gx Go.Sp
open Try
set_option linter.unusedVariables false
theorem Yp : (Try.prog.info? 3).map (fun i => (i.zero, i.size, i.bytes)) = some (some (.int .i64 0), 1, 8) := by kernel_rfl
theorem Zi : (Try.prog.info? 32).map (fun i => (i.zero, i.size, i.bytes)) = some (some (.slice none 0 0), 1, 24) := by kernel_rfl
theorem JD : (Try.prog.info? 37).map (fun i => (i.zero, i.size, i.bytes)) = some (some (.agg #[.int .i64 0, .int .i64 0]), 2, 16) := by kernel_rfl
theorem Yc : (Try.prog.info? 77).map (fun i => (i.zero, i.size, i.bytes)) = some (some (.agg #[.int .i64 0, .int .i64 0, .int .i64 0, .int .i64 0, .int .i64 0, .int .i64 0, .int .i64 0]), 7, 56) := by kernel_rfl
theorem YK : (Try.prog.info? 91).map (fun i => (i.zero, i.size, i.bytes)) = some (some (.int .i64 0), 1, 8) := by kernel_rfl
theorem Q9 : (Try.prog.info? 170).map (fun i => (i.zero, i.size, i.bytes)) = some (some (.agg #[.int .i64 0, .int .i64 0, .int .i64 0, .int .i64 0, .int .i64 0, .int .i64 0]), 6, 48) := by kernel_rfl
theorem Q1 : (Try.prog.info? 178).map (fun i => (i.zero, i.size, i.bytes)) = some (some (.agg #[.int .i64 0, .bool false]), 2, 16) := by kernel_rfl
theorem jaf : (Try.prog.info? 37).map (fun i => i.size) = some 2 := by kernel_rfl
theorem Zy : Try.prog.eqGuardType Try.prog.depth 172 = false := by decide +kernel
theorem Zn : Try.prog.eqGuardType Try.prog.depth 37 = false := by decide +kernel
theorem ZZ : Try.prog.stoodInHeld 37 = false := by decide +kernel
theorem ZQ (x y : Span) (w : World) : (Op.equalIn 10000 37 (.agg (RSp.cells x).toArray) (.agg (RSp.cells y).toArray)).run Try.prog w = .ok (decide (x = y)) w := by
  have h := equal_struct (xs := (RSp.cells x).toArray) (ys := (RSp.cells y).toArray) underlying37 ZZ (.int Y (fun w => isAgg3 w) ⟨_, underlying3⟩ Y Y (.int Y (fun w => isAgg3 w) ⟨_, underlying3⟩ Y Y .nil)) w
  rw [h]
  congr 1
  cases x; cases y
  rw [Bool.eq_iff_iff]
  simp only [Bool.and_eq_true, decide_eq_true_eq, Span.mk.injEq, and_true]
theorem ZC : Try.prog.eqGuardType Try.prog.depth 128 = false := by decide +kernel
theorem ZA : Try.prog.stoodInHeld 128 = false := by decide +kernel
theorem Zl (x y : Pair) (w : World) : (Op.equalIn 10000 128 (.agg (RPr.cells x).toArray) (.agg (RPr.cells y).toArray)).run Try.prog w = .ok (decide (x = y)) w := by
  have h := equal_struct (xs := (RPr.cells x).toArray) (ys := (RPr.cells y).toArray) underlying128 ZA (.int Y (fun w => isAgg3 w) ⟨_, underlying3⟩ Y Y (.int Y (fun w => isAgg3 w) ⟨_, underlying3⟩ Y Y .nil)) w
  rw [h]
  congr 1
  cases x; cases y
  rw [Bool.eq_iff_iff]
  simp only [Bool.and_eq_true, decide_eq_true_eq, Pair.mk.injEq, and_true]
theorem Q0 : KeyOK Try.prog 128 (kR RPr) := KeyOK.row RPr (fun w => runUnderlying128 w) (fun x => (.int (fun w => isAgg3 w) (fun w => runUnderlying3 w) Y (.int (fun w => isAgg3 w) (fun w => runUnderlying3 w) Y .nil))) Zl (fun x => by cases x; simp [RPr, Instr.sameBits])
def yD (lo0 : Int) (hi1 : Int) : Option Scalps :=
 some (⟨[(⟨0, (⟨10, 10⟩ : Span), (⟨0, 0⟩ : Span), (⟨0, 0⟩ : Span)⟩ : Strip), (⟨1, (⟨10, 10⟩ : Span), (⟨0, 0⟩ : Span), (⟨4, 6⟩ : Span)⟩ : Strip), (⟨0, (⟨10, 10⟩ : Span), (⟨0, 0⟩ : Span), (⟨0, 0⟩ : Span)⟩ : Strip)], [(⟨lo0, hi1⟩ : Span), (⟨0, 3⟩ : Span)]⟩ : Scalps)
theorem zN (lo0 : Int) (hi1 : Int)  (w : World) (hw : HV w (keys [] []) [] [] [] w)  {res : Scalps} (hm : yD lo0 hi1 = some res) :
    Calls Try.prog 75 #[.int .i64 lo0, .int .i64 hi1] w (fun en w' => ∃ l : VL × VL, en = .returned (.agg #[sL l.1, sL l.2]) ∧ (VOK 7 l.1.n l.1.cap (RSt.enc res.strips) l.1.sp l.1.q ∧ VOK 2 l.2.n l.2.cap (RSp.enc res.carried) l.2.sp l.2.q) ∧ HV w (keys [] []) [] [vL 77 l.1 (RSt.enc res.strips), vL 37 l.2 (RSp.enc res.carried)] [] w') := by
  unfold yD at hm
  refine kl func75 Y ntmps75 Y (e := [(0, _), (1, _)]) Y hw (jp ?_)
  refine jq (fun w => zeroValue28 w) Y (fun b h3 => ?_)
  refine jV (jb Y Y Y (fun _ _ => jA (vs := [(0, _), (1, _)]) (cells := [_, _]) Y Y) ?_)
  refine jq (fun w => zeroValue37 w) Y (fun b_1 h4 => ?_)
  refine jB (us := #[_, _]) (cs' := [_, _]) (S' := [_, _]) 0 (fun w => sizeOf37 w) Y Y Y Y Y Y Y (jV (qX [_, _] 0 isAgg37 sizeOf37 Y Y Y Y (jb Y Y Y (fun _ _ => jA (vs := [(1, _)]) (cells := [_, _, _, _, _, _, _]) Y Y) (qX [_, _] 0 isAgg37 sizeOf37 Y Y Y Y (jb Y Y Y (fun _ _ => jA (vs := [(0, _), (1, _)]) (cells := [_, _]) Y Y) (jb Y Y Y (fun _ _ => jA (vs := [(0, _), (1, _), (3, _)]) (cells := [_, _, _, _, _, _, _]) Y Y) (qX [_, _] 0 isAgg37 sizeOf37 Y Y Y Y ?_)))))))
  refine jb Y Y Y (fun _ _ => jA (vs := [(1, _)]) (cells := [_, _, _, _, _, _, _]) Y Y) ?_
  refine kS RSt [(⟨0, (⟨10, 10⟩ : Span), (⟨0, 0⟩ : Span), (⟨0, 0⟩ : Span)⟩ : Strip), (⟨1, (⟨10, 10⟩ : Span), (⟨0, 0⟩ : Span), (⟨4, 6⟩ : Span)⟩ : Strip), (⟨0, (⟨10, 10⟩ : Span), (⟨0, 0⟩ : Span), (⟨0, 0⟩ : Span)⟩ : Strip)] (ps := [(0, _), (1, _), (2, _)]) (cells := [_, _, _, _, _, _, _, _, _, _, _, _, _, _, _, _, _, _, _, _, _]) (fun w => runUnderlying25 w) (fun w => sizeOf77 w) (fun w => zeroValue77 w) Y Y Y Y Y Y Y Y (fun L h5 => ?_)
  refine je Y Y (je Y Y (jb Y Y Y (fun _ _ => jA (vs := [(0, _), (1, _)]) (cells := [_, _]) Y Y) (jb Y Y Y (fun _ _ => jA (vs := [(1, _)]) (cells := [_, _]) Y Y) ?_)))
  refine kS RSp [(⟨lo0, hi1⟩ : Span), (⟨0, 3⟩ : Span)] (ps := [(0, _), (1, _)]) (cells := [_, _, _, _]) (fun w => runUnderlying26 w) (fun w => sizeOf37 w) (fun w => zeroValue37 w) Y Y Y Y Y Y Y Y (fun L_1 h6 => ?_)
  refine jb Y Y Y (fun _ _ => jA (vs := [(0, _), (1, _)]) (cells := [_, _]) Y Y) (jB (us := #[_, _]) (cs' := [_, _]) (S' := [_, _]) 1 (fun w => sizeOf28 w) Y Y Y Y Y Y Y (jo (ju ?_)))
  obtain rfl := sj hm
  refine jm Y (fun w hh => (.cell Y (loadVar_agg (vs := [_, _]) (isAgg28 _) (sizeOf28 _) (hh.cells 1 Y Y)) .nil)) (fun w hh => ⟨(L, L_1), rfl, ⟨h5, h6⟩, hh.se [] [1, 0] 0 Y Y Y rfl⟩)
def Kv (n0 : Int) (lo1 : Int) (hi2 : Int) : Option Bool :=
 (if lo1 ≤ n0 then
 (some (decide (n0 ≤ hi2))) else
 (some false)).bind fun o =>
 some o
theorem Qv (n0 : Int) (lo1 : Int) (hi2 : Int)  (w : World) (hw : HV w (keys [] []) [] [] [] w)  {res : Bool} (hm : Kv n0 lo1 hi2 = some res) :
    Calls Try.prog 57 #[.int .i64 n0, .int .i64 lo1, .int .i64 hi2] w (fun en w' => ∃ l : Unit, en = .returned (.bool res) ∧ (True) ∧ HV w (keys [] []) [] [] [] w') := by
  unfold Kv at hm
  refine kl func57 Y ntmps57 Y (e := [(0, _), (1, _), (2, _)]) Y hw (jp (jl Y Y (jo (jk ?_))))
  obtain ⟨o, h1, h2⟩ := bindO hm
  refine jM (ι := Unit) (fun l => True) (fun l => [(6, .bool o)]) (fun l => []) (fun l => []) ?_ ?_
  ·replace hm := h1
   refine jh (je Y Y (je Y Y (jb Y Y Y (fun _ _ => K4 Y Y) (je Y Y ?_))))
   refine jZ 10 Y (fun h3 => ?_) (fun h3 => ?_)
   ·replace hm := ifD h3 hm
    refine jc Y Y (je Y Y (jc Y Y (je Y Y (jc Y Y (jb Y Y Y (fun _ _ => Z1 Y Y) (qO Y Y Y (jl Y Y ?_)))))))
    refine jx ?_
    obtain rfl := sj hm
    exact jn () (trivial) (sE Y) (fun w hh => hh)
   replace hm := ifE h3 hm
   refine g_k Y Y Y Y (g_k Y Y Y Y (g_k Y Y Y Y (yW Y Y Y (jl Y Y (jx ?_)))))
   obtain rfl := sj hm
   exact jn () (trivial) (sE Y) (fun w hh => hh)
  intro l hj
  replace hm := h2
  refine ja (ju ?_)
  obtain rfl := sj hm
  refine jm Y (fun w hh => (.tmp Y .nil)) (fun w hh => ⟨(), rfl, trivial, hh⟩)
def z8 (s0 : (List Span)) : Option (List Span) :=
 if 0 < (s0.length : Int) then ((appc 16 [] s0).bind fun t7 =>
 some t7) else none
theorem Q3 (s0 : (List Span)) (qa0 : Option Addr) (na0 ca0 : Nat) (w : World) (hw : HV w (keys [] []) [] [] [(aB qa0, aO qa0, RSp.enc s0)] w) (hna0 : s0.length = na0) (hqa0 : AOK na0 qa0) (hla0 : na0 ≤ ca0) {res : (List Span)} (hm : z8 s0 = some res) :
    Calls Try.prog 113 #[.slice qa0 na0 ca0] w (fun en w' => ∃ l : VL, en = .returned (sL l) ∧ (VOK 2 l.n l.cap (RSp.enc res) l.sp l.q) ∧ HV w (keys [] []) [] [vL 37 l (RSp.enc res)] [] w') := by
  unfold z8 at hm
  refine kl func113 Y ntmps113 Y (e := [(0, _)]) Y hw (jp (jb Y Y Y (fun _ _ => qf Y) (jo (jk (jp (je Y Y ?_))))))
  obtain ⟨h2, hm⟩ := ifO hm
  refine jb Y Y Y (fun w _ => YM hqa0 (len_posN hna0 h2) (runUnderlying26 w) Y Y) (jo (qS Y Y (js (ja (jp ?_)))))
  refine YF RSp (fun w => runUnderlying26 w) (fun w => sizeOf37 w) Y Y (fun L h3 => ?_)
  refine je Y Y ?_
  obtain ⟨t7, h4, hm⟩ := bindO hm
  refine yT RSp 0 h4 underlying26 JD Y Y Y Y Y h3 Y Y hna0 hqa0 (fun w hh => (hh.seg 0 Y)) Y (fun L_1 h5 h5n => ?_)
  refine jH (S' := []) (vs' := [_]) [] [0] 0 Y Y Y Y (jl Y Y (jo (ju ?_)))
  obtain rfl := sj hm
  refine jm Y (fun w hh => (.tmp Y .nil)) (fun w hh => ⟨L_1, rfl, h5, hh.se [] [0] 1 Y Y Y rfl⟩)
structure qq where
  t12 : Int
  out3 : (List Span)
def kC (s0 : Scalps) (s : qq) : Option (qq ⊕ (List Span)) :=
 if s.t12 < (s0.strips.length : Int) then
 ((ix s0.strips s.t12).bind fun t14 =>
 (appc 16 s.out3 [(⟨t14.lay.lo, t14.lay.hi⟩ : Span), (⟨t14.seeded.lo, t14.seeded.hi⟩ : Span), (⟨t14.left.lo, t14.left.hi⟩ : Span)]).bind fun t24 =>
 (addc s.t12 1).bind fun t25 =>
 some (.inl (⟨t25, t24⟩ : qq))) else
 (some (.inr s.out3))
def kP (s0 : Scalps) : Option (List Span) :=
 (z8 s0.carried).bind fun t8 =>
 (iterM FU (kC s0) (⟨0, t8⟩ : qq)).bind fun o =>
 some o
theorem Kh (s0 : Scalps) (qa0 : Option Addr) (na0 ca0 : Nat) (qa1 : Option Addr) (na1 ca1 : Nat) (w : World) (hw : HV w (keys [] []) [] [] [(aB qa0, aO qa0, RSt.enc s0.strips), (aB qa1, aO qa1, RSp.enc s0.carried)] w) (hna0 : s0.strips.length = na0) (hqa0 : AOK na0 qa0) (hla0 : na0 ≤ ca0) (hna1 : s0.carried.length = na1) (hqa1 : AOK na1 qa1) (hla1 : na1 ≤ ca1) {res : (List Span)} (hm : kP s0 = some res) :
    Calls Try.prog 59 #[.agg #[.slice qa0 na0 ca0, .slice qa1 na1 ca1]] w (fun en w' => ∃ l : VL, en = .returned (sL l) ∧ (VOK 2 l.n l.cap (RSp.enc res) l.sp l.q) ∧ HV w (keys [] []) [] [vL 37 l (RSp.enc res)] [] w') := by
  unfold kP at hm
  refine kl func59 Y ntmps59 Y (e := [(0, _)]) Y hw (jp ?_)
  refine jF Y Y (fun b h2 => ?_)
  refine jb Y Y Y (fun _ _ => qf Y) (jV (j7 1 runUnderlying28 Y sizeOf26 Y Y (kx 0 isAgg26 Y Y Y Y ?_)))
  obtain ⟨t8, h3, hm⟩ := bindO hm
  refine jd [] [] Y Y Y Y Y Y Y call113 (fun w hh => Q3 s0.carried qa1 na1 ca1 w (HV.callee (S0 := []) (vs0 := []) hh (roR hh 1 Y roN)) hna1 hqa1 hla1 h3) (fun l h4 => ?_)
  have h5 := h4
  refine jH (S' := [_]) (vs' := [_]) [0] [0] 0 Y Y Y Y (jl Y Y (jo (jk (jp (j7 0 runUnderlying28 Y sizeOf25 Y Y (kx 0 isAgg25 Y Y Y Y (jb Y Y Y (fun w _ => jR hna0 (runUnderlying25 w) Y) ?_)))))))
  refine je Y Y (jo ?_)
  obtain ⟨o, h6, h7⟩ := bindO hm
  refine jM (ι := VL) (fun l_1 => VOK 2 l_1.n l_1.cap (RSp.enc o) l_1.sp l_1.q) (fun l_1 => [(3, sL l_1)]) (fun l_1 => [kc b #[.slice qa0 na0 ca0, .slice qa1 na1 ca1] 28]) (fun l_1 => [vL 37 l_1 (RSp.enc o)]) ?_ ?_
  ·replace hm := h6
   refine jj ?_
   refine jD (ι := VL) hm (fun s l_2 => VOK 2 l_2.n l_2.cap (RSp.enc s.out3) l_2.sp l_2.q) (fun s l_2 => [(3, sL l_2), (10, .slice qa0 na0 ca0), (11, .int .i64 (s0.strips.length : Int)), (12, .int .i64 s.t12)]) (fun s l_2 => [kc b #[.slice qa0 na0 ca0, .slice qa1 na1 ca1] 28]) (fun s l_2 => [vL 37 l_2 (RSp.enc s.out3)]) l (h5) (sE Y) (fun w hh => hh) (fun s l_2 r hpl hm h10 => ?_)
   have h9 := hpl
   unfold kC at hm
   refine jp (zK Y Y Y (jo (jk ?_)))
   refine jr Y (fun h11 => ?_) (fun h11 => ?_)
   ·replace hm := ifD h11 hm
    refine js (ja (jk (jj (jp ?_))))
    obtain ⟨t14, h12, hm⟩ := bindO hm
    refine jb Y Y Y (fun w _ => q7 h12 (runUnderlying25 w) (sizeOf77 w) Y Y hna0 hqa0) ?_
    refine jb Y Y Y (fun w hh => kT RSt 0 [.int .i64 t14.tenant, .int .i64 t14.lay.lo, .int .i64 t14.lay.hi, .int .i64 t14.seeded.lo, .int .i64 t14.seeded.hi, .int .i64 t14.left.lo, .int .i64 t14.left.hi] h12 (isAgg77 w) (sizeOf77 w) Y (hh.seg 0 Y) Y (Nat.add_zero _).symm) ?_
    refine jq (fun w => zeroValue77 w) Y (fun b_1 h13 => ?_)
    refine jB (us := #[_, _, _, _, _, _, _]) (cs' := [_, _, _, _, _, _, _]) (S' := [_, _]) 0 (fun w => sizeOf77 w) Y Y Y Y Y Y Y (jo (jh (je Y Y (j7 1 runUnderlying77 Y sizeOf37 Y Y (qX [_, _] 0 isAgg37 sizeOf37 Y Y Y Y (j7 3 runUnderlying77 Y sizeOf37 Y Y (qX [_, _] 0 isAgg37 sizeOf37 Y Y Y Y ?_)))))))
    refine j7 5 runUnderlying77 Y sizeOf37 Y Y (qX [_, _] 0 isAgg37 sizeOf37 Y Y Y Y ?_)
    refine kS RSp [(⟨t14.lay.lo, t14.lay.hi⟩ : Span), (⟨t14.seeded.lo, t14.seeded.hi⟩ : Span), (⟨t14.left.lo, t14.left.hi⟩ : Span)] (ps := [(0, _), (1, _), (2, _)]) (cells := [_, _, _, _, _, _]) (fun w => runUnderlying26 w) (fun w => sizeOf37 w) (fun w => zeroValue37 w) Y Y Y Y Y Y Y Y (fun L h14 => ?_)
    obtain ⟨t24, h15, hm⟩ := bindO hm
    refine yT RSp 1 h15 underlying26 JD Y Y Y Y Y h9 Y Y (vlen RSp h14 Y) (AOK.q (vne h14)) (fun w hh => (hh.vsegA 0 Y h14)) Y (fun L_1 h16 h16n => ?_)
    refine jH (S' := [_, _]) (vs' := [_, _]) [0, 1] [0, 1] 0 Y Y Y Y (jl Y Y (jx (jt (ja (jh ?_)))))
    obtain ⟨t25, h17, hm⟩ := bindO hm
    refine yA h17 Y Y Y (je Y Y (jx ?_))
    obtain rfl := sj hm
    refine ja ?_
    exact jz _ L_1 Y (h16) (sE Y) (hsE [1] [1] 0 Y Y Y Y)
   replace hm := ifE h11 hm
   refine jP (ji (ji (jC ?_)))
   obtain rfl := sj hm
   have hbo := h10 _ Y
   subst hbo
   exact jn l_2 (h9) (sE Y) (fun w hh => hh)
  intro l_1 hj
  have h8 := hj
  replace hm := h7
  refine ja (jp (je Y Y (jl Y Y (jo (ju ?_)))))
  obtain rfl := sj hm
  refine jm Y (fun w hh => (.tmp Y .nil)) (fun w hh => ⟨l_1, rfl, h8, hh.se [] [0] 2 Y Y Y rfl⟩)
def zt (x0 : Span) : Option Bool :=
 ((Kv x0.lo 0 30).bind fun t5 =>
 if t5 = true then
 ((Kv x0.hi 0 30).bind fun t9 =>
 some t9) else
 (some false)).bind fun o =>
 some o
theorem Qz (x0 : Span)  (w : World) (hw : HV w (keys [] []) [] [] [] w)  {res : Bool} (hm : zt x0 = some res) :
    Calls Try.prog 54 #[.agg #[.int .i64 x0.lo, .int .i64 x0.hi]] w (fun en w' => ∃ l : Unit, en = .returned (.bool res) ∧ (True) ∧ HV w (keys [] []) [] [] [] w') := by
  unfold zt at hm
  refine kl func54 Y ntmps54 Y (e := [(0, _)]) Y hw (jp ?_)
  refine jF Y Y (fun b h1 => ?_)
  refine jl Y Y (jo (jk ?_))
  obtain ⟨o, h2, h3⟩ := bindO hm
  refine jM (ι := Unit) (fun l => True) (fun l => [(2, .bool o)]) (fun l => [kc b #[.int .i64 x0.lo, .int .i64 x0.hi] 37]) (fun l => []) ?_ ?_
  ·replace hm := h2
   refine jh (j7 0 runUnderlying37 Y sizeOf3 Y Y (kx 0 isAgg3 Y Y Y Y ?_))
   obtain ⟨t5, h4, hm⟩ := bindO hm
   refine jd [] [] Y Y Y Y Y Y Y call57 (fun w hh => Qv x0.lo 0 30 w (HV.callee (S0 := []) (vs0 := []) hh roN)  h4) (fun l_1 h5 => ?_)
   refine je Y Y ?_
   refine jZ 6 Y (fun h6 => ?_) (fun h6 => ?_)
   ·replace hm := ifT (h6) hm
    refine jc Y Y (j7 1 runUnderlying37 Y sizeOf3 Y Y (jc Y Y (kx 0 isAgg3 Y Y Y Y (jc Y Y ?_))))
    obtain ⟨t9, h7, hm⟩ := bindO hm
    refine jd [] [] Y Y Y Y Y Y Y call57 (fun w hh => Qv x0.hi 0 30 w (HV.callee (S0 := []) (vs0 := []) hh roN)  h7) (fun l_2 h8 => ?_)
    refine qO Y Y Y (jl Y Y (jx ?_))
    obtain rfl := sj hm
    exact jn () (trivial) (sE Y) (fun w hh => hh)
   replace hm := ifN h6 hm
   refine g_k Y Y Y Y (g_k Y Y Y Y (g_k Y Y Y Y (yW Y Y Y (jl Y Y (jx ?_)))))
   obtain rfl := sj hm
   exact jn () (trivial) (sE Y) (fun w hh => hh)
  intro l hj
  replace hm := h3
  refine ja (ju ?_)
  obtain rfl := sj hm
  refine jm Y (fun w hh => (.tmp Y .nil)) (fun w hh => ⟨(), rfl, trivial, hh.se [] [] 0 Y Y Y rfl⟩)
def kr (x0 : Span) : Option Bool :=
 (zt x0).bind fun t6 =>
 some (!t6)
theorem KG (x0 : Span) (rb : Nat) (w : World) (hw : HV w (keys [] []) [] [] [(rb, 0, [.func (.func 54) #[] #[]])] w)  {res : Bool} (hm : kr x0 = some res) :
    Calls Try.prog 112 #[.agg #[.int .i64 x0.lo, .int .i64 x0.hi], ptr rb 0] w (fun en w' => ∃ l : Unit, en = .returned (.bool res) ∧ (True) ∧ HV w (keys [] []) [] [] [] w') := by
  unfold kr at hm
  refine kl func112 Y ntmps112 Y (e := [(0, _), (1, _)]) Y hw (jp ?_)
  refine jF Y Y (fun b h1 => ?_)
  refine jl Y Y (jV (jb Y Y Y (fun w hh => jQ (isAgg106 w) Y (segCell (hh.seg 0 Y) 0 Y)) (qX [_, _] 0 isAgg37 sizeOf37 Y Y Y Y ?_)))
  obtain ⟨t6, h2, hm⟩ := bindO hm
  refine jd [] [] Y Y Y Y Y Y Y call54 (fun w hh => Qz x0 w (HV.callee (S0 := []) (vs0 := []) hh roN)  h2) (fun l h3 => ?_)
  refine jb Y Y Y (fun _ _ => qv Y) (jl Y Y (jo (ju ?_)))
  obtain rfl := sj hm
  refine jm Y (fun w hh => (.tmp Y .nil)) (fun w hh => ⟨(), rfl, trivial, hh.se [] [] 1 Y Y Y rfl⟩)
def yB (s0 : (List Span)) (s : Int) : Option (Int ⊕ (Unit ⊕ Int)) :=
 if s < (s0.length : Int) then
 ((ix s0 s).bind fun t14 =>
 (kr t14).bind fun t16 =>
 if t16 = true then
 (some (.inr (.inr s))) else
 ((addc s 1).bind fun t18 =>
 some (.inl t18))) else
 (some (.inr (.inl ())))
def yq (s0 : (List Span)) : Option Int :=
 (iterM FU (yB s0) 0).bind fun o =>
 oc o (fun j => some (-1)) (fun r_1 => some r_1)
theorem Qb (s0 : (List Span)) (qa0 : Option Addr) (na0 ca0 : Nat) (rb : Nat) (w : World) (hw : HV w (keys [] []) [] [] [(aB qa0, aO qa0, RSp.enc s0), (rb, 0, [.func (.func 54) #[] #[]])] w) (hna0 : s0.length = na0) (hqa0 : AOK na0 qa0) (hla0 : na0 ≤ ca0)  {res : Int} (hm : yq s0 = some res) :
    Calls Try.prog 141 #[.slice qa0 na0 ca0, .func (.func 112) #[] #[ptr rb 0]] w (fun en w' => ∃ l : Unit, en = .returned (.int .i64 res) ∧ (True) ∧ HV w (keys [] []) [] [] [] w') := by
  unfold yq at hm
  refine kl func141 Y ntmps141 Y (e := [(0, _), (1, _)]) Y hw (jp (jl Y Y (jo (jk (jp (je Y Y (jb Y Y Y (fun w _ => jR hna0 (runUnderlying26 w) Y) ?_)))))))
  refine je Y Y (jo ?_)
  obtain ⟨o, h1, h2⟩ := bindO hm
  refine jM (ι := Unit) (fun j => o = .inl j) (fun j => []) (fun j => []) (fun j => []) ?_ ?_
  ·replace hm := h1
   refine jj ?_
   refine jD (ι := Unit) hm (fun s l => True) (fun s l => [(0, .slice qa0 na0 ca0), (1, .func (.func 112) #[] #[ptr rb 0]), (7, .int .i64 (s0.length : Int)), (8, .int .i64 s)]) (fun s l => []) (fun s l => []) () (trivial) (sE Y) (fun w hh => hh) (fun s l r hpl hm h3 => ?_)
   unfold yB at hm
   refine jp (zK Y Y Y (jo (jk ?_)))
   refine jr Y (fun h4 => ?_) (fun h4 => ?_)
   ·replace hm := ifD h4 hm
    refine js (ja (jk (jj (jp (je Y Y (jl Y Y (jV ?_)))))))
    refine je Y Y (je Y Y (je Y Y ?_))
    obtain ⟨t14, h5, hm⟩ := bindO hm
    refine jb Y Y Y (fun w _ => q7 h5 (runUnderlying26 w) (sizeOf37 w) Y Y hna0 hqa0) ?_
    refine jb Y Y Y (fun w hh => kT RSp 0 [.int .i64 t14.lo, .int .i64 t14.hi] h5 (isAgg37 w) (sizeOf37 w) Y (hh.seg 0 Y) Y (Nat.add_zero _).symm) ?_
    obtain ⟨t16, h6, hm⟩ := bindO hm
    refine jd [] [] Y Y Y Y Y Y Y call112 (fun w hh => KG t14 rb w (HV.callee (S0 := []) (vs0 := []) hh (roR hh 1 Y roN))  h6) (fun l_1 h7 => ?_)
    refine jo ?_
    refine jr Y (fun h8 => ?_) (fun h8 => ?_)
    ·replace hm := ifT (h8) hm
     refine jp (je Y Y (jl Y Y (jo (ju (jy (jf (jf ?_)))))))
     refine jy ?_
     obtain rfl := sj hm
     have hbo := h3 _ Y
     subst hbo
     refine jf ?_
     replace hm := ocR h2
     refine jf ?_
     obtain rfl := sj hm
     refine jm Y (fun w hh => (.tmp Y .nil)) (fun w hh => ⟨(), rfl, trivial, hh.se [] [] 2 Y Y Y rfl⟩)
    replace hm := ifN h8 hm
    refine js (jt (ja (jh ?_)))
    obtain ⟨t18, h9, hm⟩ := bindO hm
    refine yA h9 Y Y Y (je Y Y (jx ?_))
    obtain rfl := sj hm
    refine ja ?_
    exact jz _ () Y (trivial) (sE Y) (fun w hh => hh)
   replace hm := ifE h4 hm
   refine jP (ji (ji (jC ?_)))
   obtain rfl := sj hm
   have hbo := h3 _ Y
   subst hbo
   exact jn () (Y) (.nil) (fun w hh => hh)
  intro j hj
  have h10 := hj
  subst h10
  replace hm := ocL h2
  refine ja (jp (jl Y Y (jo (ju ?_))))
  obtain rfl := sj hm
  refine jm Y (fun w hh => (.tmp Y .nil)) (fun w hh => ⟨(), rfl, trivial, hh.se [] [] 2 Y Y Y rfl⟩)
def kW (s0 : (List Span)) : Option Bool :=
 (yq s0).bind fun t7 =>
 some (decide (0 ≤ t7))
theorem KK (s0 : (List Span)) (qa0 : Option Addr) (na0 ca0 : Nat) (rb : Nat) (w : World) (hw : HV w (keys [] []) [] [] [(aB qa0, aO qa0, RSp.enc s0), (rb, 0, [.func (.func 54) #[] #[]])] w) (hna0 : s0.length = na0) (hqa0 : AOK na0 qa0) (hla0 : na0 ≤ ca0)  {res : Bool} (hm : kW s0 = some res) :
    Calls Try.prog 111 #[.slice qa0 na0 ca0, .func (.func 112) #[] #[ptr rb 0]] w (fun en w' => ∃ l : Unit, en = .returned (.bool res) ∧ (True) ∧ HV w (keys [] []) [] [] [] w') := by
  unfold kW at hm
  refine kl func111 Y ntmps111 Y (e := [(0, _), (1, _)]) Y hw (jp (jl Y Y (jV (je Y Y (je Y Y ?_)))))
  obtain ⟨t7, h1, hm⟩ := bindO hm
  refine jd [] [] Y Y Y Y Y Y Y call141 (fun w hh => Qb s0 qa0 na0 ca0 rb w (HV.callee (S0 := []) (vs0 := []) hh (roR hh 0 Y (roR hh 1 Y roN))) hna0 hqa0 hla0 h1) (fun l h2 => ?_)
  refine jb Y Y Y (fun _ _ => K4 Y Y) (jl Y Y (jo (ju ?_)))
  obtain rfl := sj hm
  refine jm Y (fun w hh => (.tmp Y .nil)) (fun w hh => ⟨(), rfl, trivial, hh.se [] [] 2 Y Y Y rfl⟩)
def qb (l0 : (List Span)) : Option Bool :=
 (kW l0).bind fun t7 =>
 some (!t7)
theorem Qj (l0 : (List Span)) (qa0 : Option Addr) (na0 ca0 : Nat) (w : World) (hw : HV w (keys [] []) [] [] [(aB qa0, aO qa0, RSp.enc l0)] w) (hna0 : l0.length = na0) (hqa0 : AOK na0 qa0) (hla0 : na0 ≤ ca0) {res : Bool} (hm : qb l0 = some res) :
    Calls Try.prog 58 #[.slice qa0 na0 ca0, .func (.func 54) #[] #[]] w (fun en w' => ∃ l : Unit, en = .returned (.bool res) ∧ (True) ∧ HV w (keys [] []) [] [] [] w') := by
  unfold qb at hm
  refine kl func58 Y ntmps58 Y (e := [(0, _), (1, _)]) Y hw (jp ?_)
  refine jF Y Y (fun b h1 => ?_)
  refine jl Y Y (jV (je Y Y (jb Y Y Y (fun _ _ => jE (u := #[]) (u' := #[_]) Y Y) ?_)))
  obtain ⟨t7, h2, hm⟩ := bindO hm
  refine jd [] [] Y Y Y Y Y Y Y call111 (fun w hh => KK l0 qa0 na0 ca0 b w (HV.callee (S0 := []) (vs0 := []) hh (roR hh 0 Y (roC (bsep (hh.bseg 0 Y)) roN))) hna0 hqa0 hla0 h2) (fun l h3 => ?_)
  refine jb Y Y Y (fun _ _ => qv Y) (jl Y Y (jo (ju ?_)))
  obtain rfl := sj hm
  refine jm Y (fun w hh => (.tmp Y .nil)) (fun w hh => ⟨(), rfl, trivial, hh.se [] [] 1 Y Y Y rfl⟩)
def j8 (s0 : Scalps) (n1 : Int) : Option Bool :=
 (subc (s0.carried.length : Int) 1).bind fun t9 =>
 (Kv n1 0 t9).bind fun t10 =>
 some t10
theorem yr (s0 : Scalps) (n1 : Int) (qa0 : Option Addr) (na0 ca0 : Nat) (qa1 : Option Addr) (na1 ca1 : Nat) (w : World) (hw : HV w (keys [] []) [] [] [(aB qa0, aO qa0, RSt.enc s0.strips), (aB qa1, aO qa1, RSp.enc s0.carried)] w) (hna0 : s0.strips.length = na0) (hqa0 : AOK na0 qa0) (hla0 : na0 ≤ ca0) (hna1 : s0.carried.length = na1) (hqa1 : AOK na1 qa1) (hla1 : na1 ≤ ca1) {res : Bool} (hm : j8 s0 n1 = some res) :
    Calls Try.prog 53 #[.agg #[.slice qa0 na0 ca0, .slice qa1 na1 ca1], .int .i64 n1] w (fun en w' => ∃ l : Unit, en = .returned (.bool res) ∧ (True) ∧ HV w (keys [] []) [] [] [] w') := by
  unfold j8 at hm
  refine kl func53 Y ntmps53 Y (e := [(0, _), (1, _)]) Y hw (jp ?_)
  refine jF Y Y (fun b h1 => ?_)
  refine jl Y Y (jV (je Y Y (j7 1 runUnderlying28 Y sizeOf26 Y Y (kx 0 isAgg26 Y Y Y Y (jb Y Y Y (fun w _ => jR hna1 (runUnderlying26 w) Y) ?_)))))
  obtain ⟨t9, h2, hm⟩ := bindO hm
  refine jb Y Y Y (fun _ _ => qc h2 Y Y) ?_
  obtain ⟨t10, h3, hm⟩ := bindO hm
  refine jd [] [] Y Y Y Y Y Y Y call57 (fun w hh => Qv n1 0 t9 w (HV.callee (S0 := []) (vs0 := []) hh roN)  h3) (fun l h4 => ?_)
  refine jl Y Y (jo (ju ?_))
  obtain rfl := sj hm
  refine jm Y (fun w hh => (.tmp Y .nil)) (fun w hh => ⟨(), rfl, trivial, hh.se [] [] 2 Y Y Y rfl⟩)
def J5 (x0 : Strip) (a11_f0 : Scalps) : Option Bool :=
 (j8 a11_f0 x0.tenant).bind fun t7 =>
 some t7
theorem YE (x0 : Strip) (a11_f0 : Scalps) (rb : Nat) (qa1 : Option Addr) (na1 ca1 : Nat) (qa2 : Option Addr) (na2 ca2 : Nat) (w : World) (hw : HV w (keys [] []) [] [] [(rb, 0, [.func (.func 53) #[.agg #[.slice qa1 na1 ca1, .slice qa2 na2 ca2]] #[]]), (aB qa1, aO qa1, RSt.enc a11_f0.strips), (aB qa2, aO qa2, RSp.enc a11_f0.carried)] w)  (hna1 : a11_f0.strips.length = na1) (hqa1 : AOK na1 qa1) (hla1 : na1 ≤ ca1) (hna2 : a11_f0.carried.length = na2) (hqa2 : AOK na2 qa2) (hla2 : na2 ≤ ca2) {res : Bool} (hm : J5 x0 a11_f0 = some res) :
    Calls Try.prog 61 #[.agg #[.int .i64 x0.tenant, .int .i64 x0.lay.lo, .int .i64 x0.lay.hi, .int .i64 x0.seeded.lo, .int .i64 x0.seeded.hi, .int .i64 x0.left.lo, .int .i64 x0.left.hi], ptr rb 0] w (fun en w' => ∃ l : Unit, en = .returned (.bool res) ∧ (True) ∧ HV w (keys [] []) [] [] [] w') := by
  unfold J5 at hm
  refine kl func61 Y ntmps61 Y (e := [(0, _), (1, _)]) Y hw (jp ?_)
  refine jF Y Y (fun b h1 => ?_)
  refine jl Y Y (jV (jb Y Y Y (fun w hh => jQ (isAgg71 w) Y (segCell (hh.seg 0 Y) 0 Y)) (j7 0 runUnderlying77 Y sizeOf3 Y Y (kx 0 isAgg3 Y Y Y Y ?_))))
  obtain ⟨t7, h2, hm⟩ := bindO hm
  refine jd [] [] Y Y Y Y Y Y Y call53 (fun w hh => yr a11_f0 x0.tenant qa1 na1 ca1 qa2 na2 ca2 w (HV.callee (S0 := []) (vs0 := []) hh (roR hh 1 Y (roR hh 2 Y roN))) hna1 hqa1 hla1 hna2 hqa2 hla2 h2) (fun l h3 => ?_)
  refine jl Y Y (jo (ju ?_))
  obtain rfl := sj hm
  refine jm Y (fun w hh => (.tmp Y .nil)) (fun w hh => ⟨(), rfl, trivial, hh.se [] [] 3 Y Y Y rfl⟩)
def kf (x0 : Strip) (a11_c0_f0 : Scalps) : Option Bool :=
 (J5 x0 a11_c0_f0).bind fun t6 =>
 some (!t6)
theorem Kf (x0 : Strip) (a11_c0_f0 : Scalps) (rb : Nat) (rb_1 : Nat) (qa2 : Option Addr) (na2 ca2 : Nat) (qa3 : Option Addr) (na3 ca3 : Nat) (w : World) (hw : HV w (keys [] []) [] [] [(rb, 0, [.func (.func 61) #[] #[ptr rb_1 0]]), (rb_1, 0, [.func (.func 53) #[.agg #[.slice qa2 na2 ca2, .slice qa3 na3 ca3]] #[]]), (aB qa2, aO qa2, RSt.enc a11_c0_f0.strips), (aB qa3, aO qa3, RSp.enc a11_c0_f0.carried)] w)   (hna2 : a11_c0_f0.strips.length = na2) (hqa2 : AOK na2 qa2) (hla2 : na2 ≤ ca2) (hna3 : a11_c0_f0.carried.length = na3) (hqa3 : AOK na3 qa3) (hla3 : na3 ≤ ca3) {res : Bool} (hm : kf x0 a11_c0_f0 = some res) :
    Calls Try.prog 115 #[.agg #[.int .i64 x0.tenant, .int .i64 x0.lay.lo, .int .i64 x0.lay.hi, .int .i64 x0.seeded.lo, .int .i64 x0.seeded.hi, .int .i64 x0.left.lo, .int .i64 x0.left.hi], ptr rb 0] w (fun en w' => ∃ l : Unit, en = .returned (.bool res) ∧ (True) ∧ HV w (keys [] []) [] [] [] w') := by
  unfold kf at hm
  refine kl func115 Y ntmps115 Y (e := [(0, _), (1, _)]) Y hw (jp ?_)
  refine jF Y Y (fun b h1 => ?_)
  refine jl Y Y (jV (jb Y Y Y (fun w hh => jQ (isAgg113 w) Y (segCell (hh.seg 0 Y) 0 Y)) (qX [_, _, _, _, _, _, _] 0 isAgg77 sizeOf77 Y Y Y Y ?_)))
  obtain ⟨t6, h2, hm⟩ := bindO hm
  refine jd [] [] Y Y Y Y Y Y Y call61 (fun w hh => YE x0 a11_c0_f0 rb_1 qa2 na2 ca2 qa3 na3 ca3 w (HV.callee (S0 := []) (vs0 := []) hh (roR hh 1 Y (roR hh 2 Y (roR hh 3 Y roN)))) hna2 hqa2 hla2 hna3 hqa3 hla3 h2) (fun l h3 => ?_)
  refine jb Y Y Y (fun _ _ => qv Y) (jl Y Y (jo (ju ?_)))
  obtain rfl := sj hm
  refine jm Y (fun w hh => (.tmp Y .nil)) (fun w hh => ⟨(), rfl, trivial, hh.se [] [] 4 Y Y Y rfl⟩)
def yz (s0 : (List Strip)) (f1_c0_c0_f0 : Scalps) (s : Int) : Option (Int ⊕ (Unit ⊕ Int)) :=
 if s < (s0.length : Int) then
 ((ix s0 s).bind fun t14 =>
 (kf (⟨t14.tenant, (⟨t14.lay.lo, t14.lay.hi⟩ : Span), (⟨t14.seeded.lo, t14.seeded.hi⟩ : Span), (⟨t14.left.lo, t14.left.hi⟩ : Span)⟩ : Strip) f1_c0_c0_f0).bind fun t16 =>
 if t16 = true then
 (some (.inr (.inr s))) else
 ((addc s 1).bind fun t18 =>
 some (.inl t18))) else
 (some (.inr (.inl ())))
def yp (s0 : (List Strip)) (f1_c0_c0_f0 : Scalps) : Option Int :=
 (iterM FU (yz s0 f1_c0_c0_f0) 0).bind fun o =>
 oc o (fun j => some (-1)) (fun r_1 => some r_1)
theorem Qe (s0 : (List Strip)) (f1_c0_c0_f0 : Scalps) (qa0 : Option Addr) (na0 ca0 : Nat) (rb : Nat) (rb_1 : Nat) (qa3 : Option Addr) (na3 ca3 : Nat) (qa4 : Option Addr) (na4 ca4 : Nat) (w : World) (hw : HV w (keys [] []) [] [] [(aB qa0, aO qa0, RSt.enc s0), (rb, 0, [.func (.func 61) #[] #[ptr rb_1 0]]), (rb_1, 0, [.func (.func 53) #[.agg #[.slice qa3 na3 ca3, .slice qa4 na4 ca4]] #[]]), (aB qa3, aO qa3, RSt.enc f1_c0_c0_f0.strips), (aB qa4, aO qa4, RSp.enc f1_c0_c0_f0.carried)] w) (hna0 : s0.length = na0) (hqa0 : AOK na0 qa0) (hla0 : na0 ≤ ca0)   (hna3 : f1_c0_c0_f0.strips.length = na3) (hqa3 : AOK na3 qa3) (hla3 : na3 ≤ ca3) (hna4 : f1_c0_c0_f0.carried.length = na4) (hqa4 : AOK na4 qa4) (hla4 : na4 ≤ ca4) {res : Int} (hm : yp s0 f1_c0_c0_f0 = some res) :
    Calls Try.prog 142 #[.slice qa0 na0 ca0, .func (.func 115) #[] #[ptr rb 0]] w (fun en w' => ∃ l : Unit, en = .returned (.int .i64 res) ∧ (True) ∧ HV w (keys [] []) [] [] [] w') := by
  unfold yp at hm
  refine kl func142 Y ntmps142 Y (e := [(0, _), (1, _)]) Y hw (jp (jl Y Y (jo (jk (jp (je Y Y (jb Y Y Y (fun w _ => jR hna0 (runUnderlying25 w) Y) ?_)))))))
  refine je Y Y (jo ?_)
  obtain ⟨o, h1, h2⟩ := bindO hm
  refine jM (ι := Unit) (fun j => o = .inl j) (fun j => []) (fun j => []) (fun j => []) ?_ ?_
  ·replace hm := h1
   refine jj ?_
   refine jD (ι := Unit) hm (fun s l => True) (fun s l => [(0, .slice qa0 na0 ca0), (1, .func (.func 115) #[] #[ptr rb 0]), (7, .int .i64 (s0.length : Int)), (8, .int .i64 s)]) (fun s l => []) (fun s l => []) () (trivial) (sE Y) (fun w hh => hh) (fun s l r hpl hm h3 => ?_)
   unfold yz at hm
   refine jp (zK Y Y Y (jo (jk ?_)))
   refine jr Y (fun h4 => ?_) (fun h4 => ?_)
   ·replace hm := ifD h4 hm
    refine js (ja (jk (jj (jp (je Y Y (jl Y Y (jV ?_)))))))
    refine je Y Y (je Y Y (je Y Y ?_))
    obtain ⟨t14, h5, hm⟩ := bindO hm
    refine jb Y Y Y (fun w _ => q7 h5 (runUnderlying25 w) (sizeOf77 w) Y Y hna0 hqa0) ?_
    refine jb Y Y Y (fun w hh => kT RSt 0 [.int .i64 t14.tenant, .int .i64 t14.lay.lo, .int .i64 t14.lay.hi, .int .i64 t14.seeded.lo, .int .i64 t14.seeded.hi, .int .i64 t14.left.lo, .int .i64 t14.left.hi] h5 (isAgg77 w) (sizeOf77 w) Y (hh.seg 0 Y) Y (Nat.add_zero _).symm) ?_
    obtain ⟨t16, h6, hm⟩ := bindO hm
    refine jd [] [] Y Y Y Y Y Y Y call115 (fun w hh => Kf (⟨t14.tenant, (⟨t14.lay.lo, t14.lay.hi⟩ : Span), (⟨t14.seeded.lo, t14.seeded.hi⟩ : Span), (⟨t14.left.lo, t14.left.hi⟩ : Span)⟩ : Strip) f1_c0_c0_f0 rb rb_1 qa3 na3 ca3 qa4 na4 ca4 w (HV.callee (S0 := []) (vs0 := []) hh (roR hh 1 Y (roR hh 2 Y (roR hh 3 Y (roR hh 4 Y roN))))) hna3 hqa3 hla3 hna4 hqa4 hla4 h6) (fun l_1 h7 => ?_)
    refine jo ?_
    refine jr Y (fun h8 => ?_) (fun h8 => ?_)
    ·replace hm := ifT (h8) hm
     refine jp (je Y Y (jl Y Y (jo (ju (jy (jf (jf ?_)))))))
     refine jy ?_
     obtain rfl := sj hm
     have hbo := h3 _ Y
     subst hbo
     refine jf ?_
     replace hm := ocR h2
     refine jf ?_
     obtain rfl := sj hm
     refine jm Y (fun w hh => (.tmp Y .nil)) (fun w hh => ⟨(), rfl, trivial, hh.se [] [] 5 Y Y Y rfl⟩)
    replace hm := ifN h8 hm
    refine js (jt (ja (jh ?_)))
    obtain ⟨t18, h9, hm⟩ := bindO hm
    refine yA h9 Y Y Y (je Y Y (jx ?_))
    obtain rfl := sj hm
    refine ja ?_
    exact jz _ () Y (trivial) (sE Y) (fun w hh => hh)
   replace hm := ifE h4 hm
   refine jP (ji (ji (jC ?_)))
   obtain rfl := sj hm
   have hbo := h3 _ Y
   subst hbo
   exact jn () (Y) (.nil) (fun w hh => hh)
  intro j hj
  have h10 := hj
  subst h10
  replace hm := ocL h2
  refine ja (jp (jl Y Y (jo (ju ?_))))
  obtain rfl := sj hm
  refine jm Y (fun w hh => (.tmp Y .nil)) (fun w hh => ⟨(), rfl, trivial, hh.se [] [] 5 Y Y Y rfl⟩)
def kZ (s0 : (List Strip)) (f1_c0_c0_f0 : Scalps) : Option Bool :=
 (yp s0 f1_c0_c0_f0).bind fun t7 =>
 some (decide (0 ≤ t7))
theorem KI (s0 : (List Strip)) (f1_c0_c0_f0 : Scalps) (qa0 : Option Addr) (na0 ca0 : Nat) (rb : Nat) (rb_1 : Nat) (qa3 : Option Addr) (na3 ca3 : Nat) (qa4 : Option Addr) (na4 ca4 : Nat) (w : World) (hw : HV w (keys [] []) [] [] [(aB qa0, aO qa0, RSt.enc s0), (rb, 0, [.func (.func 61) #[] #[ptr rb_1 0]]), (rb_1, 0, [.func (.func 53) #[.agg #[.slice qa3 na3 ca3, .slice qa4 na4 ca4]] #[]]), (aB qa3, aO qa3, RSt.enc f1_c0_c0_f0.strips), (aB qa4, aO qa4, RSp.enc f1_c0_c0_f0.carried)] w) (hna0 : s0.length = na0) (hqa0 : AOK na0 qa0) (hla0 : na0 ≤ ca0)   (hna3 : f1_c0_c0_f0.strips.length = na3) (hqa3 : AOK na3 qa3) (hla3 : na3 ≤ ca3) (hna4 : f1_c0_c0_f0.carried.length = na4) (hqa4 : AOK na4 qa4) (hla4 : na4 ≤ ca4) {res : Bool} (hm : kZ s0 f1_c0_c0_f0 = some res) :
    Calls Try.prog 114 #[.slice qa0 na0 ca0, .func (.func 115) #[] #[ptr rb 0]] w (fun en w' => ∃ l : Unit, en = .returned (.bool res) ∧ (True) ∧ HV w (keys [] []) [] [] [] w') := by
  unfold kZ at hm
  refine kl func114 Y ntmps114 Y (e := [(0, _), (1, _)]) Y hw (jp (jl Y Y (jV (je Y Y (je Y Y ?_)))))
  obtain ⟨t7, h1, hm⟩ := bindO hm
  refine jd [] [] Y Y Y Y Y Y Y call142 (fun w hh => Qe s0 f1_c0_c0_f0 qa0 na0 ca0 rb rb_1 qa3 na3 ca3 qa4 na4 ca4 w (HV.callee (S0 := []) (vs0 := []) hh (roR hh 0 Y (roR hh 1 Y (roR hh 2 Y (roR hh 3 Y (roR hh 4 Y roN)))))) hna0 hqa0 hla0 hna3 hqa3 hla3 hna4 hqa4 hla4 h1) (fun l h2 => ?_)
  refine jb Y Y Y (fun _ _ => K4 Y Y) (jl Y Y (jo (ju ?_)))
  obtain rfl := sj hm
  refine jm Y (fun w hh => (.tmp Y .nil)) (fun w hh => ⟨(), rfl, trivial, hh.se [] [] 5 Y Y Y rfl⟩)
def ku (l0 : (List Strip)) (holds1_c0_f0 : Scalps) : Option Bool :=
 (kZ l0 holds1_c0_f0).bind fun t7 =>
 some (!t7)
theorem KJ (l0 : (List Strip)) (holds1_c0_f0 : Scalps) (qa0 : Option Addr) (na0 ca0 : Nat) (rb : Nat) (qa2 : Option Addr) (na2 ca2 : Nat) (qa3 : Option Addr) (na3 ca3 : Nat) (w : World) (hw : HV w (keys [] []) [] [] [(aB qa0, aO qa0, RSt.enc l0), (rb, 0, [.func (.func 53) #[.agg #[.slice qa2 na2 ca2, .slice qa3 na3 ca3]] #[]]), (aB qa2, aO qa2, RSt.enc holds1_c0_f0.strips), (aB qa3, aO qa3, RSp.enc holds1_c0_f0.carried)] w) (hna0 : l0.length = na0) (hqa0 : AOK na0 qa0) (hla0 : na0 ≤ ca0)  (hna2 : holds1_c0_f0.strips.length = na2) (hqa2 : AOK na2 qa2) (hla2 : na2 ≤ ca2) (hna3 : holds1_c0_f0.carried.length = na3) (hqa3 : AOK na3 qa3) (hla3 : na3 ≤ ca3) {res : Bool} (hm : ku l0 holds1_c0_f0 = some res) :
    Calls Try.prog 60 #[.slice qa0 na0 ca0, .func (.func 61) #[] #[ptr rb 0]] w (fun en w' => ∃ l : Unit, en = .returned (.bool res) ∧ (True) ∧ HV w (keys [] []) [] [] [] w') := by
  unfold ku at hm
  refine kl func60 Y ntmps60 Y (e := [(0, _), (1, _)]) Y hw (jp ?_)
  refine jF Y Y (fun b h1 => ?_)
  refine jl Y Y (jV (je Y Y (jb Y Y Y (fun _ _ => jE (u := #[]) (u' := #[_]) Y Y) ?_)))
  obtain ⟨t7, h2, hm⟩ := bindO hm
  refine jd [] [] Y Y Y Y Y Y Y call114 (fun w hh => KI l0 holds1_c0_f0 qa0 na0 ca0 b rb qa2 na2 ca2 qa3 na3 ca3 w (HV.callee (S0 := []) (vs0 := []) hh (roR hh 0 Y (roC (bsep (hh.bseg 0 Y)) (roR hh 1 Y (roR hh 2 Y (roR hh 3 Y roN)))))) hna0 hqa0 hla0 hna2 hqa2 hla2 hna3 hqa3 hla3 h2) (fun l h3 => ?_)
  refine jb Y Y Y (fun _ _ => qv Y) (jl Y Y (jo (ju ?_)))
  obtain rfl := sj hm
  refine jm Y (fun w hh => (.tmp Y .nil)) (fun w hh => ⟨(), rfl, trivial, hh.se [] [] 4 Y Y Y rfl⟩)
def J7 (x0 : Span) : Option Bool :=
 some (decide (x0.lo ≤ x0.hi))
theorem YD (x0 : Span)  (w : World) (hw : HV w (keys [] []) [] [] [] w)  {res : Bool} (hm : J7 x0 = some res) :
    Calls Try.prog 62 #[.agg #[.int .i64 x0.lo, .int .i64 x0.hi]] w (fun en w' => ∃ l : Unit, en = .returned (.bool res) ∧ (True) ∧ HV w (keys [] []) [] [] [] w') := by
  unfold J7 at hm
  refine kl func62 Y ntmps62 Y (e := [(0, _)]) Y hw (jp ?_)
  refine jF Y Y (fun b h1 => ?_)
  refine jl Y Y (jV (j7 0 runUnderlying37 Y sizeOf3 Y Y (kx 0 isAgg3 Y Y Y Y (j7 1 runUnderlying37 Y sizeOf3 Y Y (kx 0 isAgg3 Y Y Y Y (jb Y Y Y (fun _ _ => Z1 Y Y) (jl Y Y ?_)))))))
  refine jo (ju ?_)
  obtain rfl := sj hm
  refine jm Y (fun w hh => (.tmp Y .nil)) (fun w hh => ⟨(), rfl, trivial, hh.se [] [] 0 Y Y Y rfl⟩)
def ki (x0 : Span) : Option Bool :=
 (J7 x0).bind fun t6 =>
 some (!t6)
theorem Kl (x0 : Span) (rb : Nat) (w : World) (hw : HV w (keys [] []) [] [] [(rb, 0, [.func (.func 62) #[] #[]])] w)  {res : Bool} (hm : ki x0 = some res) :
    Calls Try.prog 112 #[.agg #[.int .i64 x0.lo, .int .i64 x0.hi], ptr rb 0] w (fun en w' => ∃ l : Unit, en = .returned (.bool res) ∧ (True) ∧ HV w (keys [] []) [] [] [] w') := by
  unfold ki at hm
  refine kl func112 Y ntmps112 Y (e := [(0, _), (1, _)]) Y hw (jp ?_)
  refine jF Y Y (fun b h1 => ?_)
  refine jl Y Y (jV (jb Y Y Y (fun w hh => jQ (isAgg106 w) Y (segCell (hh.seg 0 Y) 0 Y)) (qX [_, _] 0 isAgg37 sizeOf37 Y Y Y Y ?_)))
  obtain ⟨t6, h2, hm⟩ := bindO hm
  refine jd [] [] Y Y Y Y Y Y Y call62 (fun w hh => YD x0 w (HV.callee (S0 := []) (vs0 := []) hh roN)  h2) (fun l h3 => ?_)
  refine jb Y Y Y (fun _ _ => qv Y) (jl Y Y (jo (ju ?_)))
  obtain rfl := sj hm
  refine jm Y (fun w hh => (.tmp Y .nil)) (fun w hh => ⟨(), rfl, trivial, hh.se [] [] 1 Y Y Y rfl⟩)
def qT (s0 : (List Span)) (s : Int) : Option (Int ⊕ (Unit ⊕ Int)) :=
 if s < (s0.length : Int) then
 ((ix s0 s).bind fun t14 =>
 (ki t14).bind fun t16 =>
 if t16 = true then
 (some (.inr (.inr s))) else
 ((addc s 1).bind fun t18 =>
 some (.inl t18))) else
 (some (.inr (.inl ())))
def qz (s0 : (List Span)) : Option Int :=
 (iterM FU (qT s0) 0).bind fun o =>
 oc o (fun j => some (-1)) (fun r_1 => some r_1)
theorem KP (s0 : (List Span)) (qa0 : Option Addr) (na0 ca0 : Nat) (rb : Nat) (w : World) (hw : HV w (keys [] []) [] [] [(aB qa0, aO qa0, RSp.enc s0), (rb, 0, [.func (.func 62) #[] #[]])] w) (hna0 : s0.length = na0) (hqa0 : AOK na0 qa0) (hla0 : na0 ≤ ca0)  {res : Int} (hm : qz s0 = some res) :
    Calls Try.prog 141 #[.slice qa0 na0 ca0, .func (.func 112) #[] #[ptr rb 0]] w (fun en w' => ∃ l : Unit, en = .returned (.int .i64 res) ∧ (True) ∧ HV w (keys [] []) [] [] [] w') := by
  unfold qz at hm
  refine kl func141 Y ntmps141 Y (e := [(0, _), (1, _)]) Y hw (jp (jl Y Y (jo (jk (jp (je Y Y (jb Y Y Y (fun w _ => jR hna0 (runUnderlying26 w) Y) ?_)))))))
  refine je Y Y (jo ?_)
  obtain ⟨o, h1, h2⟩ := bindO hm
  refine jM (ι := Unit) (fun j => o = .inl j) (fun j => []) (fun j => []) (fun j => []) ?_ ?_
  ·replace hm := h1
   refine jj ?_
   refine jD (ι := Unit) hm (fun s l => True) (fun s l => [(0, .slice qa0 na0 ca0), (1, .func (.func 112) #[] #[ptr rb 0]), (7, .int .i64 (s0.length : Int)), (8, .int .i64 s)]) (fun s l => []) (fun s l => []) () (trivial) (sE Y) (fun w hh => hh) (fun s l r hpl hm h3 => ?_)
   unfold qT at hm
   refine jp (zK Y Y Y (jo (jk ?_)))
   refine jr Y (fun h4 => ?_) (fun h4 => ?_)
   ·replace hm := ifD h4 hm
    refine js (ja (jk (jj (jp (je Y Y (jl Y Y (jV ?_)))))))
    refine je Y Y (je Y Y (je Y Y ?_))
    obtain ⟨t14, h5, hm⟩ := bindO hm
    refine jb Y Y Y (fun w _ => q7 h5 (runUnderlying26 w) (sizeOf37 w) Y Y hna0 hqa0) ?_
    refine jb Y Y Y (fun w hh => kT RSp 0 [.int .i64 t14.lo, .int .i64 t14.hi] h5 (isAgg37 w) (sizeOf37 w) Y (hh.seg 0 Y) Y (Nat.add_zero _).symm) ?_
    obtain ⟨t16, h6, hm⟩ := bindO hm
    refine jd [] [] Y Y Y Y Y Y Y call112 (fun w hh => Kl t14 rb w (HV.callee (S0 := []) (vs0 := []) hh (roR hh 1 Y roN))  h6) (fun l_1 h7 => ?_)
    refine jo ?_
    refine jr Y (fun h8 => ?_) (fun h8 => ?_)
    ·replace hm := ifT (h8) hm
     refine jp (je Y Y (jl Y Y (jo (ju (jy (jf (jf ?_)))))))
     refine jy ?_
     obtain rfl := sj hm
     have hbo := h3 _ Y
     subst hbo
     refine jf ?_
     replace hm := ocR h2
     refine jf ?_
     obtain rfl := sj hm
     refine jm Y (fun w hh => (.tmp Y .nil)) (fun w hh => ⟨(), rfl, trivial, hh.se [] [] 2 Y Y Y rfl⟩)
    replace hm := ifN h8 hm
    refine js (jt (ja (jh ?_)))
    obtain ⟨t18, h9, hm⟩ := bindO hm
    refine yA h9 Y Y Y (je Y Y (jx ?_))
    obtain rfl := sj hm
    refine ja ?_
    exact jz _ () Y (trivial) (sE Y) (fun w hh => hh)
   replace hm := ifE h4 hm
   refine jP (ji (ji (jC ?_)))
   obtain rfl := sj hm
   have hbo := h3 _ Y
   subst hbo
   exact jn () (Y) (.nil) (fun w hh => hh)
  intro j hj
  have h10 := hj
  subst h10
  replace hm := ocL h2
  refine ja (jp (jl Y Y (jo (ju ?_))))
  obtain rfl := sj hm
  refine jm Y (fun w hh => (.tmp Y .nil)) (fun w hh => ⟨(), rfl, trivial, hh.se [] [] 2 Y Y Y rfl⟩)
def kF (s0 : (List Span)) : Option Bool :=
 (qz s0).bind fun t7 =>
 some (decide (0 ≤ t7))
theorem Kj (s0 : (List Span)) (qa0 : Option Addr) (na0 ca0 : Nat) (rb : Nat) (w : World) (hw : HV w (keys [] []) [] [] [(aB qa0, aO qa0, RSp.enc s0), (rb, 0, [.func (.func 62) #[] #[]])] w) (hna0 : s0.length = na0) (hqa0 : AOK na0 qa0) (hla0 : na0 ≤ ca0)  {res : Bool} (hm : kF s0 = some res) :
    Calls Try.prog 111 #[.slice qa0 na0 ca0, .func (.func 112) #[] #[ptr rb 0]] w (fun en w' => ∃ l : Unit, en = .returned (.bool res) ∧ (True) ∧ HV w (keys [] []) [] [] [] w') := by
  unfold kF at hm
  refine kl func111 Y ntmps111 Y (e := [(0, _), (1, _)]) Y hw (jp (jl Y Y (jV (je Y Y (je Y Y ?_)))))
  obtain ⟨t7, h1, hm⟩ := bindO hm
  refine jd [] [] Y Y Y Y Y Y Y call141 (fun w hh => KP s0 qa0 na0 ca0 rb w (HV.callee (S0 := []) (vs0 := []) hh (roR hh 0 Y (roR hh 1 Y roN))) hna0 hqa0 hla0 h1) (fun l h2 => ?_)
  refine jb Y Y Y (fun _ _ => K4 Y Y) (jl Y Y (jo (ju ?_)))
  obtain rfl := sj hm
  refine jm Y (fun w hh => (.tmp Y .nil)) (fun w hh => ⟨(), rfl, trivial, hh.se [] [] 2 Y Y Y rfl⟩)
def kD (l0 : (List Span)) : Option Bool :=
 (kF l0).bind fun t7 =>
 some (!t7)
theorem KO (l0 : (List Span)) (qa0 : Option Addr) (na0 ca0 : Nat) (w : World) (hw : HV w (keys [] []) [] [] [(aB qa0, aO qa0, RSp.enc l0)] w) (hna0 : l0.length = na0) (hqa0 : AOK na0 qa0) (hla0 : na0 ≤ ca0) {res : Bool} (hm : kD l0 = some res) :
    Calls Try.prog 58 #[.slice qa0 na0 ca0, .func (.func 62) #[] #[]] w (fun en w' => ∃ l : Unit, en = .returned (.bool res) ∧ (True) ∧ HV w (keys [] []) [] [] [] w') := by
  unfold kD at hm
  refine kl func58 Y ntmps58 Y (e := [(0, _), (1, _)]) Y hw (jp ?_)
  refine jF Y Y (fun b h1 => ?_)
  refine jl Y Y (jV (je Y Y (jb Y Y Y (fun _ _ => jE (u := #[]) (u' := #[_]) Y Y) ?_)))
  obtain ⟨t7, h2, hm⟩ := bindO hm
  refine jd [] [] Y Y Y Y Y Y Y call111 (fun w hh => Kj l0 qa0 na0 ca0 b w (HV.callee (S0 := []) (vs0 := []) hh (roR hh 0 Y (roC (bsep (hh.bseg 0 Y)) roN))) hna0 hqa0 hla0 h2) (fun l h3 => ?_)
  refine jb Y Y Y (fun _ _ => qv Y) (jl Y Y (jo (ju ?_)))
  obtain rfl := sj hm
  refine jm Y (fun w hh => (.tmp Y .nil)) (fun w hh => ⟨(), rfl, trivial, hh.se [] [] 1 Y Y Y rfl⟩)
def kb (x0 : Strip) : Option Span :=
 (addc x0.lay.lo x0.seeded.lo).bind fun t9 =>
 (subc t9 x0.left.hi).bind fun t13 =>
 (addc x0.lay.hi x0.seeded.hi).bind fun t21 =>
 (subc t21 x0.left.lo).bind fun t25 =>
 some (⟨(max 0 t13), t25⟩ : Span)
theorem qM (x0 : Strip)  (w : World) (hw : HV w (keys [] []) [] [] [] w)  {res : Span} (hm : kb x0 = some res) :
    Calls Try.prog 64 #[.agg #[.int .i64 x0.tenant, .int .i64 x0.lay.lo, .int .i64 x0.lay.hi, .int .i64 x0.seeded.lo, .int .i64 x0.seeded.hi, .int .i64 x0.left.lo, .int .i64 x0.left.hi]] w (fun en w' => ∃ l : Unit, en = .returned (.agg #[.int .i64 res.lo, .int .i64 res.hi]) ∧ (True) ∧ HV w (keys [] []) [] [] [] w') := by
  unfold kb at hm
  refine kl func64 Y ntmps64 Y (e := [(0, _)]) Y hw (jp ?_)
  refine jF Y Y (fun b h1 => ?_)
  refine jq (fun w => zeroValue37 w) Y (fun b_1 h2 => ?_)
  refine jV (j7 1 runUnderlying77 Y sizeOf37 Y Y (j7 0 runUnderlying37 Y sizeOf3 Y Y (kx 1 isAgg3 Y Y Y Y (j7 3 runUnderlying77 Y sizeOf37 Y Y (j7 0 runUnderlying37 Y sizeOf3 Y Y (kx 1 isAgg3 Y Y Y Y ?_))))))
  obtain ⟨t9, h3, hm⟩ := bindO hm
  refine yA h3 Y Y Y (j7 5 runUnderlying77 Y sizeOf37 Y Y (j7 1 runUnderlying37 Y sizeOf3 Y Y (kx 1 isAgg3 Y Y Y Y ?_)))
  obtain ⟨t13, h4, hm⟩ := bindO hm
  refine jb Y Y Y (fun _ _ => qc h4 Y Y) (jb Y Y Y (fun _ _ => Y7 Y Y) (j7 1 runUnderlying77 Y sizeOf37 Y Y (j7 1 runUnderlying37 Y sizeOf3 Y Y (kx 1 isAgg3 Y Y Y Y (j7 3 runUnderlying77 Y sizeOf37 Y Y (j7 1 runUnderlying37 Y sizeOf3 Y Y (kx 1 isAgg3 Y Y Y Y ?_)))))))
  obtain ⟨t21, h5, hm⟩ := bindO hm
  refine yA h5 Y Y Y (j7 5 runUnderlying77 Y sizeOf37 Y Y (j7 0 runUnderlying37 Y sizeOf3 Y Y (kx 1 isAgg3 Y Y Y Y ?_)))
  obtain ⟨t25, h6, hm⟩ := bindO hm
  refine jb Y Y Y (fun _ _ => qc h6 Y Y) (jb Y Y Y (fun _ _ => jA (vs := [(0, _), (1, _)]) (cells := [_, _]) Y Y) (jB (us := #[_, _]) (cs' := [_, _]) (S' := [_, _]) 0 (fun w => sizeOf37 w) Y Y Y Y Y Y Y (jo (ju ?_))))
  obtain rfl := sj hm
  refine jm Y (fun w hh => (.cell Y (loadVar_agg (vs := [_, _]) (isAgg37 _) (sizeOf37 _) (hh.cells 0 Y Y)) .nil)) (fun w hh => ⟨(), rfl, trivial, hh.se [] [] 0 Y Y Y rfl⟩)
def J3 (x0 : Strip) : Option Bool :=
 (kb x0).bind fun t4 =>
 some (decide (0 ≤ t4.hi))
theorem YB (x0 : Strip)  (w : World) (hw : HV w (keys [] []) [] [] [] w)  {res : Bool} (hm : J3 x0 = some res) :
    Calls Try.prog 63 #[.agg #[.int .i64 x0.tenant, .int .i64 x0.lay.lo, .int .i64 x0.lay.hi, .int .i64 x0.seeded.lo, .int .i64 x0.seeded.hi, .int .i64 x0.left.lo, .int .i64 x0.left.hi]] w (fun en w' => ∃ l : Unit, en = .returned (.bool res) ∧ (True) ∧ HV w (keys [] []) [] [] [] w') := by
  unfold J3 at hm
  refine kl func63 Y ntmps63 Y (e := [(0, _)]) Y hw (jp ?_)
  refine jF Y Y (fun b h1 => ?_)
  refine jl Y Y (jV (qX [_, _, _, _, _, _, _] 0 isAgg77 sizeOf77 Y Y Y Y ?_))
  obtain ⟨t4, h2, hm⟩ := bindO hm
  refine jd [] [] Y Y Y Y Y Y Y call64 (fun w hh => qM x0 w (HV.callee (S0 := []) (vs0 := []) hh roN)  h2) (fun l h3 => ?_)
  refine jb Y Y Y (fun w _ => Yi 3 1 (runUnderlying37 w) Y (isAgg3 w) Y Y) (jb Y Y Y (fun _ _ => K4 Y Y) (jl Y Y (jo (ju ?_))))
  obtain rfl := sj hm
  refine jm Y (fun w hh => (.tmp Y .nil)) (fun w hh => ⟨(), rfl, trivial, hh.se [] [] 0 Y Y Y rfl⟩)
def j1 (x0 : Strip) : Option Bool :=
 (J3 x0).bind fun t6 =>
 some (!t6)
theorem JC (x0 : Strip) (rb : Nat) (w : World) (hw : HV w (keys [] []) [] [] [(rb, 0, [.func (.func 63) #[] #[]])] w)  {res : Bool} (hm : j1 x0 = some res) :
    Calls Try.prog 115 #[.agg #[.int .i64 x0.tenant, .int .i64 x0.lay.lo, .int .i64 x0.lay.hi, .int .i64 x0.seeded.lo, .int .i64 x0.seeded.hi, .int .i64 x0.left.lo, .int .i64 x0.left.hi], ptr rb 0] w (fun en w' => ∃ l : Unit, en = .returned (.bool res) ∧ (True) ∧ HV w (keys [] []) [] [] [] w') := by
  unfold j1 at hm
  refine kl func115 Y ntmps115 Y (e := [(0, _), (1, _)]) Y hw (jp ?_)
  refine jF Y Y (fun b h1 => ?_)
  refine jl Y Y (jV (jb Y Y Y (fun w hh => jQ (isAgg113 w) Y (segCell (hh.seg 0 Y) 0 Y)) (qX [_, _, _, _, _, _, _] 0 isAgg77 sizeOf77 Y Y Y Y ?_)))
  obtain ⟨t6, h2, hm⟩ := bindO hm
  refine jd [] [] Y Y Y Y Y Y Y call63 (fun w hh => YB x0 w (HV.callee (S0 := []) (vs0 := []) hh roN)  h2) (fun l h3 => ?_)
  refine jb Y Y Y (fun _ _ => qv Y) (jl Y Y (jo (ju ?_)))
  obtain rfl := sj hm
  refine jm Y (fun w hh => (.tmp Y .nil)) (fun w hh => ⟨(), rfl, trivial, hh.se [] [] 1 Y Y Y rfl⟩)
def qR (s0 : (List Strip)) (s : Int) : Option (Int ⊕ (Unit ⊕ Int)) :=
 if s < (s0.length : Int) then
 ((ix s0 s).bind fun t14 =>
 (j1 (⟨t14.tenant, (⟨t14.lay.lo, t14.lay.hi⟩ : Span), (⟨t14.seeded.lo, t14.seeded.hi⟩ : Span), (⟨t14.left.lo, t14.left.hi⟩ : Span)⟩ : Strip)).bind fun t16 =>
 if t16 = true then
 (some (.inr (.inr s))) else
 ((addc s 1).bind fun t18 =>
 some (.inl t18))) else
 (some (.inr (.inl ())))
def qt (s0 : (List Strip)) : Option Int :=
 (iterM FU (qR s0) 0).bind fun o =>
 oc o (fun j => some (-1)) (fun r_1 => some r_1)
theorem KR (s0 : (List Strip)) (qa0 : Option Addr) (na0 ca0 : Nat) (rb : Nat) (w : World) (hw : HV w (keys [] []) [] [] [(aB qa0, aO qa0, RSt.enc s0), (rb, 0, [.func (.func 63) #[] #[]])] w) (hna0 : s0.length = na0) (hqa0 : AOK na0 qa0) (hla0 : na0 ≤ ca0)  {res : Int} (hm : qt s0 = some res) :
    Calls Try.prog 142 #[.slice qa0 na0 ca0, .func (.func 115) #[] #[ptr rb 0]] w (fun en w' => ∃ l : Unit, en = .returned (.int .i64 res) ∧ (True) ∧ HV w (keys [] []) [] [] [] w') := by
  unfold qt at hm
  refine kl func142 Y ntmps142 Y (e := [(0, _), (1, _)]) Y hw (jp (jl Y Y (jo (jk (jp (je Y Y (jb Y Y Y (fun w _ => jR hna0 (runUnderlying25 w) Y) ?_)))))))
  refine je Y Y (jo ?_)
  obtain ⟨o, h1, h2⟩ := bindO hm
  refine jM (ι := Unit) (fun j => o = .inl j) (fun j => []) (fun j => []) (fun j => []) ?_ ?_
  ·replace hm := h1
   refine jj ?_
   refine jD (ι := Unit) hm (fun s l => True) (fun s l => [(0, .slice qa0 na0 ca0), (1, .func (.func 115) #[] #[ptr rb 0]), (7, .int .i64 (s0.length : Int)), (8, .int .i64 s)]) (fun s l => []) (fun s l => []) () (trivial) (sE Y) (fun w hh => hh) (fun s l r hpl hm h3 => ?_)
   unfold qR at hm
   refine jp (zK Y Y Y (jo (jk ?_)))
   refine jr Y (fun h4 => ?_) (fun h4 => ?_)
   ·replace hm := ifD h4 hm
    refine js (ja (jk (jj (jp (je Y Y (jl Y Y (jV ?_)))))))
    refine je Y Y (je Y Y (je Y Y ?_))
    obtain ⟨t14, h5, hm⟩ := bindO hm
    refine jb Y Y Y (fun w _ => q7 h5 (runUnderlying25 w) (sizeOf77 w) Y Y hna0 hqa0) ?_
    refine jb Y Y Y (fun w hh => kT RSt 0 [.int .i64 t14.tenant, .int .i64 t14.lay.lo, .int .i64 t14.lay.hi, .int .i64 t14.seeded.lo, .int .i64 t14.seeded.hi, .int .i64 t14.left.lo, .int .i64 t14.left.hi] h5 (isAgg77 w) (sizeOf77 w) Y (hh.seg 0 Y) Y (Nat.add_zero _).symm) ?_
    obtain ⟨t16, h6, hm⟩ := bindO hm
    refine jd [] [] Y Y Y Y Y Y Y call115 (fun w hh => JC (⟨t14.tenant, (⟨t14.lay.lo, t14.lay.hi⟩ : Span), (⟨t14.seeded.lo, t14.seeded.hi⟩ : Span), (⟨t14.left.lo, t14.left.hi⟩ : Span)⟩ : Strip) rb w (HV.callee (S0 := []) (vs0 := []) hh (roR hh 1 Y roN))  h6) (fun l_1 h7 => ?_)
    refine jo ?_
    refine jr Y (fun h8 => ?_) (fun h8 => ?_)
    ·replace hm := ifT (h8) hm
     refine jp (je Y Y (jl Y Y (jo (ju (jy (jf (jf ?_)))))))
     refine jy ?_
     obtain rfl := sj hm
     have hbo := h3 _ Y
     subst hbo
     refine jf ?_
     replace hm := ocR h2
     refine jf ?_
     obtain rfl := sj hm
     refine jm Y (fun w hh => (.tmp Y .nil)) (fun w hh => ⟨(), rfl, trivial, hh.se [] [] 2 Y Y Y rfl⟩)
    replace hm := ifN h8 hm
    refine js (jt (ja (jh ?_)))
    obtain ⟨t18, h9, hm⟩ := bindO hm
    refine yA h9 Y Y Y (je Y Y (jx ?_))
    obtain rfl := sj hm
    refine ja ?_
    exact jz _ () Y (trivial) (sE Y) (fun w hh => hh)
   replace hm := ifE h4 hm
   refine jP (ji (ji (jC ?_)))
   obtain rfl := sj hm
   have hbo := h3 _ Y
   subst hbo
   exact jn () (Y) (.nil) (fun w hh => hh)
  intro j hj
  have h10 := hj
  subst h10
  replace hm := ocL h2
  refine ja (jp (jl Y Y (jo (ju ?_))))
  obtain rfl := sj hm
  refine jm Y (fun w hh => (.tmp Y .nil)) (fun w hh => ⟨(), rfl, trivial, hh.se [] [] 2 Y Y Y rfl⟩)
def kE (s0 : (List Strip)) : Option Bool :=
 (qt s0).bind fun t7 =>
 some (decide (0 ≤ t7))
theorem Kk (s0 : (List Strip)) (qa0 : Option Addr) (na0 ca0 : Nat) (rb : Nat) (w : World) (hw : HV w (keys [] []) [] [] [(aB qa0, aO qa0, RSt.enc s0), (rb, 0, [.func (.func 63) #[] #[]])] w) (hna0 : s0.length = na0) (hqa0 : AOK na0 qa0) (hla0 : na0 ≤ ca0)  {res : Bool} (hm : kE s0 = some res) :
    Calls Try.prog 114 #[.slice qa0 na0 ca0, .func (.func 115) #[] #[ptr rb 0]] w (fun en w' => ∃ l : Unit, en = .returned (.bool res) ∧ (True) ∧ HV w (keys [] []) [] [] [] w') := by
  unfold kE at hm
  refine kl func114 Y ntmps114 Y (e := [(0, _), (1, _)]) Y hw (jp (jl Y Y (jV (je Y Y (je Y Y ?_)))))
  obtain ⟨t7, h1, hm⟩ := bindO hm
  refine jd [] [] Y Y Y Y Y Y Y call142 (fun w hh => KR s0 qa0 na0 ca0 rb w (HV.callee (S0 := []) (vs0 := []) hh (roR hh 0 Y (roR hh 1 Y roN))) hna0 hqa0 hla0 h1) (fun l h2 => ?_)
  refine jb Y Y Y (fun _ _ => K4 Y Y) (jl Y Y (jo (ju ?_)))
  obtain rfl := sj hm
  refine jm Y (fun w hh => (.tmp Y .nil)) (fun w hh => ⟨(), rfl, trivial, hh.se [] [] 2 Y Y Y rfl⟩)
def kj (l0 : (List Strip)) : Option Bool :=
 (kE l0).bind fun t7 =>
 some (!t7)
theorem Km (l0 : (List Strip)) (qa0 : Option Addr) (na0 ca0 : Nat) (w : World) (hw : HV w (keys [] []) [] [] [(aB qa0, aO qa0, RSt.enc l0)] w) (hna0 : l0.length = na0) (hqa0 : AOK na0 qa0) (hla0 : na0 ≤ ca0) {res : Bool} (hm : kj l0 = some res) :
    Calls Try.prog 60 #[.slice qa0 na0 ca0, .func (.func 63) #[] #[]] w (fun en w' => ∃ l : Unit, en = .returned (.bool res) ∧ (True) ∧ HV w (keys [] []) [] [] [] w') := by
  unfold kj at hm
  refine kl func60 Y ntmps60 Y (e := [(0, _), (1, _)]) Y hw (jp ?_)
  refine jF Y Y (fun b h1 => ?_)
  refine jl Y Y (jV (je Y Y (jb Y Y Y (fun _ _ => jE (u := #[]) (u' := #[_]) Y Y) ?_)))
  obtain ⟨t7, h2, hm⟩ := bindO hm
  refine jd [] [] Y Y Y Y Y Y Y call114 (fun w hh => Kk l0 qa0 na0 ca0 b w (HV.callee (S0 := []) (vs0 := []) hh (roR hh 0 Y (roC (bsep (hh.bseg 0 Y)) roN))) hna0 hqa0 hla0 h2) (fun l h3 => ?_)
  refine jb Y Y Y (fun _ _ => qv Y) (jl Y Y (jo (ju ?_)))
  obtain rfl := sj hm
  refine jm Y (fun w hh => (.tmp Y .nil)) (fun w hh => ⟨(), rfl, trivial, hh.se [] [] 1 Y Y Y rfl⟩)
def JY (s0 : Scalps) : Option Int :=
 ((Kv (s0.strips.length : Int) 1 6).bind fun t10 =>
 if (!t10) = true then
 (some true) else
 ((Kv (s0.carried.length : Int) 1 5).bind fun t16 =>
 some (!t16))).bind fun o =>
 if o = true then
 (some 2) else
 ((kP s0).bind fun t21 =>
 (qb t21).bind fun t22 =>
 if (!t22) = true then
 (some 3) else
 ((ku s0.strips s0).bind fun t28 =>
 if (!t28) = true then
 (some 1) else
 ((kP s0).bind fun t32 =>
 (kD t32).bind fun t33 =>
 if (!t33) = true then
 (some 4) else
 ((kj s0.strips).bind fun t38 =>
 if (!t38) = true then
 (some 8) else
 (some 0)))))
theorem Ys (s0 : Scalps) (qa0 : Option Addr) (na0 ca0 : Nat) (qa1 : Option Addr) (na1 ca1 : Nat) (w : World) (hw : HV w (keys [] []) [] [] [(aB qa0, aO qa0, RSt.enc s0.strips), (aB qa1, aO qa1, RSp.enc s0.carried)] w) (hna0 : s0.strips.length = na0) (hqa0 : AOK na0 qa0) (hla0 : na0 ≤ ca0) (hna1 : s0.carried.length = na1) (hqa1 : AOK na1 qa1) (hla1 : na1 ≤ ca1) {res : Int} (hm : JY s0 = some res) :
    Calls Try.prog 15 #[.agg #[.slice qa0 na0 ca0, .slice qa1 na1 ca1]] w (fun en w' => ∃ l : Unit, en = .returned (.int .i64 res) ∧ (True) ∧ HV w (keys [] []) [] [] [] w') := by
  unfold JY at hm
  refine kl func15 Y ntmps15 Y (e := [(0, _)]) Y hw (jp ?_)
  refine jF Y Y (fun b h1 => ?_)
  refine jl Y Y (jV (qX [_, _] 0 isAgg28 sizeOf28 Y Y Y Y (jb Y Y Y (fun _ _ => jE (u := #[_]) (u' := #[]) Y Y) ?_)))
  refine jq (fun w => zeroValue71 w) Y (fun b_1 h2 => ?_)
  refine yo (cs' := #[_]) (S' := [_, _]) 0 (fun w => sizeOf71 w) Y Y Y Y Y Y Y (jo (jk (jj (jk ?_))))
  obtain ⟨o, h3, h4⟩ := bindO hm
  refine jM (ι := Unit) (fun l => True) (fun l => [(1, ptr b 0), (3, ptr b_1 0), (6, .bool o)]) (fun l => [(b_1, .cells #[.func (.func 53) #[.agg #[.slice qa0 na0 ca0, .slice qa1 na1 ca1]] #[]] 71 (0, 0)), kc b #[.slice qa0 na0 ca0, .slice qa1 na1 ca1] 28]) (fun l => []) ?_ ?_
  ·replace hm := h3
   refine jh (j7 0 runUnderlying28 Y sizeOf25 Y Y (kx 1 isAgg25 Y Y Y Y (jb Y Y Y (fun w _ => jR hna0 (runUnderlying25 w) Y) ?_)))
   obtain ⟨t10, h5, hm⟩ := bindO hm
   refine jd [] [] Y Y Y Y Y Y Y call57 (fun w hh => Qv (s0.strips.length : Int) 1 6 w (HV.callee (S0 := []) (vs0 := []) hh roN)  h5) (fun l_1 h6 => ?_)
   refine jb Y Y Y (fun _ _ => qv Y) (je Y Y ?_)
   refine jZ 12 Y (fun h7 => ?_) (fun h7 => ?_)
   ·replace hm := ifT (h7) hm
    refine g_k Y Y Y Y (g_k Y Y Y Y (g_k Y Y Y Y (g_k Y Y Y Y (g_k Y Y Y Y (qO Y Y Y (jl Y Y (jx ?_)))))))
    obtain rfl := sj hm
    exact jn () (trivial) (sE Y) (fun w hh => hh)
   replace hm := ifN h7 hm
   refine jc Y Y (j7 1 runUnderlying28 Y sizeOf26 Y Y (jc Y Y (kx 1 isAgg26 Y Y Y Y (jc Y Y (jb Y Y Y (fun w _ => jR hna1 (runUnderlying26 w) Y) (jc Y Y ?_))))))
   obtain ⟨t16, h8, hm⟩ := bindO hm
   refine jd [] [] Y Y Y Y Y Y Y call57 (fun w hh => Qv (s0.carried.length : Int) 1 5 w (HV.callee (S0 := []) (vs0 := []) hh roN)  h8) (fun l_2 h9 => ?_)
   refine jc Y Y (jb Y Y Y (fun _ _ => qv Y) (yW Y Y Y (jl Y Y (jx ?_))))
   obtain rfl := sj hm
   exact jn () (trivial) (sE Y) (fun w hh => hh)
  intro l hj
  replace hm := h4
  refine ja ?_
  refine jr Y (fun h10 => ?_) (fun h10 => ?_)
  ·replace hm := ifT (h10) hm
   refine jp (jl Y Y (jo (ju (jy (jf ?_)))))
   obtain rfl := sj hm
   refine jm Y (fun w hh => (.tmp Y .nil)) (fun w hh => ⟨(), rfl, trivial, hh.se [] [] 2 Y Y Y rfl⟩)
  replace hm := ifN h10 hm
  refine jp (qX [_, _] 1 isAgg28 sizeOf28 Y Y Y Y ?_)
  obtain ⟨t21, h11, hm⟩ := bindO hm
  refine jd [] [] Y Y Y Y Y Y Y call59 (fun w hh => Kh s0 qa0 na0 ca0 qa1 na1 ca1 w (HV.callee (S0 := []) (vs0 := []) hh (roR hh 0 Y (roR hh 1 Y roN))) hna0 hqa0 hla0 hna1 hqa1 hla1 h11) (fun l_3 h12 => ?_)
  have h13 := h12
  refine jH (S' := [_, _]) (vs' := [_]) [0, 1] [0] 0 Y Y Y Y ?_
  obtain ⟨t22, h14, hm⟩ := bindO hm
  refine jd [] [] Y Y Y Y Y Y Y call58 (fun w hh => Qj t21 (qA l_3.q) l_3.n l_3.cap w (HV.callee (S0 := []) (vs0 := []) hh (roC (hh.vsepA 0 Y h13) roN)) (vlen RSp h13 Y) (AOK.q (vne h13)) (h13).hle h14) (fun l_4 h15 => ?_)
  refine jb Y Y Y (fun _ _ => qv Y) (jl Y Y (jo ?_))
  refine jr Y (fun h16 => ?_) (fun h16 => ?_)
  ·replace hm := ifT (h16) hm
   refine jp (jl Y Y (jo (ju (jy (jf ?_)))))
   obtain rfl := sj hm
   refine jm Y (fun w hh => (.tmp Y .nil)) (fun w hh => ⟨(), rfl, trivial, hh.se [] [] 2 Y Y Y rfl⟩)
  replace hm := ifN h16 hm
  refine jp (j7 0 runUnderlying28 Y sizeOf25 Y Y (kx 1 isAgg25 Y Y Y Y (jb Y Y Y (fun _ _ => jE (u := #[]) (u' := #[_]) Y Y) ?_)))
  obtain ⟨t28, h17, hm⟩ := bindO hm
  refine jd [] [] Y Y Y Y Y Y Y call60 (fun w hh => KJ s0.strips s0 qa0 na0 ca0 b_1 qa0 na0 ca0 qa1 na1 ca1 w (HV.callee (S0 := []) (vs0 := []) hh (roR hh 0 Y (roC (bsep (hh.bseg 0 Y)) (roR hh 0 Y (roR hh 1 Y roN))))) hna0 hqa0 hla0 hna0 hqa0 hla0 hna1 hqa1 hla1 h17) (fun l_5 h18 => ?_)
  refine jb Y Y Y (fun _ _ => qv Y) (jl Y Y (jo ?_))
  refine jr Y (fun h19 => ?_) (fun h19 => ?_)
  ·replace hm := ifT (h19) hm
   refine jp (jl Y Y (jo (ju (jy (jf ?_)))))
   obtain rfl := sj hm
   refine jm Y (fun w hh => (.tmp Y .nil)) (fun w hh => ⟨(), rfl, trivial, hh.se [] [] 2 Y Y Y rfl⟩)
  replace hm := ifN h19 hm
  refine jp (qX [_, _] 1 isAgg28 sizeOf28 Y Y Y Y ?_)
  obtain ⟨t32, h20, hm⟩ := bindO hm
  refine jd [] [] Y Y Y Y Y Y Y call59 (fun w hh => Kh s0 qa0 na0 ca0 qa1 na1 ca1 w (HV.callee (S0 := []) (vs0 := []) hh (roR hh 0 Y (roR hh 1 Y roN))) hna0 hqa0 hla0 hna1 hqa1 hla1 h20) (fun l_6 h21 => ?_)
  have h22 := h21
  refine jH (S' := [_, _]) (vs' := [_, _]) [0, 1] [0, 1] 0 Y Y Y Y ?_
  obtain ⟨t33, h23, hm⟩ := bindO hm
  refine jd [] [] Y Y Y Y Y Y Y call58 (fun w hh => KO t32 (qA l_6.q) l_6.n l_6.cap w (HV.callee (S0 := []) (vs0 := []) hh (roC (hh.vsepA 0 Y h22) roN)) (vlen RSp h22 Y) (AOK.q (vne h22)) (h22).hle h23) (fun l_7 h24 => ?_)
  refine jb Y Y Y (fun _ _ => qv Y) (jl Y Y (jo ?_))
  refine jr Y (fun h25 => ?_) (fun h25 => ?_)
  ·replace hm := ifT (h25) hm
   refine jp (jl Y Y (jo (ju (jy (jf ?_)))))
   obtain rfl := sj hm
   refine jm Y (fun w hh => (.tmp Y .nil)) (fun w hh => ⟨(), rfl, trivial, hh.se [] [] 2 Y Y Y rfl⟩)
  replace hm := ifN h25 hm
  refine jp (j7 0 runUnderlying28 Y sizeOf25 Y Y (kx 1 isAgg25 Y Y Y Y ?_))
  obtain ⟨t38, h26, hm⟩ := bindO hm
  refine jd [] [] Y Y Y Y Y Y Y call60 (fun w hh => Km s0.strips qa0 na0 ca0 w (HV.callee (S0 := []) (vs0 := []) hh (roR hh 0 Y roN)) hna0 hqa0 hla0 h26) (fun l_8 h27 => ?_)
  refine jb Y Y Y (fun _ _ => qv Y) (jl Y Y (jo ?_))
  refine jr Y (fun h28 => ?_) (fun h28 => ?_)
  ·replace hm := ifT (h28) hm
   refine jp (jl Y Y (jo (ju (jy (jf ?_)))))
   obtain rfl := sj hm
   refine jm Y (fun w hh => (.tmp Y .nil)) (fun w hh => ⟨(), rfl, trivial, hh.se [] [] 2 Y Y Y rfl⟩)
  replace hm := ifN h28 hm
  refine js (jt (ja (jp (jl Y Y (jo (ju ?_))))))
  obtain rfl := sj hm
  refine jm Y (fun w hh => (.tmp Y .nil)) (fun w hh => ⟨(), rfl, trivial, hh.se [] [] 2 Y Y Y rfl⟩)
def kq (s0 : Scalps) (n1 : Int) : Option Bool :=
 (subc (s0.strips.length : Int) 1).bind fun t9 =>
 (Kv n1 0 t9).bind fun t10 =>
 some t10
theorem zU (s0 : Scalps) (n1 : Int) (qa0 : Option Addr) (na0 ca0 : Nat) (qa1 : Option Addr) (na1 ca1 : Nat) (w : World) (hw : HV w (keys [] []) [] [] [(aB qa0, aO qa0, RSt.enc s0.strips), (aB qa1, aO qa1, RSp.enc s0.carried)] w) (hna0 : s0.strips.length = na0) (hqa0 : AOK na0 qa0) (hla0 : na0 ≤ ca0) (hna1 : s0.carried.length = na1) (hqa1 : AOK na1 qa1) (hla1 : na1 ≤ ca1) {res : Bool} (hm : kq s0 n1 = some res) :
    Calls Try.prog 71 #[.agg #[.slice qa0 na0 ca0, .slice qa1 na1 ca1], .int .i64 n1] w (fun en w' => ∃ l : Unit, en = .returned (.bool res) ∧ (True) ∧ HV w (keys [] []) [] [] [] w') := by
  unfold kq at hm
  refine kl func71 Y ntmps71 Y (e := [(0, _), (1, _)]) Y hw (jp ?_)
  refine jF Y Y (fun b h1 => ?_)
  refine jl Y Y (jV (je Y Y (j7 0 runUnderlying28 Y sizeOf25 Y Y (kx 0 isAgg25 Y Y Y Y (jb Y Y Y (fun w _ => jR hna0 (runUnderlying25 w) Y) ?_)))))
  obtain ⟨t9, h2, hm⟩ := bindO hm
  refine jb Y Y Y (fun _ _ => qc h2 Y Y) ?_
  obtain ⟨t10, h3, hm⟩ := bindO hm
  refine jd [] [] Y Y Y Y Y Y Y call57 (fun w hh => Qv n1 0 t9 w (HV.callee (S0 := []) (vs0 := []) hh roN)  h3) (fun l h4 => ?_)
  refine jl Y Y (jo (ju ?_))
  obtain rfl := sj hm
  refine jm Y (fun w hh => (.tmp Y .nil)) (fun w hh => ⟨(), rfl, trivial, hh.se [] [] 2 Y Y Y rfl⟩)
structure zi where
  t21 : Int
  t15 : (List (Pair × Bool))
structure Ja where
  k8 : Int
  t15 : (List (Pair × Bool))
def zl (s : zi) (s0 : Scalps) (t24 : Strip) (s_1 : Ja) : Option (Ja ⊕ (List (Pair × Bool))) :=
 (addc s.t21 1).bind fun t30 =>
 if s_1.k8 ≤ t30 then
 (((kq s0 s_1.k8).bind fun t36 =>
 if t36 = true then
 ((some (aset s_1.t15 (⟨t24.tenant, s_1.k8⟩ : Pair) true)).bind fun t15 =>
 some t15) else
 (some s_1.t15)).bind fun o_2 =>
 (addc s_1.k8 1).bind fun t33 =>
 some (.inl (⟨t33, o_2⟩ : Ja))) else
 (some (.inr s_1.t15))
def zc (s0 : Scalps) (s : zi) : Option (zi ⊕ (List (Pair × Bool))) :=
 if s.t21 < (s0.strips.length : Int) then
 ((ix s0.strips s.t21).bind fun t24 =>
 (subc s.t21 1).bind fun t27 =>
 (iterM FU (zl s s0 t24) (⟨t27, s.t15⟩ : Ja)).bind fun o_1 =>
 (addc s.t21 1).bind fun t45 =>
 some (.inl (⟨t45, o_1⟩ : zi))) else
 (some (.inr s.t15))
def kM (s0 : Scalps) : Option (Int ⊕ (List (Pair × Bool))) :=
 (JY s0).bind fun t10 =>
 if t10 = 0 then
 ((iterM FU (zc s0) (⟨0, []⟩ : zi)).bind fun o =>
 some (.inr o)) else
 (if ¬ (t10 = 0) then (some (.inl t10)) else none)
theorem kn (s0 : Scalps) (qa0 : Option Addr) (na0 ca0 : Nat) (qa1 : Option Addr) (na1 ca1 : Nat) (w : World) (hw : HV w (keys [] []) [] [] [(aB qa0, aO qa0, RSt.enc s0.strips), (aB qa1, aO qa1, RSp.enc s0.carried)] w) (hna0 : s0.strips.length = na0) (hqa0 : AOK na0 qa0) (hla0 : na0 ≤ ca0) (hna1 : s0.carried.length = na1) (hqa1 : AOK na1 qa1) (hla1 : na1 ≤ ca1) {res : (Int ⊕ (List (Pair × Bool)))} (hm : kM s0 = some res) :
    Calls Try.prog 65 #[.agg #[.slice qa0 na0 ca0, .slice qa1 na1 ca1]] w (fun en w' => match res with | .inl res_ => (∃ l : Unit, en = .returned (.tuple #[.pointer none, .int .i64 res_]) ∧ (¬ (res_ = 0)) ∧ HV w (keys [] []) [] [] [] w') | .inr res_ => (∃ l : Nat × Nat, en = .returned (.tuple #[ptr l.1 0, .int .i64 0]) ∧ (True) ∧ HV w (keys [] []) [kc l.1 #[.slice qa0 na0 ca0, .slice qa1 na1 ca1, .map (some l.2)] 163, (l.2, gobj (kR RPr) kB res_)] [] [] w')) := by
  unfold kM at hm
  refine kl func65 Y ntmps65 Y (e := [(0, _)]) Y hw (jp ?_)
  refine jF Y Y (fun b h1 => ?_)
  refine jl Y Y (jl Y Y (jo (jk (jp (qX [_, _] 0 isAgg28 sizeOf28 Y Y Y Y ?_)))))
  obtain ⟨t10, h2, hm⟩ := bindO hm
  refine jd [] [] Y Y Y Y Y Y Y call15 (fun w hh => Ys s0 qa0 na0 ca0 qa1 na1 ca1 w (HV.callee (S0 := []) (vs0 := []) hh (roR hh 0 Y (roR hh 1 Y roN))) hna0 hqa0 hla0 hna1 hqa1 hla1 h2) (fun l h3 => ?_)
  refine jl Y Y (jV (je Y Y (jb Y Y Y (fun _ _ => q5 Y Y) (jo ?_))))
  refine jr Y (fun h4 => ?_) (fun h4 => ?_)
  ·replace hm := ifF (of_ndec_true h4) hm
   refine jp (je Y Y (jl Y Y (jl Y Y (jo (ju (jf ?_))))))
   obtain ⟨h5, hm⟩ := ifO hm
   obtain rfl := sj hm
   refine jm Y (fun w hh => (.tmp Y (.tmp Y .nil))) (fun w hh => ⟨(), rfl, h5, hh.se [] [] 2 Y Y Y rfl⟩)
  replace hm := ifT (of_ndec_false h4) hm
  refine js (ja (jp (qX [_, _] 0 isAgg28 sizeOf28 Y Y Y Y ?_)))
  refine ZI (kR RPr) kB Y (fun b_1 h6 => ?_)
  refine jb Y Y Y (fun _ _ => jA (vs := [(0, _), (1, _)]) (cells := [_, _, _]) Y Y) ?_
  refine jF Y Y (fun b_2 h7 => ?_)
  refine jl Y Y (jo (jk (jp (j7 0 runUnderlying28 Y sizeOf25 Y Y (kx 2 isAgg25 Y Y Y Y (jb Y Y Y (fun w _ => jR hna0 (runUnderlying25 w) Y) (je Y Y ?_)))))))
  refine jo ?_
  obtain ⟨o, h8, h9⟩ := bindO hm
  refine jM (ι := Unit) (fun l_1 => True) (fun l_1 => [(5, ptr b_2 0)]) (fun l_1 => [kc b_2 #[.slice qa0 na0 ca0, .slice qa1 na1 ca1, .map (some b_1)] 163, (b_1, gobj (kR RPr) kB o), kc b #[.slice qa0 na0 ca0, .slice qa1 na1 ca1] 28]) (fun l_1 => []) ?_ ?_
  ·replace hm := h8
   refine jj ?_
   refine jD (ι := Unit) hm (fun s l_2 => True) (fun s l_2 => [(1, ptr b 0), (5, ptr b_2 0), (19, .slice qa0 na0 ca0), (20, .int .i64 (s0.strips.length : Int)), (21, .int .i64 s.t21)]) (fun s l_2 => [kc b_2 #[.slice qa0 na0 ca0, .slice qa1 na1 ca1, .map (some b_1)] 163, (b_1, gobj (kR RPr) kB s.t15), kc b #[.slice qa0 na0 ca0, .slice qa1 na1 ca1] 28]) (fun s l_2 => []) () (trivial) (sE Y) (fun w hh => hh) (fun s l_2 r hpl hm h10 => ?_)
   unfold zc at hm
   refine jp (zK Y Y Y (jo (jk ?_)))
   refine jr Y (fun h11 => ?_) (fun h11 => ?_)
   ·replace hm := ifD h11 hm
    refine js (ja (jk (jj (jp (je Y Y ?_)))))
    obtain ⟨t24, h12, hm⟩ := bindO hm
    refine jb Y Y Y (fun w _ => q7 h12 (runUnderlying25 w) (sizeOf77 w) Y Y hna0 hqa0) ?_
    refine jb Y Y Y (fun w hh => kT RSt 0 [.int .i64 t24.tenant, .int .i64 t24.lay.lo, .int .i64 t24.lay.hi, .int .i64 t24.seeded.lo, .int .i64 t24.seeded.hi, .int .i64 t24.left.lo, .int .i64 t24.left.hi] h12 (isAgg77 w) (sizeOf77 w) Y (hh.seg 0 Y) Y (Nat.add_zero _).symm) ?_
    refine jq (fun w => zeroValue77 w) Y (fun b_3 h13 => ?_)
    refine jl Y Y (jB (us := #[_, _, _, _, _, _, _]) (cs' := [_, _, _, _, _, _, _]) (S' := [_, _, _, _]) 0 (fun w => sizeOf77 w) Y Y Y Y Y Y Y (jV (je Y Y ?_)))
    obtain ⟨t27, h14, hm⟩ := bindO hm
    refine jb Y Y Y (fun _ _ => qc h14 Y Y) (jl Y Y (jo ?_))
    obtain ⟨o_1, h15, h16⟩ := bindO hm
    refine jM (ι := Unit) (fun l_3 => True) (fun l_3 => [(1, ptr b 0), (5, ptr b_2 0), (19, .slice qa0 na0 ca0), (20, .int .i64 (s0.strips.length : Int)), (21, .int .i64 s.t21)]) (fun l_3 => [kc b_3 #[.int .i64 t24.tenant, .int .i64 t24.lay.lo, .int .i64 t24.lay.hi, .int .i64 t24.seeded.lo, .int .i64 t24.seeded.hi, .int .i64 t24.left.lo, .int .i64 t24.left.hi] 77, kc b_2 #[.slice qa0 na0 ca0, .slice qa1 na1 ca1, .map (some b_1)] 163, (b_1, gobj (kR RPr) kB o_1), kc b #[.slice qa0 na0 ca0, .slice qa1 na1 ca1] 28]) (fun l_3 => []) ?_ ?_
    ·replace hm := h15
     refine jj ?_
     refine jD (ι := Unit) hm (fun s_1 l_4 => True) (fun s_1 l_4 => [(1, ptr b 0), (5, ptr b_2 0), (6, .int .i64 s.t21), (7, ptr b_3 0), (8, .int .i64 s_1.k8), (19, .slice qa0 na0 ca0), (20, .int .i64 (s0.strips.length : Int)), (21, .int .i64 s.t21)]) (fun s_1 l_4 => [kc b_3 #[.int .i64 t24.tenant, .int .i64 t24.lay.lo, .int .i64 t24.lay.hi, .int .i64 t24.seeded.lo, .int .i64 t24.seeded.hi, .int .i64 t24.left.lo, .int .i64 t24.left.hi] 77, kc b_2 #[.slice qa0 na0 ca0, .slice qa1 na1 ca1, .map (some b_1)] 163, (b_1, gobj (kR RPr) kB s_1.t15), kc b #[.slice qa0 na0 ca0, .slice qa1 na1 ca1] 28]) (fun s_1 l_4 => []) () (trivial) (sE Y) (fun w hh => hh) (fun s_1 l_4 r_1 hpl hm h17 => ?_)
     unfold zl at hm
     refine jk (jp (je Y Y (je Y Y ?_)))
     obtain ⟨t30, h18, hm⟩ := bindO hm
     refine yA h18 Y Y Y (jb Y Y Y (fun _ _ => Z1 Y Y) (jo ?_))
     refine jr Y (fun h19 => ?_) (fun h19 => ?_)
     ·replace hm := ifD h19 hm
      refine js (ja (jk ?_))
      obtain ⟨o_2, h20, h21⟩ := bindO hm
      refine jM (ι := Unit) (fun l_5 => True) (fun l_5 => [(1, ptr b 0), (5, ptr b_2 0), (6, .int .i64 s.t21), (7, ptr b_3 0), (8, .int .i64 s_1.k8), (19, .slice qa0 na0 ca0), (20, .int .i64 (s0.strips.length : Int)), (21, .int .i64 s.t21)]) (fun l_5 => [kc b_3 #[.int .i64 t24.tenant, .int .i64 t24.lay.lo, .int .i64 t24.lay.hi, .int .i64 t24.seeded.lo, .int .i64 t24.seeded.hi, .int .i64 t24.left.lo, .int .i64 t24.left.hi] 77, kc b_2 #[.slice qa0 na0 ca0, .slice qa1 na1 ca1, .map (some b_1)] 163, (b_1, gobj (kR RPr) kB o_2), kc b #[.slice qa0 na0 ca0, .slice qa1 na1 ca1] 28]) (fun l_5 => []) ?_ ?_
      ·replace hm := h20
       refine jj (jp (qX [_, _] 3 isAgg28 sizeOf28 Y Y Y Y (je Y Y ?_)))
       obtain ⟨t36, h22, hm⟩ := bindO hm
       refine jd [] [] Y Y Y Y Y Y Y call71 (fun w hh => zU s0 s_1.k8 qa0 na0 ca0 qa1 na1 ca1 w (HV.callee (S0 := []) (vs0 := []) hh (roR hh 0 Y (roR hh 1 Y roN))) hna0 hqa0 hla0 hna1 hqa1 hla1 h22) (fun l_6 h23 => ?_)
       refine jo ?_
       refine jr Y (fun h24 => ?_) (fun h24 => ?_)
       ·replace hm := ifT (h24) hm
        refine j4 none (.free 0 (.free 1 (.free 2 (.hoist 3 (.free 4 (.hoist 5 (.free 6 (.free 7 (.one 8 .done))))))))) (HV _ _ [kc b_3 #[.int .i64 t24.tenant, .int .i64 t24.lay.lo, .int .i64 t24.lay.hi, .int .i64 t24.seeded.lo, .int .i64 t24.seeded.hi, .int .i64 t24.left.lo, .int .i64 t24.left.hi] 77, kc b_2 #[.slice qa0 na0 ca0, .slice qa1 na1 ca1, .map (some b_1)] 163, kc b #[.slice qa0 na0 ca0, .slice qa1 na1 ca1] 28] [] _) Y (by decide +kernel) (fun w k hh => hh.draw k) (hsE [0, 1, 3] [] 0 Y Y Y Y) ?_
        refine kU Y Y Y (jg Y Y Y Y (fun _ _ => jw Y) (qo 2 runUnderlying163 sizeOf161 Y Y Y Y (qW 1 isAgg161 Y Y Y Y Y (qo 0 runUnderlying77 sizeOf3 Y Y Y Y (qW 0 isAgg3 Y Y Y Y Y (kU Y Y Y (jg Y Y Y Y (fun _ _ => jA (vs := [(0, _), (1, _)]) (cells := [_, _]) Y Y) ?_)))))))
        refine jK Y ?_
        obtain ⟨t15, ht15, hm⟩ := bindO hm
        refine ZD (k := (⟨t24.tenant, s_1.k8⟩ : Pair)) (v := true) 2 (fun w => runUnderlying161 w) Q0 Y Y Y Y (Option.some.inj ht15) Y (jv (hsE [0, 1, 3] [] 0 Y Y Y Y) (jN (jt ?_)))
        obtain rfl := sj hm
        exact jn () (trivial) (sE Y) (fun w hh => hh)
       replace hm := ifN h24 hm
       refine js (jt ?_)
       obtain rfl := sj hm
       exact jn () (trivial) (sE Y) (fun w hh => hh)
      intro l_5 hj
      replace hm := h21
      refine ja (jh (je Y Y ?_))
      obtain ⟨t33, h25, hm⟩ := bindO hm
      refine yA h25 Y Y Y (jl Y Y (jx ?_))
      obtain rfl := sj hm
      refine ja ?_
      exact jz _ () Y (trivial) (sE Y) (fun w hh => hh)
     replace hm := ifE h19 hm
     refine jP (ji (ji (jC ?_)))
     obtain rfl := sj hm
     have hbo := h17 _ Y
     subst hbo
     exact jn () (trivial) (sE Y) (fun w hh => hh)
    intro l_3 hj
    replace hm := h16
    refine jt (ja (jh ?_))
    obtain ⟨t45, h26, hm⟩ := bindO hm
    refine yA h26 Y Y Y (je Y Y (jx ?_))
    obtain rfl := sj hm
    refine ja ?_
    exact jz _ () Y (trivial) (sE Y) (hsE [1, 2, 3] [] 0 Y Y Y Y)
   replace hm := ifE h11 hm
   refine jP (ji (ji (jC ?_)))
   obtain rfl := sj hm
   have hbo := h10 _ Y
   subst hbo
   exact jn () (trivial) (sE Y) (fun w hh => hh)
  intro l_1 hj
  replace hm := h9
  refine ja (jp (je Y Y (jl Y Y (jl Y Y (jo (ju ?_))))))
  obtain rfl := sj hm
  refine jm Y (fun w hh => (.tmp Y (.tmp Y .nil))) (fun w hh => ⟨(b_2, b_1), rfl, trivial, hh.se [0, 1] [] 2 Y Y Y rfl⟩)
def Q7 (holds0_f00 : (List Strip)) (holds0_f01 : (List Span)) : Option Unit :=
 some ()
theorem ZB (holds0_f00 : (List Strip)) (holds0_f01 : (List Span)) (rb : Nat) (qa1 : Option Addr) (na1 ca1 : Nat) (qa2 : Option Addr) (na2 ca2 : Nat) (mv : Value) (w : World) (hw : HV w (keys [] []) [] [] [(rb, 0, [.slice qa1 na1 ca1, .slice qa2 na2 ca2, mv]), (aB qa1, aO qa1, RSt.enc holds0_f00), (aB qa2, aO qa2, RSp.enc holds0_f01)] w)  (hna1 : holds0_f00.length = na1) (hqa1 : AOK na1 qa1) (hla1 : na1 ≤ ca1) (hna2 : holds0_f01.length = na2) (hqa2 : AOK na2 qa2) (hla2 : na2 ≤ ca2) {res : Unit} (hm : Q7 holds0_f00 holds0_f01 = some res) :
    Calls Try.prog 73 #[.func (.func 97) #[ptr rb 0] #[]] w (fun en w' => ∃ l : Nat, en = .returned (.agg #[.func (.func 122) #[] #[ptr l 0]]) ∧ (True) ∧ HV w (keys [] []) [kc l #[.func (.func 97) #[ptr rb 0] #[]] 131] [] [] w') := by
  unfold Q7 at hm
  refine kl func73 Y ntmps73 Y (e := [(0, _)]) Y hw (jp ?_)
  refine jF Y Y (fun b h1 => ?_)
  refine jq (fun w => zeroValue123 w) Y (fun b_1 h2 => ?_)
  refine jV (jb Y Y Y (fun _ _ => jE (u := #[]) (u' := #[_]) Y Y) (jb Y Y Y (fun _ _ => jA (vs := [(0, _)]) (cells := [_]) Y Y) (jB (us := #[_]) (cs' := [_]) (S' := [_, _]) 0 (fun w => sizeOf123 w) Y Y Y Y Y Y Y (jo (ju ?_)))))
  obtain rfl := sj hm
  refine jm Y (fun w hh => (.cell Y (loadVar_agg (vs := [_]) (isAgg123 _) (sizeOf123 _) (hh.cells 0 Y Y)) .nil)) (fun w hh => ⟨b, rfl, trivial, hh.se [1] [] 3 Y Y Y rfl⟩)
def Jj (d00 : (List Strip)) (d01 : (List Span)) : Option Unit :=
 (Q7 d00 d01).bind fun t5 =>
 some ()
theorem K0 (d00 : (List Strip)) (d01 : (List Span)) (rb : Nat) (qa1 : Option Addr) (na1 ca1 : Nat) (qa2 : Option Addr) (na2 ca2 : Nat) (mv : Value) (w : World) (hw : HV w (keys [] []) [] [] [(rb, 0, [.slice qa1 na1 ca1, .slice qa2 na2 ca2, mv]), (aB qa1, aO qa1, RSt.enc d00), (aB qa2, aO qa2, RSp.enc d01)] w)  (hna1 : d00.length = na1) (hqa1 : AOK na1 qa1) (hla1 : na1 ≤ ca1) (hna2 : d01.length = na2) (hqa2 : AOK na2 qa2) (hla2 : na2 ≤ ca2) {res : Unit} (hm : Jj d00 d01 = some res) :
    Calls Try.prog 67 #[ptr rb 0] w (fun en w' => ∃ l : Nat, en = .returned (.agg #[.func (.func 122) #[] #[ptr l 0]]) ∧ (True) ∧ HV w (keys [] []) [kc l #[.func (.func 97) #[ptr rb 0] #[]] 131] [] [] w') := by
  unfold Jj at hm
  refine kl func67 Y ntmps67 Y (e := [(0, _)]) Y hw (jp ?_)
  refine jq (fun w => zeroValue123 w) Y (fun b h1 => ?_)
  refine jV (je Y Y (jb Y Y Y (fun _ _ => jE (u := #[_]) (u' := #[]) Y Y) ?_))
  obtain ⟨t5, h2, hm⟩ := bindO hm
  refine jd [] [] Y Y Y Y Y Y Y call73 (fun w hh => ZB d00 d01 rb qa1 na1 ca1 qa2 na2 ca2 mv w (HV.callee (S0 := []) (vs0 := []) hh (roR hh 0 Y (roR hh 1 Y (roR hh 2 Y roN)))) hna1 hqa1 hla1 hna2 hqa2 hla2 h2) (fun l h3 => ?_)
  refine jH (S' := [_, _]) (vs' := []) [0, 1] [] 0 Y Y Y Y (jB (us := #[_]) (cs' := [_]) (S' := [_, _]) 1 (fun w => sizeOf123 w) Y Y Y Y Y Y Y (jo (ju ?_)))
  obtain rfl := sj hm
  refine jm Y (fun w hh => (.cell Y (loadVar_agg (vs := [_]) (isAgg123 _) (sizeOf123 _) (hh.cells 1 Y Y)) .nil)) (fun w hh => ⟨l, rfl, trivial, hh.se [0] [] 3 Y Y Y rfl⟩)
def Je (d00 : (List Strip)) (d01 : (List Span)) (p1 : Pair) : Option Bool :=
 (ix d00 p1.strip).bind fun t12 =>
 some (!decide (t12.tenant = p1.tenant))
theorem QT (d00 : (List Strip)) (d01 : (List Span)) (p1 : Pair) (rb : Nat) (qa1 : Option Addr) (na1 ca1 : Nat) (qa2 : Option Addr) (na2 ca2 : Nat) (mv : Value) (w : World) (hw : HV w (keys [] []) [] [] [(rb, 0, [.slice qa1 na1 ca1, .slice qa2 na2 ca2, mv]), (aB qa1, aO qa1, RSt.enc d00), (aB qa2, aO qa2, RSp.enc d01)] w)  (hna1 : d00.length = na1) (hqa1 : AOK na1 qa1) (hla1 : na1 ≤ ca1) (hna2 : d01.length = na2) (hqa2 : AOK na2 qa2) (hla2 : na2 ≤ ca2) {res : Bool} (hm : Je d00 d01 p1 = some res) :
    Calls Try.prog 97 #[ptr rb 0, .agg #[.int .i64 p1.tenant, .int .i64 p1.strip]] w (fun en w' => ∃ l : Unit, en = .returned (.bool res) ∧ (True) ∧ HV w (keys [] []) [] [] [] w') := by
  unfold Je at hm
  refine kl func97 Y ntmps97 Y (e := [(0, _), (1, _)]) Y hw (jp ?_)
  refine jF Y Y (fun b h1 => ?_)
  refine jl Y Y (jo (jk ?_))
  refine j4 none (.free 0 (.free 1 (.free 2 (.free 3 (.hoist 4 (.free 5 (.hoist 6 (.free 7 (.free 8 (.hoist 9 (.free 10 (.hoist 11 (.free 12 (.free 13 .done)))))))))))))) _ Y (by decide +kernel) (fun w k hh => hh.draw k) (fun w hh => hh) ?_
  refine kU Y Y Y (jg Y Y Y Y (fun _ _ => jw Y) (qo 0 runUnderlying163 sizeOf28 Y Y Y Y (qo 0 runUnderlying28 sizeOf25 Y Y Y Y (jG Y Y Y Y (fun w hh => jQ (isAgg25 w) Y (segCell (hh.seg 0 Y) 0 Y)) (qo 1 runUnderlying128 sizeOf3 Y Y Y Y (qW 0 isAgg3 Y Y Y Y Y ?_))))))
  obtain ⟨t12, h2, hm⟩ := bindO hm
  refine jg Y Y Y Y (fun w _ => q7 h2 (runUnderlying25 w) (sizeOf77 w) Y Y hna1 hqa1) (qo 0 runUnderlying77 sizeOf3 Y Y Y Y (jG Y Y Y Y (fun w hh => qx RSt 0 h2 (isAgg3 w) Y (hh.seg 1 Y) Y Y) (qo 0 runUnderlying128 sizeOf3 Y Y Y Y (qW 0 isAgg3 Y Y Y Y Y (jg Y Y Y Y (fun _ _ => q5 Y Y) (jg Y Y Y Y (fun _ _ => jU Y) (jN ?_)))))))
  refine ja (ju ?_)
  obtain rfl := sj hm
  refine jm Y (fun w hh => (.tmp Y .nil)) (fun w hh => ⟨(), rfl, trivial, hh.se [] [] 3 Y Y Y rfl⟩)
def jI (p0 : Pair) (a11_f00 : (List Strip)) (a11_f01 : (List Span)) : Option Int :=
 (Je a11_f00 a11_f01 p0).bind fun t6 =>
 if t6 = true then
 (some 1) else
 (some 0)
theorem zy (p0 : Pair) (a11_f00 : (List Strip)) (a11_f01 : (List Span)) (rb : Nat) (rb_1 : Nat) (qa2 : Option Addr) (na2 ca2 : Nat) (qa3 : Option Addr) (na3 ca3 : Nat) (mv : Value) (w : World) (hw : HV w (keys [] []) [] [] [(rb, 0, [.func (.func 97) #[ptr rb_1 0] #[]]), (rb_1, 0, [.slice qa2 na2 ca2, .slice qa3 na3 ca3, mv]), (aB qa2, aO qa2, RSt.enc a11_f00), (aB qa3, aO qa3, RSp.enc a11_f01)] w)   (hna2 : a11_f00.length = na2) (hqa2 : AOK na2 qa2) (hla2 : na2 ≤ ca2) (hna3 : a11_f01.length = na3) (hqa3 : AOK na3 qa3) (hla3 : na3 ≤ ca3) {res : Int} (hm : jI p0 a11_f00 a11_f01 = some res) :
    Calls Try.prog 122 #[.agg #[.int .i64 p0.tenant, .int .i64 p0.strip], ptr rb 0] w (fun en w' => ∃ l : Unit, en = .returned (.int .i64 res) ∧ (True) ∧ HV w (keys [] []) [] [] [] w') := by
  unfold jI at hm
  refine kl func122 Y ntmps122 Y (e := [(0, _), (1, _)]) Y hw (jp ?_)
  refine jF Y Y (fun b h1 => ?_)
  refine jl Y Y (jo (jk (jp (jb Y Y Y (fun w hh => jQ (isAgg131 w) Y (segCell (hh.seg 0 Y) 0 Y)) (qX [_, _] 0 isAgg128 sizeOf128 Y Y Y Y ?_)))))
  obtain ⟨t6, h2, hm⟩ := bindO hm
  refine jd [] [] Y Y Y Y Y Y Y call97 (fun w hh => QT a11_f00 a11_f01 p0 rb_1 qa2 na2 ca2 qa3 na3 ca3 mv w (HV.callee (S0 := []) (vs0 := []) hh (roR hh 1 Y (roR hh 2 Y (roR hh 3 Y roN)))) hna2 hqa2 hla2 hna3 hqa3 hla3 h2) (fun l h3 => ?_)
  refine jo ?_
  refine jr Y (fun h4 => ?_) (fun h4 => ?_)
  ·replace hm := ifT (h4) hm
   refine jp (jl Y Y (jo (ju (jf ?_))))
   obtain rfl := sj hm
   refine jm Y (fun w hh => (.tmp Y .nil)) (fun w hh => ⟨(), rfl, trivial, hh.se [] [] 4 Y Y Y rfl⟩)
  replace hm := ifN h4 hm
  refine js (ja (jp (jl Y Y (jo (ju ?_)))))
  obtain rfl := sj hm
  refine jm Y (fun w hh => (.tmp Y .nil)) (fun w hh => ⟨(), rfl, trivial, hh.se [] [] 4 Y Y Y rfl⟩)
def JS (d00 : (List Strip)) (d01 : (List Span)) (tenant1 : Int) : Option Int :=
 some tenant1
theorem QX (d00 : (List Strip)) (d01 : (List Span)) (tenant1 : Int) (rb : Nat) (qa1 : Option Addr) (na1 ca1 : Nat) (qa2 : Option Addr) (na2 ca2 : Nat) (mv : Value) (w : World) (hw : HV w (keys [] []) [] [] [(rb, 0, [.slice qa1 na1 ca1, .slice qa2 na2 ca2, mv]), (aB qa1, aO qa1, RSt.enc d00), (aB qa2, aO qa2, RSp.enc d01)] w)  (hna1 : d00.length = na1) (hqa1 : AOK na1 qa1) (hla1 : na1 ≤ ca1) (hna2 : d01.length = na2) (hqa2 : AOK na2 qa2) (hla2 : na2 ≤ ca2) {res : Int} (hm : JS d00 d01 tenant1 = some res) :
    Calls Try.prog 100 #[ptr rb 0, .int .i64 tenant1] w (fun en w' => ∃ l : Nat × Nat, en = .returned (.func (.func 134) #[] #[ptr l.1 0, ptr l.2 0]) ∧ (True) ∧ HV w (keys [] []) [kc l.1 #[ptr rb 0] 115, kc l.2 #[.int .i64 res] 3] [] [] w') := by
  unfold JS at hm
  refine kl func100 Y ntmps100 Y (e := [(0, _), (1, _)]) Y hw (jp ?_)
  refine jF Y Y (fun b h1 => ?_)
  refine jF Y Y (fun b_1 h2 => ?_)
  refine jl Y Y (jV (jb Y Y Y (fun _ _ => jE (u := #[]) (u' := #[_, _]) Y Y) (jl Y Y (jo (ju ?_)))))
  obtain rfl := sj hm
  refine jm Y (fun w hh => (.tmp Y .nil)) (fun w hh => ⟨(b, b_1), rfl, trivial, hh.se [1, 0] [] 3 Y Y Y rfl⟩)
structure zC where
  t19 : Int
  t12 : (List Wy)
def qP (d00 : (List Strip)) (s : zC) : Option (zC ⊕ (List Wy)) :=
 if s.t19 < (d00.length : Int) then
 ((ix d00 s.t19).bind fun t22 =>
 (addc 1 s.t19).bind fun t30 =>
 (kb (⟨t22.tenant, (⟨t22.lay.lo, t22.lay.hi⟩ : Span), (⟨t22.seeded.lo, t22.seeded.hi⟩ : Span), (⟨t22.left.lo, t22.left.hi⟩ : Span)⟩ : Strip)).bind fun t32 =>
 (kb (⟨t22.tenant, (⟨t22.lay.lo, t22.lay.hi⟩ : Span), (⟨t22.seeded.lo, t22.seeded.hi⟩ : Span), (⟨t22.left.lo, t22.left.hi⟩ : Span)⟩ : Strip)).bind fun t35 =>
 (appc 48 s.t12 [(⟨0, t30, t32.lo, t35.hi, 0, 0⟩ : Wy)]).bind fun t39 =>
 (addc s.t19 1).bind fun t42 =>
 some (.inl (⟨t42, t39⟩ : zC))) else
 (some (.inr s.t12))
structure yG where
  t49 : Int
  t12 : (List Wy)
def yH (s_1 : yG) (c1_0 : (Pair → Option Int)) (x : Int) (s_2 : (List Wy)) : Option (List Wy) :=
 (addc 1 x).bind fun t64 =>
 (addc 7 s_1.t49).bind fun t66 =>
 (c1_0 (⟨s_1.t49, x⟩ : Pair)).bind fun t72 =>
 (appc 48 s_2 [(⟨t64, t66, 0, 1000000, t72, 0⟩ : Wy)]).bind fun t75 =>
 some t75
def qI (d01 : (List Span)) (d00 : (List Strip)) (c1_0 : (Pair → Option Int)) (d02 : (List (Pair × Bool))) (s_1 : yG) : Option (yG ⊕ (List Wy)) :=
 if s_1.t49 < (d01.length : Int) then
 ((ix d01 s_1.t49).bind fun t52 =>
 (JS d00 d01 s_1.t49).bind fun t56 =>
 if (d00.length : Int) ≤ 1000000 then ((iterL (yH s_1 c1_0) (reachL d00.length d02 t56) s_1.t12).bind fun o_2 =>
 (addc 7 s_1.t49).bind fun t84 =>
 (appc 48 o_2 [(⟨t84, 0, t52.lo, t52.hi, 0, 0⟩ : Wy)]).bind fun t91 =>
 (addc s_1.t49 1).bind fun t94 =>
 some (.inl (⟨t94, t91⟩ : yG))) else none) else
 (some (.inr s_1.t12))
def Jq (d00 : (List Strip)) (d01 : (List Span)) (d02 : (List (Pair × Bool))) (c1_0 : (Pair → Option Int)) : Option (List Wy) :=
 (iterM FU (qP d00) (⟨0, []⟩ : zC)).bind fun o =>
 (iterM FU (qI d01 d00 c1_0 d02) (⟨0, o⟩ : yG)).bind fun o_1 =>
 some o_1
theorem YL (d00 : (List Strip)) (d01 : (List Span)) (d02 : (List (Pair × Bool))) (c1_0 : (Pair → Option Int)) (rb : Nat) (qa1 : Option Addr) (na1 ca1 : Nat) (qa2 : Option Addr) (na2 ca2 : Nat) (pb : Nat) (f_c1_0 : FuncId) (fs_c1_0 cs_c1_0 : Array Value) (T_c1_0 : List Sg) (w : World) (hw : HV w (keys [(pb, gobj (kR RPr) kB d02)] []) [(pb, gobj (kR RPr) kB d02)] [] ([(rb, 0, [.slice qa1 na1 ca1, .slice qa2 na2 ca2, .map (some pb)]), (aB qa1, aO qa1, RSt.enc d00), (aB qa2, aO qa2, RSp.enc d01)] ++ T_c1_0) w)  (hna1 : d00.length = na1) (hqa1 : AOK na1 qa1) (hla1 : na1 ≤ ca1) (hna2 : d01.length = na2) (hqa2 : AOK na2 qa2) (hla2 : na2 ≤ ca2) (hcl_c1_0 : ClOK Try.prog f_c1_0 fs_c1_0 cs_c1_0 T_c1_0 (fun x : Pair => [.agg #[.int .i64 x.tenant, .int .i64 x.strip]]) (fun x : Int => .int .i64 x) c1_0) {res : (List Wy)} (hm : Jq d00 d01 d02 c1_0 = some res) :
    Calls Try.prog 116 #[ptr rb 0, .agg #[.func (.func f_c1_0) fs_c1_0 cs_c1_0]] w (fun en w' => ∃ l : Nat × VL, en = .returned (ptr l.1 0) ∧ (VOK 6 l.2.n l.2.cap (RWay.enc res) l.2.sp l.2.q) ∧ HV w (keys [(pb, gobj (kR RPr) kB d02)] []) [(pb, gobj (kR RPr) kB d02), kc l.1 #[sL l.2] 168] [vL 170 l.2 (RWay.enc res)] [] w') := by
  unfold Jq at hm
  refine YR (args := [ptr rb 0, .agg #[.func (.func f_c1_0) fs_c1_0 cs_c1_0]]) func116 Y ntmps116 Y (e := [(0, _), (1, _)]) Y (H := HV w (keys [(pb, gobj (kR RPr) kB d02)] []) [(pb, gobj (kR RPr) kB d02)] [] ([(rb, 0, [.slice qa1 na1 ca1, .slice qa2 na2 ca2, .map (some pb)]), (aB qa1, aO qa1, RSt.enc d00), (aB qa2, aO qa2, RSp.enc d01)] ++ T_c1_0)) hw ?_
  refine Yy (jp ?_)
  refine jF Y Y (fun b h2 => ?_)
  refine jl Y Y (jV (jb Y Y Y (fun _ _ => jA (vs := []) (cells := [_]) Y Y) ?_))
  refine jF Y Y (fun b_1 h3 => ?_)
  refine jq (fun w => zeroValue118 w) Y (fun b_2 h4 => ?_)
  refine yo (cs' := #[_]) (S' := [_, _, _, _]) 0 (fun w => sizeOf118 w) Y Y Y Y Y Y Y (jo (jk (jp (je Y Y (jb Y Y Y (fun _ _ => jw Y) (j7 0 runUnderlying163 Y sizeOf28 Y Y (j7 0 runUnderlying28 Y sizeOf25 Y Y ?_)))))))
  refine jb Y Y Y (fun w hh => jQ (isAgg25 w) Y (segCell (hh.seg 0 Y) 0 Y)) (jb Y Y Y (fun w _ => jR hna1 (runUnderlying25 w) Y) (je Y Y (jo (kG 170 ?_))))
  obtain ⟨o, h5, h6⟩ := bindO hm
  refine QY (ι := VL) (fun l => mks []) (fun l => VOK 6 l.n l.cap (RWay.enc o) l.sp l.q) (fun l => [(0, ptr rb 0), (3, ptr b 0), (5, ptr b_2 0)]) (fun l => [kc b_2 #[ptr b_1 0] 118, kc b_1 #[sL l] 168, kc b #[.func (.func f_c1_0) fs_c1_0 cs_c1_0] 123, (pb, gobj (kR RPr) kB d02)]) (fun l => [vL 170 l (RWay.enc o), mkV []]) ?_ ?_
  ·replace hm := h5
   refine jj ?_
   refine Qq (ι := VL) hm (fun s l_1 => mks []) (fun s l_1 => VOK 6 l_1.n l_1.cap (RWay.enc s.t12) l_1.sp l_1.q) (fun s l_1 => [(0, ptr rb 0), (3, ptr b 0), (5, ptr b_2 0), (17, .slice qa1 na1 ca1), (18, .int .i64 (d00.length : Int)), (19, .int .i64 s.t19)]) (fun s l_1 => [kc b_2 #[ptr b_1 0] 118, kc b_1 #[sL l_1] 168, kc b #[.func (.func f_c1_0) fs_c1_0 cs_c1_0] 123, (pb, gobj (kR RPr) kB d02)]) (fun s l_1 => [vL 170 l_1 (RWay.enc s.t12), mkV []]) ⟨none, 0, 0, []⟩ Y (VOK.nil) (sE Y) (fun w hh => hh) (fun s l_1 r hpl hm h9 => ?_)
   have h8 := hpl
   unfold qP at hm
   refine jp (zK Y Y Y (jo (jk ?_)))
   refine jr Y (fun h10 => ?_) (fun h10 => ?_)
   ·replace hm := ifD h10 hm
    refine js (ja (jk (jj (jp (je Y Y ?_)))))
    obtain ⟨t22, h11, hm⟩ := bindO hm
    refine jb Y Y Y (fun w _ => q7 h11 (runUnderlying25 w) (sizeOf77 w) Y Y hna1 hqa1) ?_
    refine jb Y Y Y (fun w hh => kT RSt 0 [.int .i64 t22.tenant, .int .i64 t22.lay.lo, .int .i64 t22.lay.hi, .int .i64 t22.seeded.lo, .int .i64 t22.seeded.hi, .int .i64 t22.left.lo, .int .i64 t22.left.hi] h11 (isAgg77 w) (sizeOf77 w) Y (hh.seg 1 Y) Y (Nat.add_zero _).symm) ?_
    refine jq (fun w => zeroValue77 w) Y (fun b_3 h12 => ?_)
    refine jl Y Y (jB (us := #[_, _, _, _, _, _, _]) (cs' := [_, _, _, _, _, _, _]) (S' := [_, _, _, _, _]) 0 (fun w => sizeOf77 w) Y Y Y Y Y Y Y (jo ?_))
    refine j4 (some 18) (.hoist 0 (.hoist 1 (.free 2 (.free 3 (.hoist 4 (.free 5 (.free 6 (.hoist 7 (.hoist 10 (.one 8 (.free 9 (.one 11 (.free 12 (.free 13 (.one 14 (.one 15 (.free 16 (.free 17 (.last 18 .done))))))))))))))))))) (HV _ _ [kc b_3 #[.int .i64 t22.tenant, .int .i64 t22.lay.lo, .int .i64 t22.lay.hi, .int .i64 t22.seeded.lo, .int .i64 t22.seeded.hi, .int .i64 t22.left.lo, .int .i64 t22.left.hi] 77, kc b_2 #[ptr b_1 0] 118, kc b_1 #[sL l_1] 168, kc b #[.func (.func f_c1_0) fs_c1_0 cs_c1_0] 123, (pb, gobj (kR RPr) kB d02)] [mkV []] _) Y (by decide +kernel) (fun w k hh => hh.draw k) (hsE [0, 1, 2, 3, 4] [1] 0 Y Y Y Y) ?_
    refine qW 1 isAgg118 Y Y Y Y Y (qW 1 isAgg118 Y Y Y Y Y (jg Y Y Y Y (fun _ _ => jw Y) (qo 0 runUnderlying168 sizeOf166 Y Y Y Y (qW 2 isAgg166 Y Y Y Y Y (kU Y Y Y ?_)))))
    obtain ⟨t30, h13, hm⟩ := bindO hm
    refine jg Y Y Y Y (fun _ _ => KL h13 Y Y) (jG Y Y Y Y (fun w hh => zb (vs := [_, _, _, _, _, _, _]) (isAgg77 w) (sizeOf77 w) Y (hh.cells 0 Y Y)) (jG Y Y Y Y (fun w hh => zb (vs := [_, _, _, _, _, _, _]) (isAgg77 w) (sizeOf77 w) Y (hh.cells 0 Y Y)) (jK Y ?_)))
    obtain ⟨t32, h14, hm⟩ := bindO hm
    refine jd [] [] Y Y Y Y Y Y Y call64 (fun w hh => qM (⟨t22.tenant, (⟨t22.lay.lo, t22.lay.hi⟩ : Span), (⟨t22.seeded.lo, t22.seeded.hi⟩ : Span), (⟨t22.left.lo, t22.left.hi⟩ : Span)⟩ : Strip) w (HV.callee (S0 := []) (vs0 := []) hh roN)  h14) (fun l_2 h15 => ?_)
    refine jv (hsE [0, 1, 2, 3, 4] [1] 0 Y Y Y Y) (jg Y Y Y Y (fun w _ => Yi 3 0 (runUnderlying37 w) Y (isAgg3 w) Y Y) (jK Y ?_))
    obtain ⟨t35, h16, hm⟩ := bindO hm
    refine jd [] [] Y Y Y Y Y Y Y call64 (fun w hh => qM (⟨t22.tenant, (⟨t22.lay.lo, t22.lay.hi⟩ : Span), (⟨t22.seeded.lo, t22.seeded.hi⟩ : Span), (⟨t22.left.lo, t22.left.hi⟩ : Span)⟩ : Strip) w (HV.callee (S0 := []) (vs0 := []) hh roN)  h16) (fun l_3 h17 => ?_)
    refine jv (hsE [0, 1, 2, 3, 4] [1] 0 Y Y Y Y) (jg Y Y Y Y (fun w _ => Yi 3 1 (runUnderlying37 w) Y (isAgg3 w) Y Y) (jg Y Y Y Y (fun _ _ => jA (vs := [(0, _), (1, _), (2, _), (3, _)]) (cells := [_, _, _, _, _, _]) Y Y) (jK Y ?_)))
    refine kS RWay [(⟨0, t30, t32.lo, t35.hi, 0, 0⟩ : Wy)] (ps := [(0, _)]) (cells := [_, _, _, _, _, _]) (fun w => runUnderlying166 w) (fun w => sizeOf170 w) (fun w => zeroValue170 w) Y Y Y Y Y Y Y Y (fun L h18 => ?_)
    refine jv (hsE [0, 1, 2, 3, 4] [2] 0 Y Y Y Y) (jK Y ?_)
    obtain ⟨t39, h19, hm⟩ := bindO hm
    refine yT RWay 1 h19 underlying166 Q9 Y Y Y Y Y h8 Y Y (vlen RWay h18 Y) (AOK.q (vne h18)) (fun w hh => (hh.vsegA 0 Y h18)) Y (fun L_1 h20 h20n => ?_)
    refine jH (S' := [_, _, _, _, _]) (vs' := [_, _, _]) [0, 1, 2, 3, 4] [0, 1, 2] 0 Y Y Y Y (jv (hsE [0, 1, 2, 3, 4] [2] 0 Y Y Y Y) (jg Y Y Y Y (fun _ _ => jw Y) (qo 0 runUnderlying168 sizeOf166 Y Y Y Y (Ko Y (yo (cs' := #[_]) (S' := [_, _, _, _, _]) 2 (fun w => sizeOf166 w) Y Y Y Y Y Y Y (Jp (jN ?_)))))))
    refine jt (ja (jh ?_))
    obtain ⟨t42, h21, hm⟩ := bindO hm
    refine yA h21 Y Y Y (je Y Y (jx ?_))
    obtain rfl := sj hm
    refine ja ?_
    exact KY _ L_1 Y Y (h20) (sE Y) (hsE [1, 2, 3, 4] [1, 2] 0 Y Y Y Y)
   replace hm := ifE h10 hm
   refine jP (ji (ji (jC ?_)))
   obtain rfl := sj hm
   have hbo := h9 _ Y
   subst hbo
   exact Kp l_1 Y (h8) (sE Y) (fun w hh => hh)
  intro l hj
  have h7 := hj
  replace hm := h6
  refine ja (jk (jp (je Y Y (jb Y Y Y (fun _ _ => jw Y) (j7 0 runUnderlying163 Y sizeOf28 Y Y (j7 1 runUnderlying28 Y sizeOf26 Y Y (jb Y Y Y (fun w hh => jQ (isAgg26 w) Y (segCell (hh.seg 0 Y) 1 Y)) ?_)))))))
  refine jb Y Y Y (fun w _ => jR hna2 (runUnderlying26 w) Y) (je Y Y (jo ?_))
  obtain ⟨o_1, h22, h23⟩ := bindO hm
  refine QY (ι := VL × List Nat) (fun l_4 => mks l_4.2) (fun l_4 => VOK 6 l_4.1.n l_4.1.cap (RWay.enc o_1) l_4.1.sp l_4.1.q) (fun l_4 => [(5, ptr b_2 0)]) (fun l_4 => [kc b_2 #[ptr b_1 0] 118, kc b_1 #[sL l_4.1] 168, kc b #[.func (.func f_c1_0) fs_c1_0 cs_c1_0] 123, (pb, gobj (kR RPr) kB d02)]) (fun l_4 => [vL 170 l_4.1 (RWay.enc o_1), mkV l_4.2]) ?_ ?_
  ·replace hm := h22
   refine jj ?_
   refine Qq (ι := VL × List Nat) hm (fun s_1 l_5 => mks l_5.2) (fun s_1 l_5 => VOK 6 l_5.1.n l_5.1.cap (RWay.enc s_1.t12) l_5.1.sp l_5.1.q) (fun s_1 l_5 => [(0, ptr rb 0), (3, ptr b 0), (5, ptr b_2 0), (47, .slice qa2 na2 ca2), (48, .int .i64 (d01.length : Int)), (49, .int .i64 s_1.t49)]) (fun s_1 l_5 => [kc b_2 #[ptr b_1 0] 118, kc b_1 #[sL l_5.1] 168, kc b #[.func (.func f_c1_0) fs_c1_0 cs_c1_0] 123, (pb, gobj (kR RPr) kB d02)]) (fun s_1 l_5 => [vL 170 l_5.1 (RWay.enc s_1.t12), mkV l_5.2]) (l, []) Y (h7) (sE Y) (fun w hh => hh) (fun s_1 l_5 r_1 hpl hm h26 => ?_)
   have h25 := hpl
   unfold qI at hm
   refine jp (zK Y Y Y (jo (jk ?_)))
   refine jr Y (fun h27 => ?_) (fun h27 => ?_)
   ·replace hm := ifD h27 hm
    refine js (ja (jk (jj (jp (je Y Y ?_)))))
    obtain ⟨t52, h28, hm⟩ := bindO hm
    refine jb Y Y Y (fun w _ => q7 h28 (runUnderlying26 w) (sizeOf37 w) Y Y hna2 hqa2) ?_
    refine jb Y Y Y (fun w hh => kT RSp 0 [.int .i64 t52.lo, .int .i64 t52.hi] h28 (isAgg37 w) (sizeOf37 w) Y (hh.seg 2 Y) Y (Nat.add_zero _).symm) ?_
    refine jq (fun w => zeroValue3 w) Y (fun b_4 h29 => ?_)
    refine jq (fun w => zeroValue37 w) Y (fun b_5 h30 => ?_)
    refine yo (cs' := #[_]) (S' := [_, _, _, _, _, _]) 1 (fun w => sizeOf3 w) Y Y Y Y Y Y Y (jB (us := #[_, _]) (cs' := [_, _]) (S' := [_, _, _, _, _, _]) 0 (fun w => sizeOf37 w) Y Y Y Y Y Y Y (jo (jk (jp (je Y Y (kx 1 isAgg3 Y Y Y Y ?_))))))
    obtain ⟨t56, h31, hm⟩ := bindO hm
    refine jd [] [] Y Y Y Y Y Y Y call100 (fun w hh => QX d00 d01 s_1.t49 rb qa1 na1 ca1 qa2 na2 ca2 (.map (some pb)) w (HV.callee (S0 := []) (vs0 := []) hh (roR hh 0 Y (roR hh 1 Y (roR hh 2 Y roN)))) hna1 hqa1 hla1 hna2 hqa2 hla2 h31) (fun l_6 h32 => ?_)
    refine jH (S' := [_, _, _, _, _, _, _, _]) (vs' := [_, _]) [0, 1, 2, 3, 4, 5, 6, 7] [0, 1] 0 Y Y Y Y (jo (jj ?_))
    obtain ⟨h33, hm⟩ := ifO hm
    refine Zf (e' := [(0, ptr rb 0), (3, ptr b 0), (5, ptr b_2 0), (8, ptr b_4 0), (9, ptr b_5 0), (47, .slice qa2 na2 ca2), (48, .int .i64 (d01.length : Int)), (49, .int .i64 s_1.t49), (56, .func (.func 134) #[] #[ptr l_6.1 0, ptr l_6.2 0])]) (sE Y) ?_
    obtain ⟨o_2, h34, hm⟩ := bindO hm
    refine Zs (ι := VL) (reachL d00.length d02 t56) (fun x => .int .i64 x) h34 (fun s_2 l_7 => VOK 6 l_7.n l_7.cap (RWay.enc s_2) l_7.sp l_7.q) (fun s_2 l_7 => [kc l_6.1 #[ptr rb 0] 115, kc l_6.2 #[.int .i64 t56] 3, kc b_5 #[.int .i64 t52.lo, .int .i64 t52.hi] 37, kc b_4 #[.int .i64 s_1.t49] 3, kc b_2 #[ptr b_1 0] 118, kc b_1 #[sL l_7] 168, kc b #[.func (.func f_c1_0) fs_c1_0 cs_c1_0] 123, (pb, gobj (kR RPr) kB d02)]) (fun s_2 l_7 => [vL 170 l_7 (RWay.enc s_2), mkV l_5.2]) l_5.1 (h25) (fun w hh => hh) (RdReach l_6.1 l_6.2 rb pb t56 qa1 na1 ca1 d02) (fun s_2 l_7 w h35 hh => ⟨hh.cell 0 Y rfl, hh.cell 1 Y rfl, segCell (hh.seg 0 Y) 0 rfl, segCell (hh.seg 0 Y) 2 rfl, hh.get 7 rfl⟩) (it_reach _ _ _ l_6.1 l_6.2 rb pb t56 qa1 na1 ca1 d00 d02 hna1 h33) Y call134 Y (e1 := fun x => (10, .int .i64 x) :: (57, .int .i64 x) :: [(0, ptr rb 0), (3, ptr b 0), (5, ptr b_2 0), (8, ptr b_4 0), (9, ptr b_5 0), (47, .slice qa2 na2 ca2), (48, .int .i64 (d01.length : Int)), (49, .int .i64 s_1.t49), (56, .func (.func 134) #[] #[ptr l_6.1 0, ptr l_6.2 0])]) (fun x lr H X hX => ?_) (fun x s_2 r_2 l_7 lr w1 h35 hm => ?_) (fun l_7 D h35 => ?_)
    ·refine jh ?_
     refine jl Y Y (jo ?_)
     exact hX
    ·have h36 := h35
     unfold yH at hm
     refine jj ?_
     refine j4 (some 20) (.hoist 0 (.hoist 1 (.free 2 (.free 3 (.hoist 4 (.free 5 (.free 6 (.hoist 7 (.free 8 (.free 9 (.hoist 10 (.hoist 11 (.free 12 (.free 13 (.one 14 (.free 15 (.one 16 (.one 17 (.free 18 (.free 19 (.last 20 .done))))))))))))))))))))) (HV _ _ [kc l_6.1 #[ptr rb 0] 115, kc l_6.2 #[.int .i64 t56] 3, kc b_5 #[.int .i64 t52.lo, .int .i64 t52.hi] 37, kc b_4 #[.int .i64 s_1.t49] 3, kc b_2 #[ptr b_1 0] 118, kc b_1 #[sL l_7] 168, kc b #[.func (.func f_c1_0) fs_c1_0 cs_c1_0] 123, (pb, gobj (kR RPr) kB d02)] [mkV l_5.2] _) Y (by decide +kernel) (fun w k hh => hh.draw k) (hsE [0, 1, 2, 3, 4, 5, 6, 7] [1] 0 Y Y Y Y) ?_
     refine qW 4 isAgg118 Y Y Y Y Y (qW 4 isAgg118 Y Y Y Y Y (jg Y Y Y Y (fun _ _ => jw Y) (qo 0 runUnderlying168 sizeOf166 Y Y Y Y (qW 5 isAgg166 Y Y Y Y Y (kU Y Y Y ?_)))))
     obtain ⟨t64, h39, hm⟩ := bindO hm
     refine jg Y Y Y Y (fun _ _ => KL h39 Y Y) (qW 3 isAgg3 Y Y Y Y Y ?_)
     obtain ⟨t66, h40, hm⟩ := bindO hm
     refine jg Y Y Y Y (fun _ _ => KL h40 Y Y) (qo 0 runUnderlying123 sizeOf121 Y Y Y Y (qW 6 isAgg121 Y Y Y Y Y (qW 3 isAgg3 Y Y Y Y Y (kU Y Y Y (jg Y Y Y Y (fun _ _ => jA (vs := [(0, _), (1, _)]) (cells := [_, _]) Y Y) (jK Y ?_))))))
     obtain ⟨t72, h41, hm⟩ := bindO hm
     refine Q5 hcl_c1_0 (fun t ht => (List.mem_cons_of_mem _ (List.mem_cons_of_mem _ (List.mem_cons_of_mem _ ht)))) h41 Y Y Y Y Y Y (jv (hsE [0, 1, 2, 3, 4, 5, 6, 7] [1] 0 Y Y Y Y) (jg Y Y Y Y (fun _ _ => jA (vs := [(0, _), (1, _), (3, _), (4, _)]) (cells := [_, _, _, _, _, _]) Y Y) (jK Y ?_)))
     refine kS RWay [(⟨t64, t66, 0, 1000000, t72, 0⟩ : Wy)] (ps := [(0, _)]) (cells := [_, _, _, _, _, _]) (fun w => runUnderlying166 w) (fun w => sizeOf170 w) (fun w => zeroValue170 w) Y Y Y Y Y Y Y Y (fun L_2 h42 => ?_)
     refine jv (hsE [0, 1, 2, 3, 4, 5, 6, 7] [2] 0 Y Y Y Y) (jK Y ?_)
     obtain ⟨t75, h43, hm⟩ := bindO hm
     refine yT RWay 1 h43 underlying166 Q9 Y Y Y Y Y h36 Y Y (vlen RWay h42 Y) (AOK.q (vne h42)) (fun w hh => (hh.vsegA 0 Y h42)) Y (fun L_3 h44 h44n => ?_)
     refine jH (S' := [_, _, _, _, _, _, _, _]) (vs' := [_, _, _]) [0, 1, 2, 3, 4, 5, 6, 7] [0, 1, 2] 0 Y Y Y Y (jv (hsE [0, 1, 2, 3, 4, 5, 6, 7] [2] 0 Y Y Y Y) (jg Y Y Y Y (fun _ _ => jw Y) (qo 0 runUnderlying168 sizeOf166 Y Y Y Y (Ko Y (yo (cs' := #[_]) (S' := [_, _, _, _, _, _, _, _]) 5 (fun w => sizeOf166 w) Y Y Y Y Y Y Y (Jp (jN ?_)))))))
     refine jt ?_
     obtain rfl := sj hm
     exact Z9 t75 L_3 Y (h44) (fun w hh => hh.selN [0, 1, 2, 3, 4, 5, 6, 7] [1, 2] (by decide) (by decide) Y Y)
    have h45 := h35
    refine Ya 1 Y Y (jt (ja ?_))
    refine j4 (some 16) (.hoist 0 (.hoist 1 (.free 2 (.free 3 (.hoist 4 (.hoist 5 (.free 6 (.free 7 (.hoist 8 (.free 9 (.hoist 10 (.free 11 (.one 12 (.one 13 (.free 14 (.free 15 (.last 16 .done))))))))))))))))) (HV _ _ [kc l_6.1 #[ptr rb 0] 115, kc l_6.2 #[.int .i64 t56] 3, kc b_5 #[.int .i64 t52.lo, .int .i64 t52.hi] 37, kc b_4 #[.int .i64 s_1.t49] 3, kc b_2 #[ptr b_1 0] 118, kc b_1 #[sL l_7] 168, kc b #[.func (.func f_c1_0) fs_c1_0 cs_c1_0] 123, (pb, gobj (kR RPr) kB d02)] [mkV (D :: l_5.2)] _) Y (by decide +kernel) (fun w k hh => hh.draw k) (hsE [0, 1, 2, 3, 4, 5, 6, 7] [1] 0 Y Y Y Y) ?_
    refine qW 4 isAgg118 Y Y Y Y Y (qW 4 isAgg118 Y Y Y Y Y (jg Y Y Y Y (fun _ _ => jw Y) (qo 0 runUnderlying168 sizeOf166 Y Y Y Y (qW 5 isAgg166 Y Y Y Y Y (qW 3 isAgg3 Y Y Y Y Y ?_)))))
    obtain ⟨t84, h46, hm⟩ := bindO hm
    refine jg Y Y Y Y (fun _ _ => KL h46 Y Y) (qo 0 runUnderlying37 sizeOf3 Y Y Y Y (qW 2 isAgg3 Y Y Y Y Y (qo 1 runUnderlying37 sizeOf3 Y Y Y Y (qW 2 isAgg3 Y Y Y Y Y (jg Y Y Y Y (fun _ _ => jA (vs := [(0, _), (1, _), (2, _), (3, _)]) (cells := [_, _, _, _, _, _]) Y Y) (jK Y ?_))))))
    refine kS RWay [(⟨t84, 0, t52.lo, t52.hi, 0, 0⟩ : Wy)] (ps := [(0, _)]) (cells := [_, _, _, _, _, _]) (fun w => runUnderlying166 w) (fun w => sizeOf170 w) (fun w => zeroValue170 w) Y Y Y Y Y Y Y Y (fun L_4 h47 => ?_)
    refine jv (hsE [0, 1, 2, 3, 4, 5, 6, 7] [2] 0 Y Y Y Y) (jK Y ?_)
    obtain ⟨t91, h48, hm⟩ := bindO hm
    refine yT RWay 1 h48 underlying166 Q9 Y Y Y Y Y h45 Y Y (vlen RWay h47 Y) (AOK.q (vne h47)) (fun w hh => (hh.vsegA 0 Y h47)) Y (fun L_5 h49 h49n => ?_)
    refine jH (S' := [_, _, _, _, _, _, _, _]) (vs' := [_, _, _]) [0, 1, 2, 3, 4, 5, 6, 7] [0, 1, 2] 0 Y Y Y Y (jv (hsE [0, 1, 2, 3, 4, 5, 6, 7] [2] 0 Y Y Y Y) (jg Y Y Y Y (fun _ _ => jw Y) (qo 0 runUnderlying168 sizeOf166 Y Y Y Y (Ko Y (yo (cs' := #[_]) (S' := [_, _, _, _, _, _, _, _]) 5 (fun w => sizeOf166 w) Y Y Y Y Y Y Y (Jp (jN ?_)))))))
    refine jt (ja (jh ?_))
    obtain ⟨t94, h50, hm⟩ := bindO hm
    refine yA h50 Y Y Y (je Y Y (jx ?_))
    obtain rfl := sj hm
    refine ja ?_
    exact KY _ (L_5, (D :: l_5.2)) Y Y (h49) (sE Y) (hsE [4, 5, 6, 7] [1, 2] 0 Y Y Y Y)
   replace hm := ifE h27 hm
   refine jP (ji (ji (jC ?_)))
   obtain rfl := sj hm
   have hbo := h26 _ Y
   subst hbo
   exact Kp (l_5.1, l_5.2) Y (h25) (sE Y) (fun w hh => hh)
  intro l_4 hj
  have h24 := hj
  replace hm := h23
  refine ja (jp (kx 0 isAgg118 Y Y Y Y (jl Y Y (jo (ju ?_)))))
  obtain rfl := sj hm
  refine KC Y Y Y (fun w hh => (.tmp Y .nil)) (fun w hh => ⟨(b_1, l_4.1), rfl, h24, hh.selN [3, 1] [0] (by decide) (by decide) Y rfl⟩)
structure Jy where
  n0 : Int
  t9 : Int
def yU (l1 : (List Int)) (s : Jy) : Option (Jy ⊕ Int) :=
 if s.t9 < (l1.length : Int) then
 ((ix l1 s.t9).bind fun t11 =>
 (addc s.t9 1).bind fun t16 =>
 some (.inl (⟨(min s.n0 t11), t16⟩ : Jy))) else
 (some (.inr s.n0))
def Jo (n0 : Int) (l1 : (List Int)) : Option Int :=
 (iterM FU (yU l1) (⟨n0, 0⟩ : Jy)).bind fun o =>
 some o
theorem Kn (n0 : Int) (l1 : (List Int)) (qa0 : Option Addr) (na0 ca0 : Nat) (w : World) (hw : HV w (keys [] []) [] [] [(aB qa0, aO qa0, RI.enc l1)] w) (hna0 : l1.length = na0) (hqa0 : AOK na0 qa0) (hla0 : na0 ≤ ca0) {res : Int} (hm : Jo n0 l1 = some res) :
    Calls Try.prog 55 #[.int .i64 n0, .slice qa0 na0 ca0] w (fun en w' => ∃ l : Unit, en = .returned (.int .i64 res) ∧ (True) ∧ HV w (keys [] []) [] [] [] w') := by
  unfold Jo at hm
  refine kl func55 Y ntmps55 Y (e := [(0, _), (1, _)]) Y hw (jp (jl Y Y (jo (jk (jp (je Y Y (jb Y Y Y (fun w _ => jR hna0 (runUnderlying32 w) Y) ?_)))))))
  refine je Y Y (jo ?_)
  obtain ⟨o, h1, h2⟩ := bindO hm
  refine jM (ι := Unit) (fun l => True) (fun l => [(0, .int .i64 o)]) (fun l => []) (fun l => []) ?_ ?_
  ·replace hm := h1
   refine jj ?_
   refine jD (ι := Unit) hm (fun s l_1 => True) (fun s l_1 => [(0, .int .i64 s.n0), (7, .slice qa0 na0 ca0), (8, .int .i64 (l1.length : Int)), (9, .int .i64 s.t9)]) (fun s l_1 => []) (fun s l_1 => []) () (trivial) (sE Y) (fun w hh => hh) (fun s l_1 r hpl hm h3 => ?_)
   unfold yU at hm
   refine jp (zK Y Y Y (jo (jk ?_)))
   refine jr Y (fun h4 => ?_) (fun h4 => ?_)
   ·replace hm := ifD h4 hm
    refine js (ja (jk (jj (jp ?_))))
    obtain ⟨t11, h5, hm⟩ := bindO hm
    refine jb Y Y Y (fun w _ => q7 h5 (runUnderlying32 w) (sizeOf3 w) Y Y hna0 hqa0) (jb Y Y Y (fun w hh => qx RI 0 h5 (isAgg3 w) Y (hh.seg 0 Y) Y (Nat.add_zero _).symm) (jl Y Y (jo (jh (je Y Y (je Y Y (jb Y Y Y (fun _ _ => Z6 Y Y) ?_)))))))
    refine jl Y Y (jx (jt (ja (jh ?_))))
    obtain ⟨t16, h6, hm⟩ := bindO hm
    refine yA h6 Y Y Y (je Y Y (jx ?_))
    obtain rfl := sj hm
    refine ja ?_
    exact jz _ () Y (trivial) (sE Y) (fun w hh => hh)
   replace hm := ifE h4 hm
   refine jP (ji (ji (jC ?_)))
   obtain rfl := sj hm
   have hbo := h3 _ Y
   subst hbo
   exact jn () (trivial) (sE Y) (fun w hh => hh)
  intro l hj
  replace hm := h2
  refine ja (jp (je Y Y (jl Y Y (jo (ju ?_)))))
  obtain rfl := sj hm
  refine jm Y (fun w hh => (.tmp Y .nil)) (fun w hh => ⟨(), rfl, trivial, hh.se [] [] 1 Y Y Y rfl⟩)
end Go.Proofs.Ws

namespace Go.Proofs.Ws
set_option maxHeartbeats 4000000
set_option maxRecDepth 100000
open Go Go.Fw Go.Gx Go.Sp
open Try
set_option linter.unusedVariables false
structure J9 where
  r0 : Int
  r1 : Int
  r2 : Int
  r3 : Int
def qE (n00 : (List Wy)) (c1 : Change) : Option J9 :=
 (ix n00 c1.way).bind fun t15 =>
 if c1.more = true then
 ((subc t15.hi t15.goes).bind fun t29 =>
 some (⟨t15.fr, t15.dst, t15.cost, t29⟩ : J9)) else
 ((negc t15.cost).bind fun t36 =>
 (Jo t15.lo [t15.goes]).bind fun t44 =>
 (subc t15.goes t44).bind fun t45 =>
 some (⟨t15.dst, t15.fr, t36, t45⟩ : J9))
theorem JM (n00 : (List Wy)) (c1 : Change) (rb : Nat) (qa1 : Option Addr) (na1 ca1 : Nat) (w : World) (hw : HV w (keys [] []) [] [] [(rb, 0, [.slice qa1 na1 ca1]), (aB qa1, aO qa1, RWay.enc n00)] w)  (hna1 : n00.length = na1) (hqa1 : AOK na1 qa1) (hla1 : na1 ≤ ca1) {res : J9} (hm : qE n00 c1 = some res) :
    Calls Try.prog 144 #[ptr rb 0, .agg #[.int .i64 c1.way, .bool c1.more]] w (fun en w' => ∃ l : Unit, en = .returned (.tuple #[.int .i64 res.r0, .int .i64 res.r1, .int .i64 res.r2, .int .i64 res.r3]) ∧ (True) ∧ HV w (keys [] []) [] [] [] w') := by
  unfold qE at hm
  refine kl func144 Y ntmps144 Y (e := [(0, _), (1, _)]) Y hw (jp ?_)
  refine jF Y Y (fun b h1 => ?_)
  refine jl Y Y (jl Y Y (jl Y Y (jl Y Y (jo (jk ?_)))))
  refine j4 none (.free 0 (.free 1 (.free 2 (.hoist 3 (.free 4 (.hoist 5 (.free 6 (.hoist 7 (.one 8 (.one 9 .done)))))))))) _ Y (by decide +kernel) (fun w k hh => hh.draw k) (fun w hh => hh) ?_
  refine kU Y Y Y (jg Y Y Y Y (fun _ _ => jw Y) (qo 0 runUnderlying168 sizeOf166 Y Y Y Y (jG Y Y Y Y (fun w hh => jQ (isAgg166 w) Y (segCell (hh.seg 0 Y) 0 Y)) (qo 0 runUnderlying178 sizeOf3 Y Y Y Y (qW 0 isAgg3 Y Y Y Y Y ?_)))))
  obtain ⟨t15, h2, hm⟩ := bindO hm
  refine jg Y Y Y Y (fun w _ => q7 h2 (runUnderlying166 w) (sizeOf170 w) Y Y hna1 hqa1) ?_
  refine jG Y Y Y Y (fun w hh => kT RWay 0 [.int .i64 t15.fr, .int .i64 t15.dst, .int .i64 t15.lo, .int .i64 t15.hi, .int .i64 t15.cost, .int .i64 t15.goes] h2 (isAgg170 w) (sizeOf170 w) Y (hh.seg 1 Y) Y (Nat.add_zero _).symm) ?_
  refine jK Y ?_
  refine jq (fun w => zeroValue170 w) Y (fun b_1 h3 => ?_)
  refine jv (hsE [1] [] 0 Y Y Y Y) (jK Y (jB (us := #[_, _, _, _, _, _]) (cs' := [_, _, _, _, _, _]) (S' := [_, _]) 0 (fun w => sizeOf170 w) Y Y Y Y Y Y Y (jv (hsE [1] [] 0 Y Y Y Y) (jN (ja (jk (jp ?_)))))))
  refine j7 1 runUnderlying178 Y sizeOf4 Y Y (kx 1 isAgg4 Y Y Y Y (jo ?_))
  refine jr Y (fun h4 => ?_) (fun h4 => ?_)
  ·replace hm := ifT (h4) hm
   refine jk ?_
   refine j4 none (.free 0 (.hoist 1 (.free 2 (.hoist 3 (.free 4 (.hoist 5 (.free 6 (.hoist 7 (.free 8 (.hoist 9 (.free 10 (.free 11 (.free 12 (.free 13 (.free 14 .done))))))))))))))) _ Y (by decide +kernel) (fun w k hh => hh.draw k) (fun w hh => hh) ?_
   refine qo 0 runUnderlying170 sizeOf3 Y Y Y Y (qW 0 isAgg3 Y Y Y Y Y (qo 1 runUnderlying170 sizeOf3 Y Y Y Y (qW 0 isAgg3 Y Y Y Y Y (qo 4 runUnderlying170 sizeOf3 Y Y Y Y (qW 0 isAgg3 Y Y Y Y Y (qo 3 runUnderlying170 sizeOf3 Y Y Y Y (qW 0 isAgg3 Y Y Y Y Y ?_)))))))
   refine qo 5 runUnderlying170 sizeOf3 Y Y Y Y (qW 0 isAgg3 Y Y Y Y Y ?_)
   obtain ⟨t29, h5, hm⟩ := bindO hm
   refine jg Y Y Y Y (fun _ _ => qc h5 Y Y) (jg Y Y Y Y (fun _ _ => jU Y) (jg Y Y Y Y (fun _ _ => jU Y) (jg Y Y Y Y (fun _ _ => jU Y) (jg Y Y Y Y (fun _ _ => jU Y) (jN (ja (ju ?_)))))))
   refine jf ?_
   obtain rfl := sj hm
   refine jm Y (fun w hh => (.tmp Y (.tmp Y (.tmp Y (.tmp Y .nil))))) (fun w hh => ⟨(), rfl, trivial, hh.se [] [] 2 Y Y Y rfl⟩)
  replace hm := ifN h4 hm
  refine js (ja (jk ?_))
  refine j4 none (.free 0 (.hoist 1 (.free 2 (.hoist 3 (.free 4 (.hoist 5 (.free 6 (.free 7 (.hoist 8 (.free 9 (.hoist 10 (.free 11 (.hoist 12 (.one 13 (.one 14 (.free 15 (.free 16 (.free 17 (.free 18 (.free 19 .done)))))))))))))))))))) _ Y (by decide +kernel) (fun w k hh => hh.draw k) (fun w hh => hh) ?_
  refine qo 1 runUnderlying170 sizeOf3 Y Y Y Y (qW 0 isAgg3 Y Y Y Y Y (qo 0 runUnderlying170 sizeOf3 Y Y Y Y (qW 0 isAgg3 Y Y Y Y Y (qo 4 runUnderlying170 sizeOf3 Y Y Y Y (qW 0 isAgg3 Y Y Y Y Y ?_)))))
  obtain ⟨t36, h6, hm⟩ := bindO hm
  refine jg Y Y Y Y (fun _ _ => Yq h6 Y) (qo 5 runUnderlying170 sizeOf3 Y Y Y Y (qW 0 isAgg3 Y Y Y Y Y (qo 2 runUnderlying170 sizeOf3 Y Y Y Y (qW 0 isAgg3 Y Y Y Y Y (qo 5 runUnderlying170 sizeOf3 Y Y Y Y (qW 0 isAgg3 Y Y Y Y Y (jK Y ?_)))))))
  refine kS RI [t15.goes] (ps := [(0, _)]) (cells := [_]) (fun w => runUnderlying32 w) (fun w => sizeOf3 w) (fun w => zeroValue3 w) Y Y Y Y Y Y Y Y (fun L h7 => ?_)
  refine jv (hsE [0, 1] [] 0 Y Y Y Y) (jK Y ?_)
  obtain ⟨t44, h8, hm⟩ := bindO hm
  refine jd [] [] Y Y Y Y Y Y Y call55 (fun w hh => Kn t15.lo [t15.goes] (qA L.q) L.n L.cap w (HV.callee (S0 := []) (vs0 := []) hh (roC (hh.vsepA 0 Y h7) roN)) (vlen RI h7 Y) (AOK.q (vne h7)) (h7).hle h8) (fun l h9 => ?_)
  refine jv (hsE [0, 1] [] 0 Y Y Y Y) ?_
  obtain ⟨t45, h10, hm⟩ := bindO hm
  refine jg Y Y Y Y (fun _ _ => qc h10 Y Y) (jg Y Y Y Y (fun _ _ => jU Y) (jg Y Y Y Y (fun _ _ => jU Y) (jg Y Y Y Y (fun _ _ => jU Y) (jg Y Y Y Y (fun _ _ => jU Y) (jN (ja (ju ?_)))))))
  obtain rfl := sj hm
  refine jm Y (fun w hh => (.tmp Y (.tmp Y (.tmp Y (.tmp Y .nil))))) (fun w hh => ⟨(), rfl, trivial, hh.se [] [] 2 Y Y Y rfl⟩)
structure zd where
  a55_0 : (List Bool)
  a66_0 : (List Change)
def ym (c0 : Change) (a1 : Int) (b2 : Int) (cost3 : Int) (room4 : Int) (a550 : (List Bool)) (a660 : (List Change)) : Option zd :=
 ((ix a550 a1).bind fun t13 =>
 if t13 = true then
 ((ix a550 b2).bind fun t17 =>
 some (!t17)) else
 (some false)).bind fun o =>
 if o = true then
 ((ix a550 b2).bind fun t24 =>
 (some (a550.set (Int.toNat b2) true)).bind fun a55 =>
 (ix a660 b2).bind fun t25 =>
 (some (a660.set (Int.toNat b2) c0)).bind fun a66 =>
 some (⟨a55, a66⟩ : zd)) else
 (some (⟨a550, a660⟩ : zd))
theorem Q8 (c0 : Change) (a1 : Int) (b2 : Int) (cost3 : Int) (room4 : Int) (a550 : (List Bool)) (a660 : (List Change)) (pb : Nat) (pb_1 : Nat) (w : World) (hw : HV w (keys [(pb, .cells (RB.enc a550).toArray 172 (0, 0)), (pb_1, .cells (RCh.enc a660).toArray 190 (0, 0))] []) [(pb, .cells (RB.enc a550).toArray 172 (0, 0)), (pb_1, .cells (RCh.enc a660).toArray 190 (0, 0))] [] [] w) (hl_a550 : a550.length = 12) (hl_a660 : a660.length = 12) {res : zd} (hm : ym c0 a1 b2 cost3 room4 a550 a660 = some res) :
    Calls Try.prog 143 #[.agg #[.int .i64 c0.way, .bool c0.more], .int .i64 a1, .int .i64 b2, .int .i64 cost3, .int .i64 room4, ptr pb 0, ptr pb_1 0] w (fun en w' => ∃ l : Unit, en = .returned (.tuple #[]) ∧ (res.a55_0.length = 12 ∧ res.a66_0.length = 12) ∧ HV w (keys [(pb, .cells (RB.enc a550).toArray 172 (0, 0)), (pb_1, .cells (RCh.enc a660).toArray 190 (0, 0))] []) [(pb, .cells (RB.enc res.a55_0).toArray 172 (0, 0)), (pb_1, .cells (RCh.enc res.a66_0).toArray 190 (0, 0))] [] [] w') := by
  unfold ym at hm
  refine kl func143 Y ntmps143 Y (e := [(0, _), (1, _), (2, _), (3, _), (4, _), (5, _), (6, _)]) Y hw (jp ?_)
  refine jF Y Y (fun b h3 => ?_)
  refine jo (jk ?_)
  obtain ⟨o, h4, h5⟩ := bindO hm
  refine jM (ι := Unit) (fun l => True) (fun l => [(2, .int .i64 b2), (5, ptr pb 0), (6, ptr pb_1 0), (7, ptr b 0), (20, .bool o)]) (fun l => [kc b #[.int .i64 c0.way, .bool c0.more] 178, (pb, .cells (RB.enc a550).toArray 172 (0, 0)), (pb_1, .cells (RCh.enc a660).toArray 190 (0, 0))]) (fun l => []) ?_ ?_
  ·replace hm := h4
   refine jh (je Y Y ?_)
   obtain ⟨t13, h6, hm⟩ := bindO hm
   refine jb Y Y Y (fun w _ => Ki h6 hl_a550 (runUnderlying172 w) (sizeOf4 w) Y Y) (jb Y Y Y (fun w hh => qx RB 0 h6 (isAgg4 w) Y (hh.bsegA 1 Y) Y (Nat.add_zero _).symm) (je Y Y ?_))
   refine jZ 15 Y (fun h7 => ?_) (fun h7 => ?_)
   ·replace hm := ifT (h7) hm
    refine jc Y Y (je Y Y (jc Y Y ?_))
    obtain ⟨t17, h8, hm⟩ := bindO hm
    refine jb Y Y Y (fun w _ => Ki h8 hl_a550 (runUnderlying172 w) (sizeOf4 w) Y Y) (jc Y Y (jb Y Y Y (fun w hh => qx RB 0 h8 (isAgg4 w) Y (hh.bsegA 1 Y) Y (Nat.add_zero _).symm) (jc Y Y (jb Y Y Y (fun _ _ => qv Y) (qO Y Y Y (jx ?_))))))
    obtain rfl := sj hm
    exact jn () (trivial) (sE Y) (fun w hh => hh)
   replace hm := ifN h7 hm
   refine g_k Y Y Y Y (g_k Y Y Y Y (g_k Y Y Y Y (g_k Y Y Y Y (yW Y Y Y (jx ?_)))))
   obtain rfl := sj hm
   exact jn () (trivial) (sE Y) (fun w hh => hh)
  intro l hj
  replace hm := h5
  refine ja ?_
  refine jr Y (fun h9 => ?_) (fun h9 => ?_)
  ·replace hm := ifT (h9) hm
   refine j4 none (.free 0 (.free 1 (.hoist 2 (.free 3 (.one 4 (.free 5 (.one 6 .done))))))) (HV _ _ [kc b #[.int .i64 c0.way, .bool c0.more] 178] [] _) Y (by decide +kernel) (fun w k hh => hh.draw k) (hsE [0] [] 0 Y Y Y Y) ?_
   refine kU Y Y Y (kU Y Y Y (jG Y Y Y Y (fun w hh => zb (vs := [_, _]) (isAgg178 w) (sizeOf178 w) Y (hh.cells 0 Y Y)) ?_))
   obtain ⟨t24, h10, hm⟩ := bindO hm
   refine jg Y Y Y Y (fun w _ => Ki h10 hl_a550 (runUnderlying172 w) (sizeOf4 w) Y Y) (jK Y ?_)
   obtain ⟨a55, ha55, hm⟩ := bindO hm
   refine Z2 RB 1 0 true (S' := [_, _, _]) (fun w => sizeOf4 w) Y Y Y Y hl_a550 (Nat.add_zero _).symm Y h10 Y Y (Option.some.inj ha55) Y (fun h11 => ?_)
   refine jv (hsE [0] [] 0 Y Y Y Y) ?_
   obtain ⟨t25, h12, hm⟩ := bindO hm
   refine jg Y Y Y Y (fun w _ => Ki h12 hl_a660 (runUnderlying190 w) (sizeOf178 w) Y Y) (jK Y ?_)
   obtain ⟨a66, ha66, hm⟩ := bindO hm
   refine ZM (us := #[_, _]) RCh 2 c0 (S' := [_, _, _]) (fun w => sizeOf178 w) Y Y Y hl_a660 Y Y h12 Y (Option.some.inj ha66) Y (fun h13 => ?_)
   refine jv (hsE [0] [] 0 Y Y Y Y) (jN ?_)
   obtain rfl := sj hm
   refine Kb Y (fun w hh => .nil) (fun w hh => ⟨(), rfl, ⟨h11, h13⟩, hh.se [1, 2] [] 0 Y Y Y rfl⟩)
  replace hm := ifN h9 hm
  refine js ?_
  obtain rfl := sj hm
  refine Kb Y (fun w hh => .nil) (fun w hh => ⟨(), rfl, ⟨hl_a550, hl_a660⟩, hh.se [1, 2] [] 0 Y Y Y rfl⟩)
structure zV where
  f1_c0_0 : (List Bool)
  f1_c1_0 : (List Change)
structure JL where
  f1_c0_0 : (List Bool)
  f1_c1_0 : (List Change)
structure k6 where
  t17 : Int
  f1_c0_0 : (List Bool)
  f1_c1_0 : (List Change)
structure JW where
  f1_c0_0 : (List Bool)
  f1_c1_0 : (List Change)
structure yk where
  t22 : Int
  f1_c0_0 : (List Bool)
  f1_c1_0 : (List Change)
structure qg where
  f1_c0_0 : (List Bool)
  f1_c1_0 : (List Change)
def j6 (n00 : (List Wy)) (s : k6) (s_1 : yk) : Option (yk ⊕ JW) :=
 if s_1.t22 < ([true, false].length : Int) then
 (((ix [true, false] s_1.t22).bind fun t24 =>
 (qE n00 (⟨s.t17, t24⟩ : Change)).bind fun t32 =>
 if 0 < t32.r3 then
 ((ym (⟨s.t17, t24⟩ : Change) t32.r0 t32.r1 t32.r2 t32.r3 s_1.f1_c0_0 s_1.f1_c1_0).bind fun t45 =>
 some (⟨t45.a55_0, t45.a66_0⟩ : qg)) else
 (some (⟨s_1.f1_c0_0, s_1.f1_c1_0⟩ : qg))).bind fun o_2 =>
 (addc s_1.t22 1).bind fun t46 =>
 some (.inl (⟨t46, o_2.f1_c0_0, o_2.f1_c1_0⟩ : yk))) else
 (some (.inr (⟨s_1.f1_c0_0, s_1.f1_c1_0⟩ : JW)))
def qd (n00 : (List Wy)) (s : k6) : Option (k6 ⊕ JL) :=
 if s.t17 < (n00.length : Int) then
 ((iterM FU (j6 n00 s) (⟨0, s.f1_c0_0, s.f1_c1_0⟩ : yk)).bind fun o_1 =>
 (addc s.t17 1).bind fun t47 =>
 some (.inl (⟨t47, o_1.f1_c0_0, o_1.f1_c1_0⟩ : k6))) else
 (some (.inr (⟨s.f1_c0_0, s.f1_c1_0⟩ : JL)))
def yK (n00 : (List Wy)) (f1_c00 : (List Bool)) (f1_c10 : (List Change)) : Option zV :=
 (iterM FU (qd n00) (⟨0, f1_c00, f1_c10⟩ : k6)).bind fun o =>
 some (⟨o.f1_c0_0, o.f1_c1_0⟩ : zV)
theorem QR (n00 : (List Wy)) (f1_c00 : (List Bool)) (f1_c10 : (List Change)) (rb : Nat) (qa1 : Option Addr) (na1 ca1 : Nat) (pb : Nat) (pb_1 : Nat) (w : World) (hw : HV w (keys [(pb, .cells (RB.enc f1_c00).toArray 172 (0, 0)), (pb_1, .cells (RCh.enc f1_c10).toArray 190 (0, 0))] []) [(pb, .cells (RB.enc f1_c00).toArray 172 (0, 0)), (pb_1, .cells (RCh.enc f1_c10).toArray 190 (0, 0))] [] [(rb, 0, [.slice qa1 na1 ca1]), (aB qa1, aO qa1, RWay.enc n00)] w)  (hna1 : n00.length = na1) (hqa1 : AOK na1 qa1) (hla1 : na1 ≤ ca1) (hl_f1_c00 : f1_c00.length = 12) (hl_f1_c10 : f1_c10.length = 12) {res : zV} (hm : yK n00 f1_c00 f1_c10 = some res) :
    Calls Try.prog 132 #[ptr rb 0, .func (.func 143) #[] #[ptr pb 0, ptr pb_1 0]] w (fun en w' => ∃ l : Unit, en = .returned (.tuple #[]) ∧ (res.f1_c0_0.length = 12 ∧ res.f1_c1_0.length = 12) ∧ HV w (keys [(pb, .cells (RB.enc f1_c00).toArray 172 (0, 0)), (pb_1, .cells (RCh.enc f1_c10).toArray 190 (0, 0))] []) [(pb, .cells (RB.enc res.f1_c0_0).toArray 172 (0, 0)), (pb_1, .cells (RCh.enc res.f1_c1_0).toArray 190 (0, 0))] [] [] w') := by
  unfold yK at hm
  refine kl func132 Y ntmps132 Y (e := [(0, _), (1, _)]) Y hw (jp (je Y Y (jb Y Y Y (fun _ _ => jw Y) (j7 0 runUnderlying168 Y sizeOf166 Y Y (jb Y Y Y (fun w hh => jQ (isAgg166 w) Y (segCell (hh.seg 0 Y) 0 Y)) (jb Y Y Y (fun w _ => jR hna1 (runUnderlying166 w) Y) (je Y Y ?_)))))))
  refine jo ?_
  obtain ⟨o, h3, h4⟩ := bindO hm
  refine jM (ι := Unit) (fun l => o.f1_c0_0.length = 12 ∧ o.f1_c1_0.length = 12) (fun l => []) (fun l => [(pb, .cells (RB.enc o.f1_c0_0).toArray 172 (0, 0)), (pb_1, .cells (RCh.enc o.f1_c1_0).toArray 190 (0, 0))]) (fun l => []) ?_ ?_
  ·replace hm := h3
   refine jj ?_
   refine jD (ι := Unit) hm (fun s l_1 => s.f1_c0_0.length = 12 ∧ s.f1_c1_0.length = 12) (fun s l_1 => [(0, ptr rb 0), (1, .func (.func 143) #[] #[ptr pb 0, ptr pb_1 0]), (16, .int .i64 (n00.length : Int)), (17, .int .i64 s.t17)]) (fun s l_1 => [(pb, .cells (RB.enc s.f1_c0_0).toArray 172 (0, 0)), (pb_1, .cells (RCh.enc s.f1_c1_0).toArray 190 (0, 0))]) (fun s l_1 => []) () (⟨hl_f1_c00, hl_f1_c10⟩) (sE Y) (fun w hh => hh) (fun s l_1 r hpl hm h9 => ?_)
   obtain ⟨h7, h8⟩ := hpl
   unfold qd at hm
   refine jp (zK Y Y Y (jo (jk ?_)))
   refine jr Y (fun h10 => ?_) (fun h10 => ?_)
   ·replace hm := ifD h10 hm
    refine js (ja (jk (jj (jp (je Y Y (jl Y Y (jV ?_)))))))
    refine kS RB [true, false] (ps := [(0, _), (1, _)]) (cells := [_, _]) (fun w => runUnderlying136 w) (fun w => sizeOf4 w) (fun w => zeroValue4 w) Y Y Y Y Y Y Y Y (fun L h11 => ?_)
    refine jb Y Y Y (fun w _ => zQ (vlen RB h11 Y) (runUnderlying136 w) Y) (je Y Y (jo ?_))
    obtain ⟨o_1, h12, h13⟩ := bindO hm
    refine jM (ι := Unit) (fun l_2 => o_1.f1_c0_0.length = 12 ∧ o_1.f1_c1_0.length = 12) (fun l_2 => [(0, ptr rb 0), (1, .func (.func 143) #[] #[ptr pb 0, ptr pb_1 0]), (16, .int .i64 (n00.length : Int)), (17, .int .i64 s.t17)]) (fun l_2 => [(pb, .cells (RB.enc o_1.f1_c0_0).toArray 172 (0, 0)), (pb_1, .cells (RCh.enc o_1.f1_c1_0).toArray 190 (0, 0))]) (fun l_2 => []) ?_ ?_
    ·replace hm := h12
     refine jj ?_
     refine jD (ι := Unit) hm (fun s_1 l_3 => s_1.f1_c0_0.length = 12 ∧ s_1.f1_c1_0.length = 12) (fun s_1 l_3 => [(0, ptr rb 0), (1, .func (.func 143) #[] #[ptr pb 0, ptr pb_1 0]), (4, .int .i64 s.t17), (16, .int .i64 (n00.length : Int)), (17, .int .i64 s.t17), (20, sL L), (21, .int .i64 ([true, false].length : Int)), (22, .int .i64 s_1.t22)]) (fun s_1 l_3 => [(pb, .cells (RB.enc s_1.f1_c0_0).toArray 172 (0, 0)), (pb_1, .cells (RCh.enc s_1.f1_c1_0).toArray 190 (0, 0))]) (fun s_1 l_3 => [⟨4, RB.enc [true, false], L.sp, L.q, []⟩]) () (⟨h7, h8⟩) (sE Y) (fun w hh => hh) (fun s_1 l_3 r_1 hpl hm h18 => ?_)
     obtain ⟨h16, h17⟩ := hpl
     unfold j6 at hm
     refine jp (zK Y Y Y (jo (jk ?_)))
     refine jr Y (fun h19 => ?_) (fun h19 => ?_)
     ·replace hm := ifD h19 hm
      refine js (ja (jk ?_))
      obtain ⟨o_2, h20, h21⟩ := bindO hm
      refine jM (ι := Unit) (fun l_4 => o_2.f1_c0_0.length = 12 ∧ o_2.f1_c1_0.length = 12) (fun l_4 => [(0, ptr rb 0), (1, .func (.func 143) #[] #[ptr pb 0, ptr pb_1 0]), (4, .int .i64 s.t17), (16, .int .i64 (n00.length : Int)), (17, .int .i64 s.t17), (20, sL L), (21, .int .i64 ([true, false].length : Int)), (22, .int .i64 s_1.t22)]) (fun l_4 => [(pb, .cells (RB.enc o_2.f1_c0_0).toArray 172 (0, 0)), (pb_1, .cells (RCh.enc o_2.f1_c1_0).toArray 190 (0, 0))]) (fun l_4 => [⟨4, RB.enc [true, false], L.sp, L.q, []⟩]) ?_ ?_
      ·replace hm := h20
       refine jj (jp ?_)
       obtain ⟨t24, h24, hm⟩ := bindO hm
       refine jb Y Y Y (fun w _ => yJ h24 (runUnderlying136 w) (sizeOf4 w) Y Y (vlen RB h11 Y) (vne h11)) (jb Y Y Y (fun w hh => qx RB 0 h24 (isAgg4 w) Y (hh.vseg 0 Y h11) Y (Nat.add_zero _).symm) (jl Y Y (jV (je Y Y (je Y Y (jb Y Y Y (fun _ _ => jA (vs := [(0, _), (1, _)]) (cells := [_, _]) Y Y) ?_))))))
       refine jq (fun w => zeroValue178 w) Y (fun b h25 => ?_)
       refine jB (us := #[_, _]) (cs' := [_, _]) (S' := [_, _, _]) 0 (fun w => sizeOf178 w) Y Y Y Y Y Y Y (jV (je Y Y (qX [_, _] 0 isAgg178 sizeOf178 Y Y Y Y ?_)))
       obtain ⟨t32, h26, hm⟩ := bindO hm
       refine jd [] [] Y Y Y Y Y Y Y call144 (fun w hh => JM n00 (⟨s.t17, t24⟩ : Change) rb qa1 na1 ca1 w (HV.callee (S0 := []) (vs0 := []) hh (roR hh 0 Y (roR hh 1 Y roN))) hna1 hqa1 hla1 h26) (fun l_5 h27 => ?_)
       refine je Y Y (ka Y Y Y (ka Y Y Y (ka Y Y Y (ka Y Y Y (jl Y Y (jl Y Y (jl Y Y ?_)))))))
       refine jl Y Y (jV (je Y Y (jb Y Y Y (fun _ _ => Yv Y Y) (jo ?_))))
       refine jr Y (fun h28 => ?_) (fun h28 => ?_)
       ·replace hm := ifD h28 hm
        refine jh (je Y Y (qX [_, _] 0 isAgg178 sizeOf178 Y Y Y Y (je Y Y (je Y Y (je Y Y (je Y Y ?_))))))
        obtain ⟨t45, h29, hm⟩ := bindO hm
        refine jH (S' := [_, _, _]) (vs' := [_]) [1, 2, 0] [0] 0 Y Y Y Y ?_
        refine jd [_, _] [] Y Y Y Y Y Y Y call143 (fun w hh => Q8 (⟨s.t17, t24⟩ : Change) t32.r0 t32.r1 t32.r2 t32.r3 s_1.f1_c0_0 s_1.f1_c1_0 pb pb_1 w (HV.callee (S0 := [_, _]) (vs0 := []) hh roN) h16 h17 h29) (fun l_6 h30 => ?_)
        obtain ⟨h31, h32⟩ := h30
        refine jH (S' := [_, _, _]) (vs' := [_]) [0, 1, 2] [0] 0 Y Y Y Y (jx (jt ?_))
        obtain rfl := sj hm
        exact jn () (⟨h31, h32⟩) (sE Y) (hsE [0, 1] [0] 0 Y Y Y Y)
       replace hm := ifE h28 hm
       refine js (jt ?_)
       obtain rfl := sj hm
       exact jn () (⟨h16, h17⟩) (sE Y) (hsE [1, 2] [0] 0 Y Y Y Y)
      intro l_4 hj
      obtain ⟨h22, h23⟩ := hj
      replace hm := h21
      refine ja (jh ?_)
      obtain ⟨t46, h33, hm⟩ := bindO hm
      refine yA h33 Y Y Y (je Y Y (jx ?_))
      obtain rfl := sj hm
      refine ja ?_
      exact jz _ () Y (⟨h22, h23⟩) (sE Y) (fun w hh => hh)
     replace hm := ifE h19 hm
     refine jP (ji (ji (jC ?_)))
     obtain rfl := sj hm
     have hbo := h18 _ Y
     subst hbo
     exact jn () (⟨h16, h17⟩) (sE Y) (hsE [0, 1] [] 0 Y Y Y Y)
    intro l_2 hj
    obtain ⟨h14, h15⟩ := hj
    replace hm := h13
    refine jt (ja (jh ?_))
    obtain ⟨t47, h34, hm⟩ := bindO hm
    refine yA h34 Y Y Y (je Y Y (jx ?_))
    obtain rfl := sj hm
    refine ja ?_
    exact jz _ () Y (⟨h14, h15⟩) (sE Y) (fun w hh => hh)
   replace hm := ifE h10 hm
   refine jP (ji (ji (jC ?_)))
   obtain rfl := sj hm
   have hbo := h9 _ Y
   subst hbo
   exact jn () (⟨h7, h8⟩) (.nil) (fun w hh => hh)
  intro l hj
  obtain ⟨h5, h6⟩ := hj
  replace hm := h4
  obtain rfl := sj hm
  refine Kb Y (fun w hh => .nil) (fun w hh => ⟨(), rfl, ⟨h5, h6⟩, hh.se [0, 1] [] 2 Y Y Y rfl⟩)
structure J6 where
  r1 : (List Bool)
  r0 : (List Change)
structure Ks where
  by9 : (List Change)
  met8 : (List Bool)
structure JA where
  by9 : (List Change)
  met8 : (List Bool)
def zH (n00 : (List Wy)) (s : JA) : Option (JA ⊕ Ks) :=
 (yK n00 s.met8 s.by9).bind fun t18 =>
 if t18.f1_c0_0 = s.met8 then
 (some (.inr (⟨t18.f1_c1_0, t18.f1_c0_0⟩ : Ks))) else
 (some (.inl (⟨t18.f1_c1_0, t18.f1_c0_0⟩ : JA)))
structure zL where
  at12 : Int
  out11 : (List Change)
def zS (from1 : Int) (o : Ks) (n00 : (List Wy)) (s_1 : zL) : Option (zL ⊕ (List Change)) :=
 if s_1.at12 = from1 then
 (some (.inr s_1.out11)) else
 ((ix o.by9 s_1.at12).bind fun t33 =>
 (appc 16 s_1.out11 [(⟨t33.way, t33.more⟩ : Change)]).bind fun t36 =>
 (ix o.by9 s_1.at12).bind fun t40 =>
 (qE n00 t40).bind fun t42 =>
 some (.inl (⟨t42.r0, t36⟩ : zL)))
def JZ (n00 : (List Wy)) (from1 : Int) (to2 : Int) : Option J6 :=
 (ix (List.replicate 12 false : (List Bool)) from1).bind fun t14 =>
 (some ((List.replicate 12 false : (List Bool)).set (Int.toNat from1) true)).bind fun met8 =>
 (iterM FU (zH n00) (⟨(List.replicate 12 (⟨0, false⟩ : Change) : (List Change)), met8⟩ : JA)).bind fun o =>
 (ix o.met8 to2).bind fun t23 =>
 if (!t23) = true then
 (some (⟨o.met8, []⟩ : J6)) else
 ((iterM FU (zS from1 o n00) (⟨to2, []⟩ : zL)).bind fun o_1 =>
 some (⟨o.met8, o_1⟩ : J6))
theorem Ze (n00 : (List Wy)) (from1 : Int) (to2 : Int) (rb : Nat) (qa1 : Option Addr) (na1 ca1 : Nat) (w : World) (hw : HV w (keys [] []) [] [] [(rb, 0, [.slice qa1 na1 ca1]), (aB qa1, aO qa1, RWay.enc n00)] w)  (hna1 : n00.length = na1) (hqa1 : AOK na1 qa1) (hla1 : na1 ≤ ca1) {res : J6} (hm : JZ n00 from1 to2 = some res) :
    Calls Try.prog 117 #[ptr rb 0, .int .i64 from1, .int .i64 to2] w (fun en w' => ∃ l : VL, en = .returned (.tuple #[sL l, .agg (RB.enc res.r1).toArray]) ∧ (VOK 2 l.n l.cap (RCh.enc res.r0) l.sp l.q ∧ (l.q = none ↔ res.r0 = []) ∧ res.r1.length = 12) ∧ HV w (keys [] []) [] [vL 178 l (RCh.enc res.r0)] [] w') := by
  unfold JZ at hm
  refine kl func117 Y ntmps117 Y (e := [(0, _), (1, _), (2, _)]) Y hw (jp (jb Y Y Y (fun _ _ => qf Y) ?_))
  refine Ke RB (l := (List.replicate 12 false : (List Bool))) (k := 12) (fun w => zeroValue172 w) Y Y Y (fun b h4 h5 => ?_)
  refine jV ?_
  refine Ke RB (l := (List.replicate 12 false : (List Bool))) (k := 12) (fun w => zeroValue172 w) Y Y Y (fun b_1 h6 h7 => ?_)
  refine jV ?_
  refine Ke RCh (l := (List.replicate 12 (⟨0, false⟩ : Change) : (List Change))) (k := 12) (fun w => zeroValue190 w) Y Y Y (fun b_2 h8 h9 => ?_)
  refine jV (je Y Y ?_)
  obtain ⟨t14, h10, hm⟩ := bindO hm
  refine jb Y Y Y (fun w _ => Ki h10 h7 (runUnderlying172 w) (sizeOf4 w) Y Y) ?_
  obtain ⟨met8, hmet8, hm⟩ := bindO hm
  refine Z2 RB 1 0 true (S' := [_, _, _]) (fun w => sizeOf4 w) Y Y Y Y h7 (Nat.add_zero _).symm Y h10 Y Y (Option.some.inj hmet8) Y (fun h11 => ?_)
  refine jo (jk ?_)
  obtain ⟨o, h12, h13⟩ := bindO hm
  refine jM (ι := Unit) (fun l => o.by9.length = 12 ∧ o.met8.length = 12) (fun l => [(0, ptr rb 0), (1, .int .i64 from1), (2, .int .i64 to2), (7, ptr b 0), (8, ptr b_1 0), (9, ptr b_2 0)]) (fun l => [(b_2, .cells (RCh.enc o.by9).toArray 190 (0, 0)), (b_1, .cells (RB.enc o.met8).toArray 172 (0, 0)), (b, .cells (RB.enc (List.replicate 12 false : (List Bool))).toArray 172 (0, 0))]) (fun l => []) ?_ ?_
  ·replace hm := h12
   refine jj ?_
   refine jD (ι := Unit) hm (fun s l_1 => s.by9.length = 12 ∧ s.met8.length = 12) (fun s l_1 => [(0, ptr rb 0), (1, .int .i64 from1), (2, .int .i64 to2), (7, ptr b 0), (8, ptr b_1 0), (9, ptr b_2 0)]) (fun s l_1 => [(b_2, .cells (RCh.enc s.by9).toArray 190 (0, 0)), (b_1, .cells (RB.enc s.met8).toArray 172 (0, 0)), (b, .cells (RB.enc (List.replicate 12 false : (List Bool))).toArray 172 (0, 0))]) (fun s l_1 => []) () (⟨h9, h11⟩) (sE Y) (fun w hh => hh) (fun s l_1 r hpl hm h18 => ?_)
   obtain ⟨h16, h17⟩ := hpl
   unfold zH at hm
   refine jj (jp (jb Y Y Y (fun w hh => JR RB h17 (isAgg172 w) (sizeOf172 w) Y Y (hh.bsegA 1 Y)) ?_))
   refine Ke RB (l := (List.replicate 12 false : (List Bool))) (k := 12) (fun w => zeroValue172 w) Y Y Y (fun b_3 h19 h20 => ?_)
   refine ZE RB (S' := [_, _, _, _]) 0 (fun w => sizeOf172 w) Y Y Y h20 h17 Y Y (jV (je Y Y (jb Y Y Y (fun _ _ => jE (u := #[]) (u' := #[_, _]) Y Y) ?_)))
   obtain ⟨t18, h21, hm⟩ := bindO hm
   refine jH (S' := [_, _, _, _]) (vs' := []) [2, 1, 0, 3] [] 0 Y Y Y Y ?_
   refine jd [_, _] [] Y Y Y Y Y Y Y call132 (fun w hh => QR n00 s.met8 s.by9 rb qa1 na1 ca1 b_1 b_2 w (HV.callee (S0 := [_, _]) (vs0 := []) hh (roR hh 0 Y (roR hh 1 Y roN))) hna1 hqa1 hla1 h17 h16 h21) (fun l_2 h22 => ?_)
   obtain ⟨h23, h24⟩ := h22
   refine jH (S' := [_, _, _, _]) (vs' := []) [0, 1, 2, 3] [] 0 Y Y Y Y (jV (jb Y Y Y (fun w hh => JR RB h23 (isAgg172 w) (sizeOf172 w) Y Y (hh.bsegA 0 Y)) (jb Y Y Y (fun w hh => JR RB h17 (isAgg172 w) (sizeOf172 w) Y Y (hh.bsegA 2 Y)) ?_)))
   refine jb Y Y Y (fun w _ => Q6 (equal_arrB underlying172 (fun w => sizeOf4 w) (fun w => isAgg4 w) underlying4 h23 h17 w) Zy Y Y) ?_
   refine jo ?_
   refine jr Y (fun h25 => ?_) (fun h25 => ?_)
   ·replace hm := ifD h25 hm
    refine jP (Zq Y (ji (jC ?_)))
    obtain rfl := sj hm
    have hbo := h18 _ Y
    subst hbo
    exact jn () (⟨h24, h23⟩) (sE Y) (hsE [1, 0, 3] [] 0 Y Y Y Y)
   replace hm := ifE h25 hm
   refine js (jt ?_)
   obtain rfl := sj hm
   refine ja ?_
   exact jz _ () Y (⟨h24, h23⟩) (sE Y) (hsE [1, 0, 3] [] 0 Y Y Y Y)
  intro l hj
  obtain ⟨h14, h15⟩ := hj
  replace hm := h13
  refine ja (jk (jp (je Y Y ?_)))
  obtain ⟨t23, h26, hm⟩ := bindO hm
  refine jb Y Y Y (fun w _ => Ki h26 h15 (runUnderlying172 w) (sizeOf4 w) Y Y) (jb Y Y Y (fun w hh => qx RB 0 h26 (isAgg4 w) Y (hh.bsegA 1 Y) Y (Nat.add_zero _).symm) (jb Y Y Y (fun _ _ => qv Y) (jo ?_)))
  refine jr Y (fun h27 => ?_) (fun h27 => ?_)
  ·replace hm := ifT (h27) hm
   refine jk ?_
   refine j4 none (.hoist 0 (.free 1 (.one 2 .done))) (HV _ _ [(b_2, .cells (RCh.enc o.by9).toArray 190 (0, 0)), (b_1, .cells (RB.enc o.met8).toArray 172 (0, 0))] [] _) Y (by decide +kernel) (fun w k hh => hh.draw k) (hsE [0, 1] [] 0 Y Y Y Y) ?_
   refine jG Y Y Y Y (fun w hh => JR RB h15 (isAgg172 w) (sizeOf172 w) Y Y (hh.bsegA 1 Y)) (jg Y Y Y Y (fun _ _ => qf Y) (jK Y (ZE RB (S' := [_, _, _]) 2 (fun w => sizeOf172 w) Y Y Y h5 h15 Y Y (jv (hsE [0, 1] [] 0 Y Y Y Y) (jN (ja (ju ?_)))))))
   refine jf (kG 178 ?_)
   obtain rfl := sj hm
   refine jm Y (fun w hh => (.tmp Y (.cell Y (loadVar_arr RB h15 (isAgg172 _) (sizeOf172 _) Y (hh.bsegA 2 Y)) .nil))) (fun w hh => ⟨⟨none, 0, 0, []⟩, rfl, ⟨VOK.nil, nieN, h15⟩, hh.se [] [0] 2 Y Y Y rfl⟩)
  replace hm := ifN h27 hm
  refine js (ja (jp (jb Y Y Y (fun _ _ => qf Y) (jo (jk (jp (je Y Y ?_)))))))
  refine jl Y Y (jo (kG 178 ?_))
  obtain ⟨o_1, h28, h29⟩ := bindO hm
  refine jM (ι := VL) (fun l_3 => VOK 2 l_3.n l_3.cap (RCh.enc o_1) l_3.sp l_3.q ∧ (l_3.q = none ↔ o_1 = [])) (fun l_3 => [(7, ptr b 0), (8, ptr b_1 0), (11, sL l_3)]) (fun l_3 => [(b_2, .cells (RCh.enc o.by9).toArray 190 (0, 0)), (b_1, .cells (RB.enc o.met8).toArray 172 (0, 0)), (b, .cells (RB.enc (List.replicate 12 false : (List Bool))).toArray 172 (0, 0))]) (fun l_3 => [vL 178 l_3 (RCh.enc o_1)]) ?_ ?_
  ·replace hm := h28
   refine jj ?_
   refine jD (ι := VL) hm (fun s_1 l_4 => VOK 2 l_4.n l_4.cap (RCh.enc s_1.out11) l_4.sp l_4.q ∧ (l_4.q = none ↔ s_1.out11 = [])) (fun s_1 l_4 => [(0, ptr rb 0), (1, .int .i64 from1), (7, ptr b 0), (8, ptr b_1 0), (9, ptr b_2 0), (11, sL l_4), (12, .int .i64 s_1.at12)]) (fun s_1 l_4 => [(b_2, .cells (RCh.enc o.by9).toArray 190 (0, 0)), (b_1, .cells (RB.enc o.met8).toArray 172 (0, 0)), (b, .cells (RB.enc (List.replicate 12 false : (List Bool))).toArray 172 (0, 0))]) (fun s_1 l_4 => [vL 178 l_4 (RCh.enc s_1.out11)]) ⟨none, 0, 0, []⟩ (⟨VOK.nil, nieN⟩) (sE Y) (fun w hh => hh) (fun s_1 l_4 r_1 hpl hm h34 => ?_)
   obtain ⟨h32, h33⟩ := hpl
   unfold zS at hm
   refine jk (jp (je Y Y (je Y Y (jb Y Y Y (fun _ _ => q5 Y Y) (jo ?_)))))
   refine jr Y (fun h35 => ?_) (fun h35 => ?_)
   ·replace hm := ifF (of_ndec_true h35) hm
    refine js (ja (jj (jp (je Y Y (je Y Y ?_)))))
    obtain ⟨t33, h36, hm⟩ := bindO hm
    refine jb Y Y Y (fun w _ => Ki h36 h14 (runUnderlying190 w) (sizeOf178 w) Y Y) ?_
    refine jb Y Y Y (fun w hh => kT RCh 0 [.int .i64 t33.way, .bool t33.more] h36 (isAgg178 w) (sizeOf178 w) Y (hh.bsegA 0 Y) Y (Nat.add_zero _).symm) ?_
    refine kS RCh [(⟨t33.way, t33.more⟩ : Change)] (ps := [(0, _)]) (cells := [_, _]) (fun w => runUnderlying171 w) (fun w => sizeOf178 w) (fun w => zeroValue178 w) Y Y Y Y Y Y Y Y (fun L h37 => ?_)
    obtain ⟨t36, h38, hm⟩ := bindO hm
    refine yT RCh 1 h38 underlying171 Q1 Y Y Y Y Y h32 Y Y (vlen RCh h37 Y) (AOK.q (vne h37)) (fun w hh => (hh.vsegA 0 Y h37)) Y (fun L_1 h39 h39n => ?_)
    refine jH (S' := [_, _, _]) (vs' := [_, _]) [0, 1, 2] [0, 1] 0 Y Y Y Y (jl Y Y (jo (jh (je Y Y (je Y Y ?_)))))
    obtain ⟨t40, h40, hm⟩ := bindO hm
    refine jb Y Y Y (fun w _ => Ki h40 h14 (runUnderlying190 w) (sizeOf178 w) Y Y) ?_
    refine jb Y Y Y (fun w hh => kT RCh 0 [.int .i64 t40.way, .bool t40.more] h40 (isAgg178 w) (sizeOf178 w) Y (hh.bsegA 0 Y) Y (Nat.add_zero _).symm) ?_
    obtain ⟨t42, h41, hm⟩ := bindO hm
    refine jd [] [] Y Y Y Y Y Y Y call144 (fun w hh => JM n00 t40 rb qa1 na1 ca1 w (HV.callee (S0 := []) (vs0 := []) hh (roR hh 0 Y (roR hh 1 Y roN))) hna1 hqa1 hla1 h41) (fun l_5 h42 => ?_)
    refine je Y Y (ka Y Y Y (ka Y Y Y (ka Y Y Y (ka Y Y Y (jl Y Y (jx (jt ?_)))))))
    obtain rfl := sj hm
    refine ja ?_
    exact jz _ L_1 Y (⟨h39, (h39n h33)⟩) (sE Y) (hsE [0, 1, 2] [1] 0 Y Y Y Y)
   replace hm := ifT (of_ndec_false h35) hm
   refine jP (ji (ji (jC ?_)))
   obtain rfl := sj hm
   have hbo := h34 _ Y
   subst hbo
   exact jn l_4 (⟨h32, h33⟩) (sE Y) (fun w hh => hh)
  intro l_3 hj
  obtain ⟨h30, h31⟩ := hj
  replace hm := h29
  refine ja (jk ?_)
  refine j4 none (.free 0 (.hoist 1 (.free 2 (.one 3 .done)))) (HV _ _ [(b_2, .cells (RCh.enc o.by9).toArray 190 (0, 0)), (b_1, .cells (RB.enc o.met8).toArray 172 (0, 0))] [vL 178 l_3 (RCh.enc o_1)] _) Y (by decide +kernel) (fun w k hh => hh.draw k) (hsE [0, 1] [0] 0 Y Y Y Y) ?_
  refine kU Y Y Y (jG Y Y Y Y (fun w hh => JR RB h15 (isAgg172 w) (sizeOf172 w) Y Y (hh.bsegA 1 Y)) (jg Y Y Y Y (fun _ _ => jU Y) (jK Y (ZE RB (S' := [_, _, _]) 2 (fun w => sizeOf172 w) Y Y Y h5 h15 Y Y (jv (hsE [0, 1] [0] 0 Y Y Y Y) (jN (ja ?_)))))))
  refine ju ?_
  obtain rfl := sj hm
  refine jm Y (fun w hh => (.tmp Y (.cell Y (loadVar_arr RB h15 (isAgg172 _) (sizeOf172 _) Y (hh.bsegA 2 Y)) .nil))) (fun w hh => ⟨l_3, rfl, ⟨h30, h31, h15⟩, hh.se [] [0] 2 Y Y Y rfl⟩)
structure zR where
  t22 : Int
  out7_of_ : (List Int)
def zG (d01 : (List Span)) (met2 : (List Bool)) (s : zR) : Option (zR ⊕ (List Int)) :=
 if s.t22 < (d01.length : Int) then
 (((addc 7 s.t22).bind fun t26 =>
 (ix met2 t26).bind fun t27 =>
 if (!t27) = true then
 ((appc 8 s.out7_of_ [s.t22]).bind fun t34 =>
 some t34) else
 (some s.out7_of_)).bind fun o_1 =>
 (addc s.t22 1).bind fun t36 =>
 some (.inl (⟨t36, o_1⟩ : zR))) else
 (some (.inr s.out7_of_))
structure zJ where
  t44 : Int
  out7_of_ : (List Int)
def zI (d00 : (List Strip)) (met2 : (List Bool)) (s_1 : zJ) : Option (zJ ⊕ (List Int)) :=
 if s_1.t44 < (d00.length : Int) then
 (((addc 1 s_1.t44).bind fun t48 =>
 (ix met2 t48).bind fun t49 =>
 if t49 = true then
 ((appc 8 s_1.out7_of_ [s_1.t44]).bind fun t55 =>
 some t55) else
 (some s_1.out7_of_)).bind fun o_3 =>
 (addc s_1.t44 1).bind fun t57 =>
 some (.inl (⟨t57, o_3⟩ : zJ))) else
 (some (.inr s_1.out7_of_))
def KA (d00 : (List Strip)) (d01 : (List Span)) (w1 : Wy) (met2 : (List Bool)) : Option Lack :=
 if w1.dst = 0 then
 ((iterM FU (zG d01 met2) (⟨0, []⟩ : zR)).bind fun o =>
 some (⟨(decide (w1.dst = 0)), o⟩ : Lack)) else
 ((iterM FU (zI d00 met2) (⟨0, []⟩ : zJ)).bind fun o_2 =>
 some (⟨(decide (w1.dst = 0)), o_2⟩ : Lack))
theorem Zv (d00 : (List Strip)) (d01 : (List Span)) (w1 : Wy) (met2 : (List Bool)) (rb : Nat) (qa1 : Option Addr) (na1 ca1 : Nat) (qa2 : Option Addr) (na2 ca2 : Nat) (mv : Value) (w : World) (hw : HV w (keys [] []) [] [] [(rb, 0, [.slice qa1 na1 ca1, .slice qa2 na2 ca2, mv]), (aB qa1, aO qa1, RSt.enc d00), (aB qa2, aO qa2, RSp.enc d01)] w)  (hna1 : d00.length = na1) (hqa1 : AOK na1 qa1) (hla1 : na1 ≤ ca1) (hna2 : d01.length = na2) (hqa2 : AOK na2 qa2) (hla2 : na2 ≤ ca2) (hl_met2 : met2.length = 12) {res : Lack} (hm : KA d00 d01 w1 met2 = some res) :
    Calls Try.prog 118 #[ptr rb 0, .agg #[.int .i64 w1.fr, .int .i64 w1.dst, .int .i64 w1.lo, .int .i64 w1.hi, .int .i64 w1.cost, .int .i64 w1.goes], .agg (RB.enc met2).toArray] w (fun en w' => ∃ l : VL, en = .returned (.agg #[.bool res.tenants, sL l]) ∧ (VOK 1 l.n l.cap (RI.enc res.of_) l.sp l.q) ∧ HV w (keys [] []) [] [vL 3 l (RI.enc res.of_)] [] w') := by
  unfold KA at hm
  refine kl func118 Y ntmps118 Y (e := [(0, _), (1, _), (2, _)]) Y hw (jp ?_)
  refine jF Y Y (fun b h2 => ?_)
  refine jF Y Y (fun b_1 h3 => ?_)
  refine jq (fun w => zeroValue61 w) Y (fun b_2 h4 => ?_)
  refine jV (j7 1 runUnderlying170 Y sizeOf3 Y Y (kx 2 isAgg3 Y Y Y Y (jb Y Y Y (fun _ _ => JT Y Y) (jb Y Y Y (fun _ _ => jA (vs := [(0, _)]) (cells := [_, _]) Y Y) ?_))))
  refine jq (fun w => zeroValue61 w) Y (fun b_3 h5 => ?_)
  refine jB (us := #[_, _]) (cs' := [_, _]) (S' := [_, _, _, _]) 0 (fun w => sizeOf61 w) Y Y Y Y Y Y Y (jo (jk (jp (j7 0 runUnderlying61 Y sizeOf4 Y Y (kx 0 isAgg4 Y Y Y Y (jo ?_))))))
  refine jr Y (fun h6 => ?_) (fun h6 => ?_)
  ·replace hm := ifD h6 hm
   refine jk (jp (je Y Y (jb Y Y Y (fun _ _ => jw Y) (j7 0 runUnderlying163 Y sizeOf28 Y Y (j7 1 runUnderlying28 Y sizeOf26 Y Y (jb Y Y Y (fun w hh => jQ (isAgg26 w) Y (segCell (hh.seg 0 Y) 1 Y)) (jb Y Y Y (fun w _ => jR hna2 (runUnderlying26 w) Y) ?_)))))))
   refine je Y Y (jo (kG 3 ?_))
   obtain ⟨o, h7, h8⟩ := bindO hm
   refine jM (ι := VL) (fun l => VOK 1 l.n l.cap (RI.enc o) l.sp l.q) (fun l => [(6, ptr b_2 0), (7, ptr b_3 0)]) (fun l => [kc b_3 #[.bool (decide (w1.dst = 0)), sL l] 61, kc b_2 #[.bool false, slv none 0 0] 61, (b_1, .cells (RB.enc met2).toArray 172 (0, 0)), kc b #[.int .i64 w1.fr, .int .i64 w1.dst, .int .i64 w1.lo, .int .i64 w1.hi, .int .i64 w1.cost, .int .i64 w1.goes] 170]) (fun l => [vL 3 l (RI.enc o)]) ?_ ?_
   ·replace hm := h7
    refine jj ?_
    refine jD (ι := VL) hm (fun s l_1 => VOK 1 l_1.n l_1.cap (RI.enc s.out7_of_) l_1.sp l_1.q) (fun s l_1 => [(5, ptr b_1 0), (6, ptr b_2 0), (7, ptr b_3 0), (21, .int .i64 (d01.length : Int)), (22, .int .i64 s.t22)]) (fun s l_1 => [kc b_3 #[.bool (decide (w1.dst = 0)), sL l_1] 61, kc b_2 #[.bool false, slv none 0 0] 61, (b_1, .cells (RB.enc met2).toArray 172 (0, 0)), kc b #[.int .i64 w1.fr, .int .i64 w1.dst, .int .i64 w1.lo, .int .i64 w1.hi, .int .i64 w1.cost, .int .i64 w1.goes] 170]) (fun s l_1 => [vL 3 l_1 (RI.enc s.out7_of_)]) ⟨none, 0, 0, []⟩ (VOK.nil) (sE Y) (fun w hh => hh) (fun s l_1 r hpl hm h11 => ?_)
    have h10 := hpl
    unfold zG at hm
    refine jp (zK Y Y Y (jo (jk ?_)))
    refine jr Y (fun h12 => ?_) (fun h12 => ?_)
    ·replace hm := ifD h12 hm
     refine js (ja (jk ?_))
     obtain ⟨o_1, h13, h14⟩ := bindO hm
     refine jM (ι := VL) (fun l_2 => VOK 1 l_2.n l_2.cap (RI.enc o_1) l_2.sp l_2.q) (fun l_2 => [(5, ptr b_1 0), (6, ptr b_2 0), (7, ptr b_3 0), (21, .int .i64 (d01.length : Int)), (22, .int .i64 s.t22)]) (fun l_2 => [kc b_3 #[.bool (decide (w1.dst = 0)), sL l_2] 61, kc b_2 #[.bool false, slv none 0 0] 61, (b_1, .cells (RB.enc met2).toArray 172 (0, 0)), kc b #[.int .i64 w1.fr, .int .i64 w1.dst, .int .i64 w1.lo, .int .i64 w1.hi, .int .i64 w1.cost, .int .i64 w1.goes] 170]) (fun l_2 => [vL 3 l_2 (RI.enc o_1)]) ?_ ?_
     ·replace hm := h13
      refine jj (jp (je Y Y (jl Y Y (jV (je Y Y ?_)))))
      obtain ⟨t26, h16, hm⟩ := bindO hm
      refine yA h16 Y Y Y ?_
      obtain ⟨t27, h17, hm⟩ := bindO hm
      refine jb Y Y Y (fun w _ => Ki h17 hl_met2 (runUnderlying172 w) (sizeOf4 w) Y Y) (jb Y Y Y (fun w hh => qx RB 0 h17 (isAgg4 w) Y (hh.bsegA 2 Y) Y (Nat.add_zero _).symm) (jb Y Y Y (fun _ _ => qv Y) (jo ?_)))
      refine jr Y (fun h18 => ?_) (fun h18 => ?_)
      ·replace hm := ifT (h18) hm
       refine jh (j7 1 runUnderlying61 Y sizeOf32 Y Y (kx 0 isAgg32 Y Y Y Y (je Y Y ?_)))
       refine kS RI [s.t22] (ps := [(0, _)]) (cells := [_]) (fun w => runUnderlying32 w) (fun w => sizeOf3 w) (fun w => zeroValue3 w) Y Y Y Y Y Y Y Y (fun L h19 => ?_)
       obtain ⟨t34, h20, hm⟩ := bindO hm
       refine yT RI 1 h20 underlying32 Yp Y Y Y Y Y h10 Y Y (vlen RI h19 Y) (AOK.q (vne h19)) (fun w hh => (hh.vsegA 0 Y h19)) Y (fun L_1 h21 h21n => ?_)
       refine jH (S' := [_, _, _, _]) (vs' := [_, _]) [0, 1, 2, 3] [0, 1] 0 Y Y Y Y (j7 1 runUnderlying61 Y sizeOf32 Y Y (yo (cs' := #[_, _]) (S' := [_, _, _, _]) 0 (fun w => sizeOf32 w) Y Y Y Y Y Y Y (jx (jt ?_))))
       obtain rfl := sj hm
       exact jn L_1 (h21) (sE Y) (hsE [0, 1, 2, 3] [1] 0 Y Y Y Y)
      replace hm := ifN h18 hm
      refine js (jt ?_)
      obtain rfl := sj hm
      exact jn l_1 (h10) (sE Y) (fun w hh => hh)
     intro l_2 hj
     have h15 := hj
     replace hm := h14
     refine ja (jh ?_)
     obtain ⟨t36, h22, hm⟩ := bindO hm
     refine yA h22 Y Y Y (je Y Y (jx ?_))
     obtain rfl := sj hm
     refine ja ?_
     exact jz _ l_2 Y (h15) (sE Y) (fun w hh => hh)
    replace hm := ifE h12 hm
    refine jP (ji (ji (jC ?_)))
    obtain rfl := sj hm
    have hbo := h11 _ Y
    subst hbo
    exact jn l_1 (h10) (sE Y) (fun w hh => hh)
   intro l hj
   have h9 := hj
   replace hm := h8
   refine ja (jp (qX [_, _] 0 isAgg61 sizeOf61 Y Y Y Y (jB (us := #[_, _]) (cs' := [_, _]) (S' := [_, _, _, _]) 1 (fun w => sizeOf61 w) Y Y Y Y Y Y Y (jo (ju (jf ?_))))))
   obtain rfl := sj hm
   refine jm Y (fun w hh => (.cell Y (loadVar_agg (vs := [_, _]) (isAgg61 _) (sizeOf61 _) (hh.cells 1 Y Y)) .nil)) (fun w hh => ⟨l, rfl, h9, hh.se [] [0] 3 Y Y Y rfl⟩)
  replace hm := ifE h6 hm
  refine js (ja (jk (jp (je Y Y (jb Y Y Y (fun _ _ => jw Y) (j7 0 runUnderlying163 Y sizeOf28 Y Y (j7 0 runUnderlying28 Y sizeOf25 Y Y ?_)))))))
  refine jb Y Y Y (fun w hh => jQ (isAgg25 w) Y (segCell (hh.seg 0 Y) 0 Y)) (jb Y Y Y (fun w _ => jR hna1 (runUnderlying25 w) Y) (je Y Y (jo (kG 3 ?_))))
  obtain ⟨o_2, h23, h24⟩ := bindO hm
  refine jM (ι := VL) (fun l_3 => VOK 1 l_3.n l_3.cap (RI.enc o_2) l_3.sp l_3.q) (fun l_3 => [(6, ptr b_2 0), (7, ptr b_3 0)]) (fun l_3 => [kc b_3 #[.bool (decide (w1.dst = 0)), sL l_3] 61, kc b_2 #[.bool false, slv none 0 0] 61, (b_1, .cells (RB.enc met2).toArray 172 (0, 0)), kc b #[.int .i64 w1.fr, .int .i64 w1.dst, .int .i64 w1.lo, .int .i64 w1.hi, .int .i64 w1.cost, .int .i64 w1.goes] 170]) (fun l_3 => [vL 3 l_3 (RI.enc o_2)]) ?_ ?_
  ·replace hm := h23
   refine jj ?_
   refine jD (ι := VL) hm (fun s_1 l_4 => VOK 1 l_4.n l_4.cap (RI.enc s_1.out7_of_) l_4.sp l_4.q) (fun s_1 l_4 => [(5, ptr b_1 0), (6, ptr b_2 0), (7, ptr b_3 0), (43, .int .i64 (d00.length : Int)), (44, .int .i64 s_1.t44)]) (fun s_1 l_4 => [kc b_3 #[.bool (decide (w1.dst = 0)), sL l_4] 61, kc b_2 #[.bool false, slv none 0 0] 61, (b_1, .cells (RB.enc met2).toArray 172 (0, 0)), kc b #[.int .i64 w1.fr, .int .i64 w1.dst, .int .i64 w1.lo, .int .i64 w1.hi, .int .i64 w1.cost, .int .i64 w1.goes] 170]) (fun s_1 l_4 => [vL 3 l_4 (RI.enc s_1.out7_of_)]) ⟨none, 0, 0, []⟩ (VOK.nil) (sE Y) (fun w hh => hh) (fun s_1 l_4 r_1 hpl hm h27 => ?_)
   have h26 := hpl
   unfold zI at hm
   refine jp (zK Y Y Y (jo (jk ?_)))
   refine jr Y (fun h28 => ?_) (fun h28 => ?_)
   ·replace hm := ifD h28 hm
    refine js (ja (jk ?_))
    obtain ⟨o_3, h29, h30⟩ := bindO hm
    refine jM (ι := VL) (fun l_5 => VOK 1 l_5.n l_5.cap (RI.enc o_3) l_5.sp l_5.q) (fun l_5 => [(5, ptr b_1 0), (6, ptr b_2 0), (7, ptr b_3 0), (43, .int .i64 (d00.length : Int)), (44, .int .i64 s_1.t44)]) (fun l_5 => [kc b_3 #[.bool (decide (w1.dst = 0)), sL l_5] 61, kc b_2 #[.bool false, slv none 0 0] 61, (b_1, .cells (RB.enc met2).toArray 172 (0, 0)), kc b #[.int .i64 w1.fr, .int .i64 w1.dst, .int .i64 w1.lo, .int .i64 w1.hi, .int .i64 w1.cost, .int .i64 w1.goes] 170]) (fun l_5 => [vL 3 l_5 (RI.enc o_3)]) ?_ ?_
    ·replace hm := h29
     refine jj (jp (je Y Y (jl Y Y (jV (je Y Y ?_)))))
     obtain ⟨t48, h32, hm⟩ := bindO hm
     refine yA h32 Y Y Y ?_
     obtain ⟨t49, h33, hm⟩ := bindO hm
     refine jb Y Y Y (fun w _ => Ki h33 hl_met2 (runUnderlying172 w) (sizeOf4 w) Y Y) (jb Y Y Y (fun w hh => qx RB 0 h33 (isAgg4 w) Y (hh.bsegA 2 Y) Y (Nat.add_zero _).symm) (jo ?_))
     refine jr Y (fun h34 => ?_) (fun h34 => ?_)
     ·replace hm := ifT (h34) hm
      refine jh (j7 1 runUnderlying61 Y sizeOf32 Y Y (kx 0 isAgg32 Y Y Y Y (je Y Y ?_)))
      refine kS RI [s_1.t44] (ps := [(0, _)]) (cells := [_]) (fun w => runUnderlying32 w) (fun w => sizeOf3 w) (fun w => zeroValue3 w) Y Y Y Y Y Y Y Y (fun L_2 h35 => ?_)
      obtain ⟨t55, h36, hm⟩ := bindO hm
      refine yT RI 1 h36 underlying32 Yp Y Y Y Y Y h26 Y Y (vlen RI h35 Y) (AOK.q (vne h35)) (fun w hh => (hh.vsegA 0 Y h35)) Y (fun L_3 h37 h37n => ?_)
      refine jH (S' := [_, _, _, _]) (vs' := [_, _]) [0, 1, 2, 3] [0, 1] 0 Y Y Y Y (j7 1 runUnderlying61 Y sizeOf32 Y Y (yo (cs' := #[_, _]) (S' := [_, _, _, _]) 0 (fun w => sizeOf32 w) Y Y Y Y Y Y Y (jx (jt ?_))))
      obtain rfl := sj hm
      exact jn L_3 (h37) (sE Y) (hsE [0, 1, 2, 3] [1] 0 Y Y Y Y)
     replace hm := ifN h34 hm
     refine js (jt ?_)
     obtain rfl := sj hm
     exact jn l_4 (h26) (sE Y) (fun w hh => hh)
    intro l_5 hj
    have h31 := hj
    replace hm := h30
    refine ja (jh ?_)
    obtain ⟨t57, h38, hm⟩ := bindO hm
    refine yA h38 Y Y Y (je Y Y (jx ?_))
    obtain rfl := sj hm
    refine ja ?_
    exact jz _ l_5 Y (h31) (sE Y) (fun w hh => hh)
   replace hm := ifE h28 hm
   refine jP (ji (ji (jC ?_)))
   obtain rfl := sj hm
   have hbo := h27 _ Y
   subst hbo
   exact jn l_4 (h26) (sE Y) (fun w hh => hh)
  intro l_3 hj
  have h25 := hj
  replace hm := h24
  refine ja (jp (qX [_, _] 0 isAgg61 sizeOf61 Y Y Y Y (jB (us := #[_, _]) (cs' := [_, _]) (S' := [_, _, _, _]) 1 (fun w => sizeOf61 w) Y Y Y Y Y Y Y (jo (ju ?_)))))
  obtain rfl := sj hm
  refine jm Y (fun w hh => (.cell Y (loadVar_agg (vs := [_, _]) (isAgg61 _) (sizeOf61 _) (hh.cells 1 Y Y)) .nil)) (fun w hh => ⟨l_3, rfl, h25, hh.se [] [0] 3 Y Y Y rfl⟩)
structure zB where
  most2 : Int
  t16 : Int
def qK (l1 : (List Change)) (n00 : (List Wy)) (s : zB) : Option (zB ⊕ Int) :=
 if s.t16 < (l1.length : Int) then
 ((ix l1 s.t16).bind fun t18 =>
 (qE n00 t18).bind fun t23 =>
 (Jo s.most2 [t23.r3]).bind fun t31 =>
 (addc s.t16 1).bind fun t32 =>
 some (.inl (⟨t31, t32⟩ : zB))) else
 (some (.inr s.most2))
structure zD where
  t35 : Int
  n00 : (List Wy)
def qH (l1 : (List Change)) (o : Int) (s_1 : zD) : Option (zD ⊕ (List Wy)) :=
 if s_1.t35 < (l1.length : Int) then
 (((ix l1 s_1.t35).bind fun t37 =>
 if t37.more = true then
 ((ix s_1.n00 t37.way).bind fun t47 =>
 (addc t47.goes o).bind fun t51 =>
 (ix s_1.n00 t37.way).bind fun t52 =>
 (some (s_1.n00.set (Int.toNat t37.way) (⟨t52.fr, t52.dst, t52.lo, t52.hi, t52.cost, t51⟩ : Wy))).bind fun n00_1 =>
 some n00_1) else
 ((ix s_1.n00 t37.way).bind fun t60 =>
 (subc t60.goes o).bind fun t64 =>
 (ix s_1.n00 t37.way).bind fun t65 =>
 (some (s_1.n00.set (Int.toNat t37.way) (⟨t65.fr, t65.dst, t65.lo, t65.hi, t65.cost, t64⟩ : Wy))).bind fun n00_2 =>
 some n00_2)).bind fun o_2 =>
 (addc s_1.t35 1).bind fun t67 =>
 some (.inl (⟨t67, o_2⟩ : zD))) else
 (some (.inr s_1.n00))
def zw (n00 : (List Wy)) (l1 : (List Change)) (most2 : Int) : Option (List Wy) :=
 (iterM FU (qK l1 n00) (⟨most2, 0⟩ : zB)).bind fun o =>
 (iterM FU (qH l1 o) (⟨0, n00⟩ : zD)).bind fun o_1 =>
 some o_1
theorem Qr (n00 : (List Wy)) (l1 : (List Change)) (most2 : Int) (rb : Nat) (V_n00 : VL) (qa1 : Option Addr) (na1 ca1 : Nat) (w : World) (hw : HV w (keys [] [vL 170 V_n00 (RWay.enc n00)]) [] [vL 170 V_n00 (RWay.enc n00)] [(rb, 0, [sL V_n00]), (aB qa1, aO qa1, RCh.enc l1)] w)  (hv_n00 : VOK 6 V_n00.n V_n00.cap (RWay.enc n00) V_n00.sp V_n00.q) (hna1 : l1.length = na1) (hqa1 : AOK na1 qa1) (hla1 : na1 ≤ ca1) {res : (List Wy)} (hm : zw n00 l1 most2 = some res) :
    Calls Try.prog 119 #[ptr rb 0, .slice qa1 na1 ca1, .int .i64 most2] w (fun en w' => ∃ l : Unit, en = .returned (.tuple #[]) ∧ (VOK 6 V_n00.n V_n00.cap (RWay.enc res) V_n00.sp V_n00.q) ∧ HV w (keys [] [vL 170 V_n00 (RWay.enc n00)]) [] [vL 170 V_n00 (RWay.enc res)] [] w') := by
  unfold zw at hm
  refine kl func119 Y ntmps119 Y (e := [(0, _), (1, _), (2, _)]) Y hw (jk (jp (je Y Y (jb Y Y Y (fun w _ => jR hna1 (runUnderlying171 w) Y) (je Y Y (jo ?_))))))
  obtain ⟨o, h2, h3⟩ := bindO hm
  refine jM (ι := Unit) (fun l => True) (fun l => [(0, ptr rb 0), (1, .slice qa1 na1 ca1), (2, .int .i64 o)]) (fun l => []) (fun l => [vL 170 V_n00 (RWay.enc n00)]) ?_ ?_
  ·replace hm := h2
   refine jj ?_
   refine jD (ι := Unit) hm (fun s l_1 => True) (fun s l_1 => [(0, ptr rb 0), (1, .slice qa1 na1 ca1), (2, .int .i64 s.most2), (14, .slice qa1 na1 ca1), (15, .int .i64 (l1.length : Int)), (16, .int .i64 s.t16)]) (fun s l_1 => []) (fun s l_1 => [vL 170 V_n00 (RWay.enc n00)]) () (trivial) (sE Y) (fun w hh => hh) (fun s l_1 r hpl hm h4 => ?_)
   unfold qK at hm
   refine jp (zK Y Y Y (jo (jk ?_)))
   refine jr Y (fun h5 => ?_) (fun h5 => ?_)
   ·replace hm := ifD h5 hm
    refine js (ja (jk (jj (jp ?_))))
    obtain ⟨t18, h6, hm⟩ := bindO hm
    refine jb Y Y Y (fun w _ => q7 h6 (runUnderlying171 w) (sizeOf178 w) Y Y hna1 hqa1) ?_
    refine jb Y Y Y (fun w hh => kT RCh 0 [.int .i64 t18.way, .bool t18.more] h6 (isAgg178 w) (sizeOf178 w) Y (hh.seg 1 Y) Y (Nat.add_zero _).symm) ?_
    refine jq (fun w => zeroValue178 w) Y (fun b h7 => ?_)
    refine jB (us := #[_, _]) (cs' := [_, _]) (S' := [_]) 0 (fun w => sizeOf178 w) Y Y Y Y Y Y Y (jV (je Y Y (qX [_, _] 0 isAgg178 sizeOf178 Y Y Y Y ?_)))
    obtain ⟨t23, h8, hm⟩ := bindO hm
    refine jd [] [] Y Y Y Y Y Y Y call144 (fun w hh => JM n00 t18 rb (qA V_n00.q) V_n00.n V_n00.cap w (HV.callee (S0 := []) (vs0 := []) hh (roR hh 0 Y (roC (hh.vsepA 0 Y hv_n00) roN))) (vlen RWay hv_n00 Y) (AOK.q (vne hv_n00)) (hv_n00).hle h8) (fun l_2 h9 => ?_)
    refine je Y Y (ka Y Y Y (ka Y Y Y (ka Y Y Y (ka Y Y Y (jl Y Y (jl Y Y (jl Y Y ?_)))))))
    refine jl Y Y (jo (jh (je Y Y (je Y Y ?_))))
    refine kS RI [t23.r3] (ps := [(0, _)]) (cells := [_]) (fun w => runUnderlying32 w) (fun w => sizeOf3 w) (fun w => zeroValue3 w) Y Y Y Y Y Y Y Y (fun L h10 => ?_)
    obtain ⟨t31, h11, hm⟩ := bindO hm
    refine jd [] [] Y Y Y Y Y Y Y call55 (fun w hh => Kn s.most2 [t23.r3] (qA L.q) L.n L.cap w (HV.callee (S0 := []) (vs0 := []) hh (roC (hh.vsepA 0 Y h10) roN)) (vlen RI h10 Y) (AOK.q (vne h10)) (h10).hle h11) (fun l_3 h12 => ?_)
    refine jl Y Y (jx (jt (ja (jh ?_))))
    obtain ⟨t32, h13, hm⟩ := bindO hm
    refine yA h13 Y Y Y (je Y Y (jx ?_))
    obtain rfl := sj hm
    refine ja ?_
    exact jz _ () Y (trivial) (sE Y) (hsE [] [1] 0 Y Y Y Y)
   replace hm := ifE h5 hm
   refine jP (ji (ji (jC ?_)))
   obtain rfl := sj hm
   have hbo := h4 _ Y
   subst hbo
   exact jn () (trivial) (sE Y) (fun w hh => hh)
  intro l hj
  replace hm := h3
  refine ja (jp (je Y Y (jb Y Y Y (fun w _ => jR hna1 (runUnderlying171 w) Y) (je Y Y (jo ?_)))))
  obtain ⟨o_1, h14, h15⟩ := bindO hm
  refine jM (ι := Unit) (fun l_4 => VOK 6 V_n00.n V_n00.cap (RWay.enc o_1) V_n00.sp V_n00.q) (fun l_4 => []) (fun l_4 => []) (fun l_4 => [vL 170 V_n00 (RWay.enc o_1)]) ?_ ?_
  ·replace hm := h14
   refine jj ?_
   refine jD (ι := Unit) hm (fun s_1 l_5 => VOK 6 V_n00.n V_n00.cap (RWay.enc s_1.n00) V_n00.sp V_n00.q) (fun s_1 l_5 => [(0, ptr rb 0), (2, .int .i64 o), (33, .slice qa1 na1 ca1), (34, .int .i64 (l1.length : Int)), (35, .int .i64 s_1.t35)]) (fun s_1 l_5 => []) (fun s_1 l_5 => [vL 170 V_n00 (RWay.enc s_1.n00)]) () (hv_n00) (sE Y) (fun w hh => hh) (fun s_1 l_5 r_1 hpl hm h18 => ?_)
   have h17 := hpl
   unfold qH at hm
   refine jp (zK Y Y Y (jo (jk ?_)))
   refine jr Y (fun h19 => ?_) (fun h19 => ?_)
   ·replace hm := ifD h19 hm
    refine js (ja (jk ?_))
    obtain ⟨o_2, h20, h21⟩ := bindO hm
    refine jM (ι := Unit) (fun l_6 => VOK 6 V_n00.n V_n00.cap (RWay.enc o_2) V_n00.sp V_n00.q) (fun l_6 => [(0, ptr rb 0), (2, .int .i64 o), (33, .slice qa1 na1 ca1), (34, .int .i64 (l1.length : Int)), (35, .int .i64 s_1.t35)]) (fun l_6 => []) (fun l_6 => [vL 170 V_n00 (RWay.enc o_2)]) ?_ ?_
    ·replace hm := h20
     refine jj (jp ?_)
     obtain ⟨t37, h23, hm⟩ := bindO hm
     refine jb Y Y Y (fun w _ => q7 h23 (runUnderlying171 w) (sizeOf178 w) Y Y hna1 hqa1) ?_
     refine jb Y Y Y (fun w hh => kT RCh 0 [.int .i64 t37.way, .bool t37.more] h23 (isAgg178 w) (sizeOf178 w) Y (hh.seg 1 Y) Y (Nat.add_zero _).symm) ?_
     refine jq (fun w => zeroValue178 w) Y (fun b_1 h24 => ?_)
     refine jB (us := #[_, _]) (cs' := [_, _]) (S' := [_]) 0 (fun w => sizeOf178 w) Y Y Y Y Y Y Y (jV (j7 1 runUnderlying178 Y sizeOf4 Y Y (kx 0 isAgg4 Y Y Y Y (jo ?_))))
     refine jr Y (fun h25 => ?_) (fun h25 => ?_)
     ·replace hm := ifT (h25) hm
      refine j4 (some 13) (.free 0 (.free 1 (.free 2 (.hoist 3 (.free 4 (.hoist 5 (.free 6 (.free 7 (.hoist 8 (.free 9 (.free 10 (.free 11 (.free 12 (.last 13 .done)))))))))))))) _ Y (by decide +kernel) (fun w k hh => hh.draw k) (fun w hh => hh) ?_
      refine kU Y Y Y (jg Y Y Y Y (fun _ _ => jw Y) (qo 0 runUnderlying168 sizeOf166 Y Y Y Y (jG Y Y Y Y (fun w hh => jQ (isAgg166 w) Y (segCell (hh.seg 0 Y) 0 Y)) (qo 0 runUnderlying178 sizeOf3 Y Y Y Y (qW 0 isAgg3 Y Y Y Y Y ?_)))))
      obtain ⟨t47, h26, hm⟩ := bindO hm
      refine jg Y Y Y Y (fun w _ => yJ h26 (runUnderlying166 w) (sizeOf170 w) Y Y (vlen RWay h17 Y) (vne h17)) (qo 5 runUnderlying170 sizeOf3 Y Y Y Y (jG Y Y Y Y (fun w hh => qx RWay 5 h26 (isAgg3 w) Y (hh.vseg 0 Y h17) Y Y) (kU Y Y Y ?_)))
      obtain ⟨t51, h27, hm⟩ := bindO hm
      refine jg Y Y Y Y (fun _ _ => KL h27 Y Y) ?_
      obtain ⟨t52, h28, hm⟩ := bindO hm
      refine jg Y Y Y Y (fun w _ => yJ h28 (runUnderlying166 w) (sizeOf170 w) Y Y (vlen RWay h17 Y) (vne h17)) (qo 5 runUnderlying170 sizeOf3 Y Y Y Y (Ko Y ?_))
      obtain ⟨n00_1, hn00_1, hm⟩ := bindO hm
      refine Y5 RWay 0 5 (⟨t52.fr, t52.dst, t52.lo, t52.hi, t52.cost, t51⟩ : Wy) (fun w => sizeOf3 w) Y Y Y Y h17 Y Y Y h28 Y Y (Option.some.inj hn00_1) (fun h29 => ?_)
      refine jH (S' := [_]) (vs' := [_]) [0] [0] 0 Y Y Y Y (Jp (jN (jt ?_)))
      obtain rfl := sj hm
      exact jn () (h29) (sE Y) (hsE [] [0] 0 Y Y Y Y)
     replace hm := ifN h25 hm
     refine j4 (some 13) (.free 0 (.free 1 (.free 2 (.hoist 3 (.free 4 (.hoist 5 (.free 6 (.free 7 (.hoist 8 (.free 9 (.free 10 (.free 11 (.free 12 (.last 13 .done)))))))))))))) _ Y (by decide +kernel) (fun w k hh => hh.draw k) (fun w hh => hh) ?_
     refine kU Y Y Y (jg Y Y Y Y (fun _ _ => jw Y) (qo 0 runUnderlying168 sizeOf166 Y Y Y Y (jG Y Y Y Y (fun w hh => jQ (isAgg166 w) Y (segCell (hh.seg 0 Y) 0 Y)) (qo 0 runUnderlying178 sizeOf3 Y Y Y Y (qW 0 isAgg3 Y Y Y Y Y ?_)))))
     obtain ⟨t60, h30, hm⟩ := bindO hm
     refine jg Y Y Y Y (fun w _ => yJ h30 (runUnderlying166 w) (sizeOf170 w) Y Y (vlen RWay h17 Y) (vne h17)) (qo 5 runUnderlying170 sizeOf3 Y Y Y Y (jG Y Y Y Y (fun w hh => qx RWay 5 h30 (isAgg3 w) Y (hh.vseg 0 Y h17) Y Y) (kU Y Y Y ?_)))
     obtain ⟨t64, h31, hm⟩ := bindO hm
     refine jg Y Y Y Y (fun _ _ => qc h31 Y Y) ?_
     obtain ⟨t65, h32, hm⟩ := bindO hm
     refine jg Y Y Y Y (fun w _ => yJ h32 (runUnderlying166 w) (sizeOf170 w) Y Y (vlen RWay h17 Y) (vne h17)) (qo 5 runUnderlying170 sizeOf3 Y Y Y Y (Ko Y ?_))
     obtain ⟨n00_2, hn00_2, hm⟩ := bindO hm
     refine Y5 RWay 0 5 (⟨t65.fr, t65.dst, t65.lo, t65.hi, t65.cost, t64⟩ : Wy) (fun w => sizeOf3 w) Y Y Y Y h17 Y Y Y h32 Y Y (Option.some.inj hn00_2) (fun h33 => ?_)
     refine jH (S' := [_]) (vs' := [_]) [0] [0] 0 Y Y Y Y (Jp (jN (jt ?_)))
     obtain rfl := sj hm
     exact jn () (h33) (sE Y) (hsE [] [0] 0 Y Y Y Y)
    intro l_6 hj
    have h22 := hj
    replace hm := h21
    refine ja (jh ?_)
    obtain ⟨t67, h34, hm⟩ := bindO hm
    refine yA h34 Y Y Y (je Y Y (jx ?_))
    obtain rfl := sj hm
    refine ja ?_
    exact jz _ () Y (h22) (sE Y) (fun w hh => hh)
   replace hm := ifE h19 hm
   refine jP (ji (ji (jC ?_)))
   obtain rfl := sj hm
   have hbo := h18 _ Y
   subst hbo
   exact jn () (h17) (.nil) (fun w hh => hh)
  intro l_4 hj
  have h16 := hj
  replace hm := h15
  obtain rfl := sj hm
  refine Kb Y (fun w hh => .nil) (fun w hh => ⟨(), rfl, h16, hh.se [] [0] 2 Y Y Y rfl⟩)
structure qU where
  a55_0 : (List Int)
  a66_0 : (List Change)
  a77 : Int
def kN (c0 : Change) (a1 : Int) (b2 : Int) (cost3 : Int) (room4 : Int) (a550 : (List Int)) (a660 : (List Change)) (a77 : Int) : Option qU :=
 (ix a550 a1).bind fun t14 =>
 (addc t14 cost3).bind fun t17 =>
 (ix a550 b2).bind fun t19 =>
 if t17 < t19 then
 ((ix a550 a1).bind fun t25 =>
 (addc t25 cost3).bind fun t28 =>
 (ix a550 b2).bind fun t31 =>
 (some (a550.set (Int.toNat b2) t28)).bind fun a55 =>
 (ix a660 b2).bind fun t32 =>
 (some (a660.set (Int.toNat b2) c0)).bind fun a66 =>
 some (⟨a55, a66, b2⟩ : qU)) else
 (some (⟨a550, a660, a77⟩ : qU))
theorem Ql (c0 : Change) (a1 : Int) (b2 : Int) (cost3 : Int) (room4 : Int) (a550 : (List Int)) (a660 : (List Change)) (a77 : Int) (pb : Nat) (pb_1 : Nat) (pb_2 : Nat) (w : World) (hw : HV w (keys [(pb, .cells (RI.enc a550).toArray 151 (0, 0)), (pb_1, .cells (RCh.enc a660).toArray 190 (0, 0)), kc pb_2 #[.int .i64 a77] 3] []) [(pb, .cells (RI.enc a550).toArray 151 (0, 0)), (pb_1, .cells (RCh.enc a660).toArray 190 (0, 0)), kc pb_2 #[.int .i64 a77] 3] [] [] w) (hl_a550 : a550.length = 12) (hl_a660 : a660.length = 12) {res : qU} (hm : kN c0 a1 b2 cost3 room4 a550 a660 a77 = some res) :
    Calls Try.prog 145 #[.agg #[.int .i64 c0.way, .bool c0.more], .int .i64 a1, .int .i64 b2, .int .i64 cost3, .int .i64 room4, ptr pb 0, ptr pb_1 0, ptr pb_2 0] w (fun en w' => ∃ l : Unit, en = .returned (.tuple #[]) ∧ (res.a55_0.length = 12 ∧ res.a66_0.length = 12) ∧ HV w (keys [(pb, .cells (RI.enc a550).toArray 151 (0, 0)), (pb_1, .cells (RCh.enc a660).toArray 190 (0, 0)), kc pb_2 #[.int .i64 a77] 3] []) [(pb, .cells (RI.enc res.a55_0).toArray 151 (0, 0)), (pb_1, .cells (RCh.enc res.a66_0).toArray 190 (0, 0)), kc pb_2 #[.int .i64 res.a77] 3] [] [] w') := by
  unfold kN at hm
  refine kl func145 Y ntmps145 Y (e := [(0, _), (1, _), (2, _), (3, _), (4, _), (5, _), (6, _), (7, _)]) Y hw (jp ?_)
  refine jF Y Y (fun b h3 => ?_)
  refine jo (jk ?_)
  refine j4 none (.free 0 (.free 1 (.hoist 2 (.free 3 (.free 4 (.free 5 (.free 6 (.hoist 7 (.free 8 .done))))))))) _ Y (by decide +kernel) (fun w k hh => hh.draw k) (fun w hh => hh) ?_
  refine kU Y Y Y ?_
  obtain ⟨t14, h4, hm⟩ := bindO hm
  refine jg Y Y Y Y (fun w _ => Ki h4 hl_a550 (runUnderlying151 w) (sizeOf3 w) Y Y) (jG Y Y Y Y (fun w hh => qx RI 0 h4 (isAgg3 w) Y (hh.bsegA 1 Y) Y (Nat.add_zero _).symm) (kU Y Y Y ?_))
  obtain ⟨t17, h5, hm⟩ := bindO hm
  refine jg Y Y Y Y (fun _ _ => KL h5 Y Y) (kU Y Y Y ?_)
  obtain ⟨t19, h6, hm⟩ := bindO hm
  refine jg Y Y Y Y (fun w _ => Ki h6 hl_a550 (runUnderlying151 w) (sizeOf3 w) Y Y) (jG Y Y Y Y (fun w hh => qx RI 0 h6 (isAgg3 w) Y (hh.bsegA 1 Y) Y (Nat.add_zero _).symm) (jg Y Y Y Y (fun _ _ => YN Y Y) (jN (ja ?_))))
  refine jr Y (fun h7 => ?_) (fun h7 => ?_)
  ·replace hm := ifD h7 hm
   refine j4 none (.free 0 (.free 1 (.free 2 (.free 3 (.free 5 (.hoist 7 (.free 8 (.one 4 (.free 6 (.free 9 (.one 10 (.free 11 (.one 12 (.one 13 .done)))))))))))))) (HV _ _ [kc b #[.int .i64 c0.way, .bool c0.more] 178] [] _) Y (by decide +kernel) (fun w k hh => hh.draw k) (hsE [0] [] 0 Y Y Y Y) ?_
   refine kU Y Y Y (kU Y Y Y (kU Y Y Y ?_))
   obtain ⟨t25, h8, hm⟩ := bindO hm
   refine jg Y Y Y Y (fun w _ => Ki h8 hl_a550 (runUnderlying151 w) (sizeOf3 w) Y Y) (kU Y Y Y (jG Y Y Y Y (fun w hh => zb (vs := [_, _]) (isAgg178 w) (sizeOf178 w) Y (hh.cells 0 Y Y)) (kU Y Y Y (jK Y (jb Y Y Y (fun w hh => qx RI 0 h8 (isAgg3 w) Y (hh.bsegA 1 Y) Y (Nat.add_zero _).symm) (jv (hsE [0] [] 0 Y Y Y Y) ?_))))))
   obtain ⟨t28, h9, hm⟩ := bindO hm
   refine jg Y Y Y Y (fun _ _ => KL h9 Y Y) ?_
   obtain ⟨t31, h10, hm⟩ := bindO hm
   refine jg Y Y Y Y (fun w _ => Ki h10 hl_a550 (runUnderlying151 w) (sizeOf3 w) Y Y) (jK Y ?_)
   obtain ⟨a55, ha55, hm⟩ := bindO hm
   refine Z2 RI 1 0 t28 (S' := [_, _, _, _]) (fun w => sizeOf3 w) Y Y Y Y hl_a550 (Nat.add_zero _).symm Y h10 Y Y (Option.some.inj ha55) Y (fun h11 => ?_)
   refine jv (hsE [0] [] 0 Y Y Y Y) ?_
   obtain ⟨t32, h12, hm⟩ := bindO hm
   refine jg Y Y Y Y (fun w _ => Ki h12 hl_a660 (runUnderlying190 w) (sizeOf178 w) Y Y) (jK Y ?_)
   obtain ⟨a66, ha66, hm⟩ := bindO hm
   refine ZM (us := #[_, _]) RCh 2 c0 (S' := [_, _, _, _]) (fun w => sizeOf178 w) Y Y Y hl_a660 Y Y h12 Y (Option.some.inj ha66) Y (fun h13 => ?_)
   refine jv (hsE [0] [] 0 Y Y Y Y) (jK Y (yo (cs' := #[_]) (S' := [_, _, _, _]) 3 (fun w => sizeOf3 w) Y Y Y Y Y Y Y (jv (hsE [0] [] 0 Y Y Y Y) (jN ?_))))
   obtain rfl := sj hm
   refine Kb Y (fun w hh => .nil) (fun w hh => ⟨(), rfl, ⟨h11, h13⟩, hh.se [1, 2, 3] [] 0 Y Y Y rfl⟩)
  replace hm := ifE h7 hm
  refine js ?_
  obtain rfl := sj hm
  refine Kb Y (fun w hh => .nil) (fun w hh => ⟨(), rfl, ⟨hl_a550, hl_a660⟩, hh.se [1, 2, 3] [] 0 Y Y Y rfl⟩)
structure zW where
  f1_c0_0 : (List Int)
  f1_c1_0 : (List Change)
  f1_c2 : Int
structure JV where
  f1_c0_0 : (List Int)
  f1_c1_0 : (List Change)
  f1_c2 : Int
structure k9 where
  t17 : Int
  f1_c0_0 : (List Int)
  f1_c1_0 : (List Change)
  f1_c2 : Int
structure JO where
  f1_c0_0 : (List Int)
  f1_c1_0 : (List Change)
  f1_c2 : Int
structure yh where
  t22 : Int
  f1_c0_0 : (List Int)
  f1_c1_0 : (List Change)
  f1_c2 : Int
structure qk where
  f1_c0_0 : (List Int)
  f1_c1_0 : (List Change)
  f1_c2 : Int
def j9 (n00 : (List Wy)) (s : k9) (s_1 : yh) : Option (yh ⊕ JO) :=
 if s_1.t22 < ([true, false].length : Int) then
 (((ix [true, false] s_1.t22).bind fun t24 =>
 (qE n00 (⟨s.t17, t24⟩ : Change)).bind fun t32 =>
 if 0 < t32.r3 then
 ((kN (⟨s.t17, t24⟩ : Change) t32.r0 t32.r1 t32.r2 t32.r3 s_1.f1_c0_0 s_1.f1_c1_0 s_1.f1_c2).bind fun t45 =>
 some (⟨t45.a55_0, t45.a66_0, t45.a77⟩ : qk)) else
 (some (⟨s_1.f1_c0_0, s_1.f1_c1_0, s_1.f1_c2⟩ : qk))).bind fun o_2 =>
 (addc s_1.t22 1).bind fun t46 =>
 some (.inl (⟨t46, o_2.f1_c0_0, o_2.f1_c1_0, o_2.f1_c2⟩ : yh))) else
 (some (.inr (⟨s_1.f1_c0_0, s_1.f1_c1_0, s_1.f1_c2⟩ : JO)))
def qh (n00 : (List Wy)) (s : k9) : Option (k9 ⊕ JV) :=
 if s.t17 < (n00.length : Int) then
 ((iterM FU (j9 n00 s) (⟨0, s.f1_c0_0, s.f1_c1_0, s.f1_c2⟩ : yh)).bind fun o_1 =>
 (addc s.t17 1).bind fun t47 =>
 some (.inl (⟨t47, o_1.f1_c0_0, o_1.f1_c1_0, o_1.f1_c2⟩ : k9))) else
 (some (.inr (⟨s.f1_c0_0, s.f1_c1_0, s.f1_c2⟩ : JV)))
def yF (n00 : (List Wy)) (f1_c00 : (List Int)) (f1_c10 : (List Change)) (f1_c2 : Int) : Option zW :=
 (iterM FU (qh n00) (⟨0, f1_c00, f1_c10, f1_c2⟩ : k9)).bind fun o =>
 some (⟨o.f1_c0_0, o.f1_c1_0, o.f1_c2⟩ : zW)
theorem QM (n00 : (List Wy)) (f1_c00 : (List Int)) (f1_c10 : (List Change)) (f1_c2 : Int) (rb : Nat) (qa1 : Option Addr) (na1 ca1 : Nat) (pb : Nat) (pb_1 : Nat) (pb_2 : Nat) (w : World) (hw : HV w (keys [(pb, .cells (RI.enc f1_c00).toArray 151 (0, 0)), (pb_1, .cells (RCh.enc f1_c10).toArray 190 (0, 0)), kc pb_2 #[.int .i64 f1_c2] 3] []) [(pb, .cells (RI.enc f1_c00).toArray 151 (0, 0)), (pb_1, .cells (RCh.enc f1_c10).toArray 190 (0, 0)), kc pb_2 #[.int .i64 f1_c2] 3] [] [(rb, 0, [.slice qa1 na1 ca1]), (aB qa1, aO qa1, RWay.enc n00)] w)  (hna1 : n00.length = na1) (hqa1 : AOK na1 qa1) (hla1 : na1 ≤ ca1) (hl_f1_c00 : f1_c00.length = 12) (hl_f1_c10 : f1_c10.length = 12) {res : zW} (hm : yF n00 f1_c00 f1_c10 f1_c2 = some res) :
    Calls Try.prog 132 #[ptr rb 0, .func (.func 145) #[] #[ptr pb 0, ptr pb_1 0, ptr pb_2 0]] w (fun en w' => ∃ l : Unit, en = .returned (.tuple #[]) ∧ (res.f1_c0_0.length = 12 ∧ res.f1_c1_0.length = 12) ∧ HV w (keys [(pb, .cells (RI.enc f1_c00).toArray 151 (0, 0)), (pb_1, .cells (RCh.enc f1_c10).toArray 190 (0, 0)), kc pb_2 #[.int .i64 f1_c2] 3] []) [(pb, .cells (RI.enc res.f1_c0_0).toArray 151 (0, 0)), (pb_1, .cells (RCh.enc res.f1_c1_0).toArray 190 (0, 0)), kc pb_2 #[.int .i64 res.f1_c2] 3] [] [] w') := by
  unfold yF at hm
  refine kl func132 Y ntmps132 Y (e := [(0, _), (1, _)]) Y hw (jp (je Y Y (jb Y Y Y (fun _ _ => jw Y) (j7 0 runUnderlying168 Y sizeOf166 Y Y (jb Y Y Y (fun w hh => jQ (isAgg166 w) Y (segCell (hh.seg 0 Y) 0 Y)) (jb Y Y Y (fun w _ => jR hna1 (runUnderlying166 w) Y) (je Y Y ?_)))))))
  refine jo ?_
  obtain ⟨o, h3, h4⟩ := bindO hm
  refine jM (ι := Unit) (fun l => o.f1_c0_0.length = 12 ∧ o.f1_c1_0.length = 12) (fun l => []) (fun l => [(pb, .cells (RI.enc o.f1_c0_0).toArray 151 (0, 0)), (pb_1, .cells (RCh.enc o.f1_c1_0).toArray 190 (0, 0)), kc pb_2 #[.int .i64 o.f1_c2] 3]) (fun l => []) ?_ ?_
  ·replace hm := h3
   refine jj ?_
   refine jD (ι := Unit) hm (fun s l_1 => s.f1_c0_0.length = 12 ∧ s.f1_c1_0.length = 12) (fun s l_1 => [(0, ptr rb 0), (1, .func (.func 145) #[] #[ptr pb 0, ptr pb_1 0, ptr pb_2 0]), (16, .int .i64 (n00.length : Int)), (17, .int .i64 s.t17)]) (fun s l_1 => [(pb, .cells (RI.enc s.f1_c0_0).toArray 151 (0, 0)), (pb_1, .cells (RCh.enc s.f1_c1_0).toArray 190 (0, 0)), kc pb_2 #[.int .i64 s.f1_c2] 3]) (fun s l_1 => []) () (⟨hl_f1_c00, hl_f1_c10⟩) (sE Y) (fun w hh => hh) (fun s l_1 r hpl hm h9 => ?_)
   obtain ⟨h7, h8⟩ := hpl
   unfold qh at hm
   refine jp (zK Y Y Y (jo (jk ?_)))
   refine jr Y (fun h10 => ?_) (fun h10 => ?_)
   ·replace hm := ifD h10 hm
    refine js (ja (jk (jj (jp (je Y Y (jl Y Y (jV ?_)))))))
    refine kS RB [true, false] (ps := [(0, _), (1, _)]) (cells := [_, _]) (fun w => runUnderlying136 w) (fun w => sizeOf4 w) (fun w => zeroValue4 w) Y Y Y Y Y Y Y Y (fun L h11 => ?_)
    refine jb Y Y Y (fun w _ => zQ (vlen RB h11 Y) (runUnderlying136 w) Y) (je Y Y (jo ?_))
    obtain ⟨o_1, h12, h13⟩ := bindO hm
    refine jM (ι := Unit) (fun l_2 => o_1.f1_c0_0.length = 12 ∧ o_1.f1_c1_0.length = 12) (fun l_2 => [(0, ptr rb 0), (1, .func (.func 145) #[] #[ptr pb 0, ptr pb_1 0, ptr pb_2 0]), (16, .int .i64 (n00.length : Int)), (17, .int .i64 s.t17)]) (fun l_2 => [(pb, .cells (RI.enc o_1.f1_c0_0).toArray 151 (0, 0)), (pb_1, .cells (RCh.enc o_1.f1_c1_0).toArray 190 (0, 0)), kc pb_2 #[.int .i64 o_1.f1_c2] 3]) (fun l_2 => []) ?_ ?_
    ·replace hm := h12
     refine jj ?_
     refine jD (ι := Unit) hm (fun s_1 l_3 => s_1.f1_c0_0.length = 12 ∧ s_1.f1_c1_0.length = 12) (fun s_1 l_3 => [(0, ptr rb 0), (1, .func (.func 145) #[] #[ptr pb 0, ptr pb_1 0, ptr pb_2 0]), (4, .int .i64 s.t17), (16, .int .i64 (n00.length : Int)), (17, .int .i64 s.t17), (20, sL L), (21, .int .i64 ([true, false].length : Int)), (22, .int .i64 s_1.t22)]) (fun s_1 l_3 => [(pb, .cells (RI.enc s_1.f1_c0_0).toArray 151 (0, 0)), (pb_1, .cells (RCh.enc s_1.f1_c1_0).toArray 190 (0, 0)), kc pb_2 #[.int .i64 s_1.f1_c2] 3]) (fun s_1 l_3 => [⟨4, RB.enc [true, false], L.sp, L.q, []⟩]) () (⟨h7, h8⟩) (sE Y) (fun w hh => hh) (fun s_1 l_3 r_1 hpl hm h18 => ?_)
     obtain ⟨h16, h17⟩ := hpl
     unfold j9 at hm
     refine jp (zK Y Y Y (jo (jk ?_)))
     refine jr Y (fun h19 => ?_) (fun h19 => ?_)
     ·replace hm := ifD h19 hm
      refine js (ja (jk ?_))
      obtain ⟨o_2, h20, h21⟩ := bindO hm
      refine jM (ι := Unit) (fun l_4 => o_2.f1_c0_0.length = 12 ∧ o_2.f1_c1_0.length = 12) (fun l_4 => [(0, ptr rb 0), (1, .func (.func 145) #[] #[ptr pb 0, ptr pb_1 0, ptr pb_2 0]), (4, .int .i64 s.t17), (16, .int .i64 (n00.length : Int)), (17, .int .i64 s.t17), (20, sL L), (21, .int .i64 ([true, false].length : Int)), (22, .int .i64 s_1.t22)]) (fun l_4 => [(pb, .cells (RI.enc o_2.f1_c0_0).toArray 151 (0, 0)), (pb_1, .cells (RCh.enc o_2.f1_c1_0).toArray 190 (0, 0)), kc pb_2 #[.int .i64 o_2.f1_c2] 3]) (fun l_4 => [⟨4, RB.enc [true, false], L.sp, L.q, []⟩]) ?_ ?_
      ·replace hm := h20
       refine jj (jp ?_)
       obtain ⟨t24, h24, hm⟩ := bindO hm
       refine jb Y Y Y (fun w _ => yJ h24 (runUnderlying136 w) (sizeOf4 w) Y Y (vlen RB h11 Y) (vne h11)) (jb Y Y Y (fun w hh => qx RB 0 h24 (isAgg4 w) Y (hh.vseg 0 Y h11) Y (Nat.add_zero _).symm) (jl Y Y (jV (je Y Y (je Y Y (jb Y Y Y (fun _ _ => jA (vs := [(0, _), (1, _)]) (cells := [_, _]) Y Y) ?_))))))
       refine jq (fun w => zeroValue178 w) Y (fun b h25 => ?_)
       refine jB (us := #[_, _]) (cs' := [_, _]) (S' := [_, _, _, _]) 0 (fun w => sizeOf178 w) Y Y Y Y Y Y Y (jV (je Y Y (qX [_, _] 0 isAgg178 sizeOf178 Y Y Y Y ?_)))
       obtain ⟨t32, h26, hm⟩ := bindO hm
       refine jd [] [] Y Y Y Y Y Y Y call144 (fun w hh => JM n00 (⟨s.t17, t24⟩ : Change) rb qa1 na1 ca1 w (HV.callee (S0 := []) (vs0 := []) hh (roR hh 0 Y (roR hh 1 Y roN))) hna1 hqa1 hla1 h26) (fun l_5 h27 => ?_)
       refine je Y Y (ka Y Y Y (ka Y Y Y (ka Y Y Y (ka Y Y Y (jl Y Y (jl Y Y (jl Y Y ?_)))))))
       refine jl Y Y (jV (je Y Y (jb Y Y Y (fun _ _ => Yv Y Y) (jo ?_))))
       refine jr Y (fun h28 => ?_) (fun h28 => ?_)
       ·replace hm := ifD h28 hm
        refine jh (je Y Y (qX [_, _] 0 isAgg178 sizeOf178 Y Y Y Y (je Y Y (je Y Y (je Y Y (je Y Y ?_))))))
        obtain ⟨t45, h29, hm⟩ := bindO hm
        refine jH (S' := [_, _, _, _]) (vs' := [_]) [1, 2, 3, 0] [0] 0 Y Y Y Y ?_
        refine jd [_, _, _] [] Y Y Y Y Y Y Y call145 (fun w hh => Ql (⟨s.t17, t24⟩ : Change) t32.r0 t32.r1 t32.r2 t32.r3 s_1.f1_c0_0 s_1.f1_c1_0 s_1.f1_c2 pb pb_1 pb_2 w (HV.callee (S0 := [_, _, _]) (vs0 := []) hh roN) h16 h17 h29) (fun l_6 h30 => ?_)
        obtain ⟨h31, h32⟩ := h30
        refine jH (S' := [_, _, _, _]) (vs' := [_]) [0, 1, 2, 3] [0] 0 Y Y Y Y (jx (jt ?_))
        obtain rfl := sj hm
        exact jn () (⟨h31, h32⟩) (sE Y) (hsE [0, 1, 2] [0] 0 Y Y Y Y)
       replace hm := ifE h28 hm
       refine js (jt ?_)
       obtain rfl := sj hm
       exact jn () (⟨h16, h17⟩) (sE Y) (hsE [1, 2, 3] [0] 0 Y Y Y Y)
      intro l_4 hj
      obtain ⟨h22, h23⟩ := hj
      replace hm := h21
      refine ja (jh ?_)
      obtain ⟨t46, h33, hm⟩ := bindO hm
      refine yA h33 Y Y Y (je Y Y (jx ?_))
      obtain rfl := sj hm
      refine ja ?_
      exact jz _ () Y (⟨h22, h23⟩) (sE Y) (fun w hh => hh)
     replace hm := ifE h19 hm
     refine jP (ji (ji (jC ?_)))
     obtain rfl := sj hm
     have hbo := h18 _ Y
     subst hbo
     exact jn () (⟨h16, h17⟩) (sE Y) (hsE [0, 1, 2] [] 0 Y Y Y Y)
    intro l_2 hj
    obtain ⟨h14, h15⟩ := hj
    replace hm := h13
    refine jt (ja (jh ?_))
    obtain ⟨t47, h34, hm⟩ := bindO hm
    refine yA h34 Y Y Y (je Y Y (jx ?_))
    obtain rfl := sj hm
    refine ja ?_
    exact jz _ () Y (⟨h14, h15⟩) (sE Y) (fun w hh => hh)
   replace hm := ifE h10 hm
   refine jP (ji (ji (jC ?_)))
   obtain rfl := sj hm
   have hbo := h9 _ Y
   subst hbo
   exact jn () (⟨h7, h8⟩) (.nil) (fun w hh => hh)
  intro l hj
  obtain ⟨h5, h6⟩ := hj
  replace hm := h4
  obtain rfl := sj hm
  refine Kb Y (fun w hh => .nil) (fun w hh => ⟨(), rfl, ⟨h5, h6⟩, hh.se [0, 1, 2] [] 2 Y Y Y rfl⟩)
structure y4 where
  last5 : Int
  by4 : (List Change)
  far3 : (List Int)
structure zf where
  t9 : Int
  last5 : Int
  by4 : (List Change)
  far3 : (List Int)
def qi (n00 : (List Wy)) (s : zf) : Option (zf ⊕ y4) :=
 if s.t9 < 13 then
 ((yF n00 s.far3 s.by4 (-1)).bind fun t13 =>
 (addc s.t9 1).bind fun t14 =>
 some (.inl (⟨t14, t13.f1_c2, t13.f1_c1_0, t13.f1_c0_0⟩ : zf))) else
 (some (.inr (⟨s.last5, s.by4, s.far3⟩ : y4)))
structure zh where
  at6 : Int
  t18 : Int
def ql (o : y4) (n00 : (List Wy)) (s_1 : zh) : Option (zh ⊕ Int) :=
 if s_1.t18 < 12 then
 ((ix o.by4 s_1.at6).bind fun t23 =>
 (qE n00 t23).bind fun t25 =>
 (addc s_1.t18 1).bind fun t30 =>
 some (.inl (⟨t25.r0, t30⟩ : zh))) else
 (some (.inr s_1.at6))
structure y5 where
  at6 : Int
  out7 : (List Change)
def k7 (o : y4) (n00 : (List Wy)) (o_1 : Int) (s_2 : y5) : Option (y5 ⊕ (Unit ⊕ (List Change))) :=
 (ix o.by4 s_2.at6).bind fun t34 =>
 (appc 16 s_2.out7 [t34]).bind fun t37 =>
 (ix o.by4 s_2.at6).bind fun t41 =>
 (qE n00 t41).bind fun t43 =>
 if t43.r0 = o_1 then
 (some (.inr (.inr t37))) else
 (some (.inl (⟨t43.r0, t37⟩ : y5)))
def yR (n00 : (List Wy)) : Option (List Change) :=
 (iterM FU (qi n00) (⟨0, -1, (List.replicate 12 (⟨0, false⟩ : Change) : (List Change)), (List.replicate 12 0 : (List Int))⟩ : zf)).bind fun o =>
 if o.last5 < 0 then
 (some []) else
 ((iterM FU (ql o n00) (⟨o.last5, 0⟩ : zh)).bind fun o_1 =>
 (iterM FU (k7 o n00 o_1) (⟨o_1, []⟩ : y5)).bind fun o_2 =>
 oc o_2 (fun j => none) (fun r_3 => some r_3))
theorem Yn (n00 : (List Wy)) (rb : Nat) (qa1 : Option Addr) (na1 ca1 : Nat) (w : World) (hw : HV w (keys [] []) [] [] [(rb, 0, [.slice qa1 na1 ca1]), (aB qa1, aO qa1, RWay.enc n00)] w)  (hna1 : n00.length = na1) (hqa1 : AOK na1 qa1) (hla1 : na1 ≤ ca1) {res : (List Change)} (hm : yR n00 = some res) :
    Calls Try.prog 120 #[ptr rb 0] w (fun en w' => ∃ l : VL, en = .returned (sL l) ∧ (VOK 2 l.n l.cap (RCh.enc res) l.sp l.q ∧ (l.q = none ↔ res = [])) ∧ HV w (keys [] []) [] [vL 178 l (RCh.enc res)] [] w') := by
  unfold yR at hm
  refine kl func120 Y ntmps120 Y (e := [(0, _)]) Y hw (jp (jb Y Y Y (fun _ _ => qf Y) (jV ?_)))
  refine Ke RI (l := (List.replicate 12 0 : (List Int))) (k := 12) (fun w => zeroValue151 w) Y Y Y (fun b h3 h4 => ?_)
  refine jV ?_
  refine Ke RCh (l := (List.replicate 12 (⟨0, false⟩ : Change) : (List Change))) (k := 12) (fun w => zeroValue190 w) Y Y Y (fun b_1 h5 h6 => ?_)
  refine jV ?_
  refine jq (fun w => zeroValue3 w) Y (fun b_2 h7 => ?_)
  refine yo (cs' := #[_]) (S' := [_, _, _]) 0 (fun w => sizeOf3 w) Y Y Y Y Y Y Y (jo (jk (jp (je Y Y (jo ?_)))))
  obtain ⟨o, h8, h9⟩ := bindO hm
  refine jM (ι := Unit) (fun l => o.by4.length = 12 ∧ o.far3.length = 12) (fun l => [(0, ptr rb 0), (4, ptr b_1 0), (5, ptr b_2 0)]) (fun l => [kc b_2 #[.int .i64 o.last5] 3, (b_1, .cells (RCh.enc o.by4).toArray 190 (0, 0)), (b, .cells (RI.enc o.far3).toArray 151 (0, 0))]) (fun l => []) ?_ ?_
  ·replace hm := h8
   refine jj ?_
   refine jD (ι := Unit) hm (fun s l_1 => s.by4.length = 12 ∧ s.far3.length = 12) (fun s l_1 => [(0, ptr rb 0), (3, ptr b 0), (4, ptr b_1 0), (5, ptr b_2 0), (9, .int .i64 s.t9)]) (fun s l_1 => [kc b_2 #[.int .i64 s.last5] 3, (b_1, .cells (RCh.enc s.by4).toArray 190 (0, 0)), (b, .cells (RI.enc s.far3).toArray 151 (0, 0))]) (fun s l_1 => []) () (⟨h6, h4⟩) (sE Y) (fun w hh => hh) (fun s l_1 r hpl hm h14 => ?_)
   obtain ⟨h12, h13⟩ := hpl
   unfold qi at hm
   refine jp (zK Y Y Y (jo (jk ?_)))
   refine jr Y (fun h15 => ?_) (fun h15 => ?_)
   ·replace hm := ifD h15 hm
    refine js (ja (jk (jj (jp (yo (cs' := #[_]) (S' := [_, _, _]) 0 (fun w => sizeOf3 w) Y Y Y Y Y Y Y (jo (jh ?_)))))))
    refine je Y Y (jb Y Y Y (fun _ _ => jE (u := #[]) (u' := #[_, _, _]) Y Y) ?_)
    obtain ⟨t13, h16, hm⟩ := bindO hm
    refine jH (S' := [_, _, _]) (vs' := []) [2, 1, 0] [] 0 Y Y Y Y ?_
    refine jd [_, _, _] [] Y Y Y Y Y Y Y call132 (fun w hh => QM n00 s.far3 s.by4 (-1) rb qa1 na1 ca1 b b_1 b_2 w (HV.callee (S0 := [_, _, _]) (vs0 := []) hh (roR hh 0 Y (roR hh 1 Y roN))) hna1 hqa1 hla1 h13 h12 h16) (fun l_2 h17 => ?_)
    obtain ⟨h18, h19⟩ := h17
    refine jH (S' := [_, _, _]) (vs' := []) [0, 1, 2] [] 0 Y Y Y Y (jx (jt (ja (jh ?_))))
    obtain ⟨t14, h20, hm⟩ := bindO hm
    refine yA h20 Y Y Y (je Y Y (jx ?_))
    obtain rfl := sj hm
    refine ja ?_
    exact jz _ () Y (⟨h19, h18⟩) (sE Y) (hsE [2, 1, 0] [] 0 Y Y Y Y)
   replace hm := ifE h15 hm
   refine jP (ji (ji (jC ?_)))
   obtain rfl := sj hm
   have hbo := h14 _ Y
   subst hbo
   exact jn () (⟨h12, h13⟩) (sE Y) (fun w hh => hh)
  intro l hj
  obtain ⟨h10, h11⟩ := hj
  replace hm := h9
  refine ja (jk (jp (kx 0 isAgg3 Y Y Y Y (zK Y Y Y (jo ?_)))))
  refine jr Y (fun h21 => ?_) (fun h21 => ?_)
  ·replace hm := ifD h21 hm
   refine jp (jb Y Y Y (fun _ _ => qf Y) (jo (ju (jf (kG 178 ?_)))))
   obtain rfl := sj hm
   refine jm Y (fun w hh => (.tmp Y .nil)) (fun w hh => ⟨⟨none, 0, 0, []⟩, rfl, ⟨VOK.nil, nieN⟩, hh.se [] [0] 2 Y Y Y rfl⟩)
  replace hm := ifE h21 hm
  refine js (ja (jp (kx 0 isAgg3 Y Y Y Y (jl Y Y (jo (jk (jp ?_)))))))
  refine je Y Y (jo ?_)
  obtain ⟨o_1, h22, h23⟩ := bindO hm
  refine jM (ι := Unit) (fun l_3 => True) (fun l_3 => [(0, ptr rb 0), (4, ptr b_1 0), (6, .int .i64 o_1)]) (fun l_3 => [kc b_2 #[.int .i64 o.last5] 3, (b_1, .cells (RCh.enc o.by4).toArray 190 (0, 0)), (b, .cells (RI.enc o.far3).toArray 151 (0, 0))]) (fun l_3 => []) ?_ ?_
  ·replace hm := h22
   refine jj ?_
   refine jD (ι := Unit) hm (fun s_1 l_4 => True) (fun s_1 l_4 => [(0, ptr rb 0), (4, ptr b_1 0), (6, .int .i64 s_1.at6), (18, .int .i64 s_1.t18)]) (fun s_1 l_4 => [kc b_2 #[.int .i64 o.last5] 3, (b_1, .cells (RCh.enc o.by4).toArray 190 (0, 0)), (b, .cells (RI.enc o.far3).toArray 151 (0, 0))]) (fun s_1 l_4 => []) () (trivial) (sE Y) (fun w hh => hh) (fun s_1 l_4 r_1 hpl hm h24 => ?_)
   unfold ql at hm
   refine jp (zK Y Y Y (jo (jk ?_)))
   refine jr Y (fun h25 => ?_) (fun h25 => ?_)
   ·replace hm := ifD h25 hm
    refine js (ja (jk (jj (jh (je Y Y (je Y Y ?_))))))
    obtain ⟨t23, h26, hm⟩ := bindO hm
    refine jb Y Y Y (fun w _ => Ki h26 h10 (runUnderlying190 w) (sizeOf178 w) Y Y) ?_
    refine jb Y Y Y (fun w hh => kT RCh 0 [.int .i64 t23.way, .bool t23.more] h26 (isAgg178 w) (sizeOf178 w) Y (hh.bsegA 1 Y) Y (Nat.add_zero _).symm) ?_
    obtain ⟨t25, h27, hm⟩ := bindO hm
    refine jd [] [] Y Y Y Y Y Y Y call144 (fun w hh => JM n00 t23 rb qa1 na1 ca1 w (HV.callee (S0 := []) (vs0 := []) hh (roR hh 0 Y (roR hh 1 Y roN))) hna1 hqa1 hla1 h27) (fun l_5 h28 => ?_)
    refine je Y Y (ka Y Y Y (ka Y Y Y (ka Y Y Y (ka Y Y Y (jl Y Y (jx (jt ?_)))))))
    refine ja (jh ?_)
    obtain ⟨t30, h29, hm⟩ := bindO hm
    refine yA h29 Y Y Y (je Y Y (jx ?_))
    obtain rfl := sj hm
    refine ja ?_
    exact jz _ () Y (trivial) (sE Y) (fun w hh => hh)
   replace hm := ifE h25 hm
   refine jP (ji (ji (jC ?_)))
   obtain rfl := sj hm
   have hbo := h24 _ Y
   subst hbo
   exact jn () (trivial) (sE Y) (fun w hh => hh)
  intro l_3 hj
  replace hm := h23
  refine ja (jp (jb Y Y Y (fun _ _ => qf Y) (jV (je Y Y (jl Y Y (jo (kG 178 ?_)))))))
  obtain ⟨o_2, h30, h31⟩ := bindO hm
  refine jM (ι := Unit) (fun j => False) (fun j => []) (fun j => [kc b_2 #[.int .i64 o.last5] 3, (b_1, .cells (RCh.enc o.by4).toArray 190 (0, 0)), (b, .cells (RI.enc o.far3).toArray 151 (0, 0))]) (fun j => []) ?_ ?_
  ·replace hm := h30
   refine jj ?_
   refine jD (ι := VL) hm (fun s_2 l_6 => VOK 2 l_6.n l_6.cap (RCh.enc s_2.out7) l_6.sp l_6.q ∧ (l_6.q = none ↔ s_2.out7 = [])) (fun s_2 l_6 => [(0, ptr rb 0), (4, ptr b_1 0), (6, .int .i64 s_2.at6), (7, sL l_6), (8, .int .i64 o_1)]) (fun s_2 l_6 => [kc b_2 #[.int .i64 o.last5] 3, (b_1, .cells (RCh.enc o.by4).toArray 190 (0, 0)), (b, .cells (RI.enc o.far3).toArray 151 (0, 0))]) (fun s_2 l_6 => [vL 178 l_6 (RCh.enc s_2.out7)]) ⟨none, 0, 0, []⟩ (⟨VOK.nil, nieN⟩) (sE Y) (fun w hh => hh) (fun s_2 l_6 r_2 hpl hm h34 => ?_)
   obtain ⟨h32, h33⟩ := hpl
   unfold k7 at hm
   refine jj (jp (je Y Y (je Y Y ?_)))
   obtain ⟨t34, h35, hm⟩ := bindO hm
   refine jb Y Y Y (fun w _ => Ki h35 h10 (runUnderlying190 w) (sizeOf178 w) Y Y) ?_
   refine jb Y Y Y (fun w hh => kT RCh 0 [.int .i64 t34.way, .bool t34.more] h35 (isAgg178 w) (sizeOf178 w) Y (hh.bsegA 1 Y) Y (Nat.add_zero _).symm) ?_
   refine kS RCh [t34] (ps := [(0, _)]) (cells := [_, _]) (fun w => runUnderlying171 w) (fun w => sizeOf178 w) (fun w => zeroValue178 w) Y Y Y Y Y Y Y Y (fun L h36 => ?_)
   obtain ⟨t37, h37, hm⟩ := bindO hm
   refine yT RCh 1 h37 underlying171 Q1 Y Y Y Y Y h32 Y Y (vlen RCh h36 Y) (AOK.q (vne h36)) (fun w hh => (hh.vsegA 0 Y h36)) Y (fun L_1 h38 h38n => ?_)
   refine jH (S' := [_, _, _]) (vs' := [_, _]) [0, 1, 2] [0, 1] 0 Y Y Y Y (jl Y Y (jV (je Y Y (je Y Y ?_))))
   obtain ⟨t41, h39, hm⟩ := bindO hm
   refine jb Y Y Y (fun w _ => Ki h39 h10 (runUnderlying190 w) (sizeOf178 w) Y Y) ?_
   refine jb Y Y Y (fun w hh => kT RCh 0 [.int .i64 t41.way, .bool t41.more] h39 (isAgg178 w) (sizeOf178 w) Y (hh.bsegA 1 Y) Y (Nat.add_zero _).symm) ?_
   obtain ⟨t43, h40, hm⟩ := bindO hm
   refine jd [] [] Y Y Y Y Y Y Y call144 (fun w hh => JM n00 t41 rb qa1 na1 ca1 w (HV.callee (S0 := []) (vs0 := []) hh (roR hh 0 Y (roR hh 1 Y roN))) hna1 hqa1 hla1 h40) (fun l_7 h41 => ?_)
   refine je Y Y (ka Y Y Y (ka Y Y Y (ka Y Y Y (ka Y Y Y (jl Y Y (jV (je Y Y ?_)))))))
   refine je Y Y (jb Y Y Y (fun _ _ => JT Y Y) (jo ?_))
   refine jr Y (fun h42 => ?_) (fun h42 => ?_)
   ·replace hm := ifD h42 hm
    refine jp (je Y Y (jl Y Y (jo (ju (jy (jf (jy ?_)))))))
    obtain rfl := sj hm
    have hbo := h34 _ Y
    subst hbo
    refine jf ?_
    replace hm := ocR h31
    obtain rfl := sj hm
    refine jm Y (fun w hh => (.tmp Y .nil)) (fun w hh => ⟨L_1, rfl, ⟨h38, (h38n h33)⟩, hh.se [] [1] 2 Y Y Y rfl⟩)
   replace hm := ifE h42 hm
   refine js (jt ?_)
   obtain rfl := sj hm
   refine ja ?_
   exact jz _ L_1 Y (⟨h38, (h38n h33)⟩) (sE Y) (hsE [0, 1, 2] [1] 0 Y Y Y Y)
  exact fun _ hf => hf.elim
structure qF where
  r1 : Lack
  t12 : (List Wy)
structure kO where
  t20 : Int
  t12 : (List Wy)
def qC (s : kO) (d00 : (List Strip)) (d01 : (List Span)) (s_1 : (List Wy)) : Option ((List Wy) ⊕ ((List Wy) ⊕ (Lack ⊕ qF))) :=
 (ix s_1 s.t20).bind fun t28 =>
 (ix s_1 s.t20).bind fun t36 =>
 if t28.goes < t36.lo then
 ((ix s_1 s.t20).bind fun t45 =>
 (JZ s_1 t45.dst t45.fr).bind fun t53 =>
 if (t53.r0.isEmpty) = true then
 ((KA d00 d01 t45 t53.r1).bind fun t61 =>
 some (.inr (.inr (.inl t61)))) else
 ((subc t45.lo t45.goes).bind fun t72 =>
 (appc 16 t53.r0 [(⟨s.t20, true⟩ : Change)]).bind fun t67 =>
 (zw s_1 t67 t72).bind fun t73 =>
 some (.inl t73))) else
 (some (.inr (.inl s_1)))
def qG (t14 : (List Wy)) (d00 : (List Strip)) (d01 : (List Span)) (s : kO) : Option (kO ⊕ ((List Wy) ⊕ (Lack ⊕ qF))) :=
 if s.t20 < (t14.length : Int) then
 ((iterM FU (qC s d00 d01) s.t12).bind fun o_1 =>
 oc o_1 (fun j_1 => (addc s.t20 1).bind fun t74 =>
 some (.inl (⟨t74, j_1⟩ : kO))) (fun r_2 => some (.inr (.inr r_2)))) else
 (some (.inr (.inl s.t12)))
def qD  (s_2 : (List Wy)) : Option ((List Wy) ⊕ (List Wy)) :=
 (yR s_2).bind fun t76 =>
 if (t76.isEmpty) = true then
 (some (.inr s_2)) else
 ((zw s_2 t76 1000000).bind fun t81 =>
 some (.inl t81))
def jW (d00 : (List Strip)) (d01 : (List Span)) (d02 : (List (Pair × Bool))) (c1_0 : (Pair → Option Int)) : Option (Lack ⊕ qF) :=
 (Jq d00 d01 d02 c1_0).bind fun t14 =>
 (iterM FU (qG t14 d00 d01) (⟨0, t14⟩ : kO)).bind fun o =>
 oc o (fun j => (iterM FU (qD) j).bind fun o_2 =>
 some (.inr (⟨(⟨false, []⟩ : Lack), o_2⟩ : qF))) (fun r_4 => some r_4)
theorem j2 (d00 : (List Strip)) (d01 : (List Span)) (d02 : (List (Pair × Bool))) (c1_0 : (Pair → Option Int)) (rb : Nat) (qa1 : Option Addr) (na1 ca1 : Nat) (qa2 : Option Addr) (na2 ca2 : Nat) (pb : Nat) (f_c1_0 : FuncId) (fs_c1_0 cs_c1_0 : Array Value) (T_c1_0 : List Sg) (w : World) (hw : HV w (keys [(pb, gobj (kR RPr) kB d02)] []) [(pb, gobj (kR RPr) kB d02)] [] ([(rb, 0, [.slice qa1 na1 ca1, .slice qa2 na2 ca2, .map (some pb)]), (aB qa1, aO qa1, RSt.enc d00), (aB qa2, aO qa2, RSp.enc d01)] ++ T_c1_0) w)  (hna1 : d00.length = na1) (hqa1 : AOK na1 qa1) (hla1 : na1 ≤ ca1) (hna2 : d01.length = na2) (hqa2 : AOK na2 qa2) (hla2 : na2 ≤ ca2) (hcl_c1_0 : ClOK Try.prog f_c1_0 fs_c1_0 cs_c1_0 T_c1_0 (fun x : Pair => [.agg #[.int .i64 x.tenant, .int .i64 x.strip]]) (fun x : Int => .int .i64 x) c1_0) {res : (Lack ⊕ qF)} (hm : jW d00 d01 d02 c1_0 = some res) :
    Calls Try.prog 66 #[ptr rb 0, .agg #[.func (.func f_c1_0) fs_c1_0 cs_c1_0]] w (fun en w' => match res with | .inl res_ => (∃ l : VL, en = .returned (.tuple #[.pointer none, .agg #[.bool res_.tenants, sL l]]) ∧ (VOK 1 l.n l.cap (RI.enc res_.of_) l.sp l.q) ∧ HV w (keys [(pb, gobj (kR RPr) kB d02)] []) [(pb, gobj (kR RPr) kB d02)] [vL 3 l (RI.enc res_.of_)] [] w') | .inr res_ => (∃ l : Nat × VL × VL, en = .returned (.tuple #[ptr l.1 0, .agg #[.bool res_.r1.tenants, sL l.2.1]]) ∧ (VOK 1 l.2.1.n l.2.1.cap (RI.enc res_.r1.of_) l.2.1.sp l.2.1.q ∧ VOK 6 l.2.2.n l.2.2.cap (RWay.enc res_.t12) l.2.2.sp l.2.2.q) ∧ HV w (keys [(pb, gobj (kR RPr) kB d02)] []) [(pb, gobj (kR RPr) kB d02), kc l.1 #[sL l.2.2] 168] [vL 3 l.2.1 (RI.enc res_.r1.of_), vL 170 l.2.2 (RWay.enc res_.t12)] [] w')) := by
  unfold jW at hm
  refine kl func66 Y ntmps66 Y (e := [(0, _), (1, _)]) Y hw (jp ?_)
  refine jF Y Y (fun b h4 => ?_)
  refine jl Y Y ?_
  refine jq (fun w => zeroValue61 w) Y (fun b_1 h5 => ?_)
  refine jo (ZY (jp (je Y Y (qX [_] 1 isAgg123 sizeOf123 Y Y Y Y ?_))))
  obtain ⟨t14, h6, hm⟩ := bindO hm
  refine jH (S' := [_, _, _]) (vs' := []) [2, 0, 1] [] 0 Y Y Y Y ?_
  refine jd [_] [] Y Y Y Y Y Y Y call116 (fun w hh => YL d00 d01 d02 c1_0 rb qa1 na1 ca1 qa2 na2 ca2 pb f_c1_0 fs_c1_0 cs_c1_0 T_c1_0 w (HV.callee (S0 := [_]) (vs0 := []) hh (roA (roR hh 0 Y (roR hh 1 Y (roR hh 2 Y roN))) (hh.rsepT (fun t ht => (List.mem_cons_of_mem _ (List.mem_cons_of_mem _ (List.mem_cons_of_mem _ ht))))))) hna1 hqa1 hla1 hna2 hqa2 hla2 hcl_c1_0 h6) (fun l h7 => ?_)
  have h8 := h7
  refine jH (S' := [_, _, _, _]) (vs' := [_]) [0, 1, 2, 3] [0] 0 Y Y Y Y (jl Y Y (jo (jk (jp (je Y Y (jb Y Y Y (fun _ _ => jw Y) (j7 0 runUnderlying168 Y sizeOf166 Y Y ?_)))))))
  refine kx 1 isAgg166 Y Y Y Y (jb Y Y Y (fun w _ => zQ (vlen RWay h8 Y) (runUnderlying166 w) Y) (je Y Y (jo ?_)))
  obtain ⟨o, h9, h10⟩ := bindO hm
  refine jM (ι := (List Wy)) (fun j => o = .inl j ∧ VOK 6 l.2.n l.2.cap (RWay.enc j) l.2.sp l.2.q) (fun j => [(5, ptr b_1 0), (6, ptr l.1 0)]) (fun j => [(pb, gobj (kR RPr) kB d02), kc l.1 #[sL l.2] 168, kc b_1 #[.bool false, slv none 0 0] 61, kc b #[.func (.func f_c1_0) fs_c1_0 cs_c1_0] 123]) (fun j => [vL 170 l.2 (RWay.enc j)]) ?_ ?_
  ·replace hm := h9
   refine jj ?_
   refine jD (ι := Unit) hm (fun s l_1 => VOK 6 l.2.n l.2.cap (RWay.enc s.t12) l.2.sp l.2.q) (fun s l_1 => [(0, ptr rb 0), (5, ptr b_1 0), (6, ptr l.1 0), (19, .int .i64 (t14.length : Int)), (20, .int .i64 s.t20)]) (fun s l_1 => [(pb, gobj (kR RPr) kB d02), kc l.1 #[sL l.2] 168, kc b_1 #[.bool false, slv none 0 0] 61, kc b #[.func (.func f_c1_0) fs_c1_0 cs_c1_0] 123]) (fun s l_1 => [vL 170 l.2 (RWay.enc s.t12)]) () (h8) (sE Y) (fun w hh => hh) (fun s l_1 r hpl hm h13 => ?_)
   have h12 := hpl
   unfold qG at hm
   refine jp (zK Y Y Y (jo (jk ?_)))
   refine jr Y (fun h14 => ?_) (fun h14 => ?_)
   ·replace hm := ifD h14 hm
    refine js (ja (jk (jj (jp (je Y Y (jl Y Y (jo ?_)))))))
    obtain ⟨o_1, h15, h16⟩ := bindO hm
    refine jM (ι := (List Wy)) (fun j_1 => o_1 = .inl j_1 ∧ VOK 6 l.2.n l.2.cap (RWay.enc j_1) l.2.sp l.2.q) (fun j_1 => [(0, ptr rb 0), (5, ptr b_1 0), (6, ptr l.1 0), (19, .int .i64 (t14.length : Int)), (20, .int .i64 s.t20)]) (fun j_1 => [(pb, gobj (kR RPr) kB d02), kc l.1 #[sL l.2] 168, kc b_1 #[.bool false, slv none 0 0] 61, kc b #[.func (.func f_c1_0) fs_c1_0 cs_c1_0] 123]) (fun j_1 => [vL 170 l.2 (RWay.enc j_1)]) ?_ ?_
    ·replace hm := h15
     refine jj ?_
     refine jD (ι := Unit) hm (fun s_1 l_2 => VOK 6 l.2.n l.2.cap (RWay.enc s_1) l.2.sp l.2.q) (fun s_1 l_2 => [(0, ptr rb 0), (5, ptr b_1 0), (6, ptr l.1 0), (7, .int .i64 s.t20), (19, .int .i64 (t14.length : Int)), (20, .int .i64 s.t20)]) (fun s_1 l_2 => [(pb, gobj (kR RPr) kB d02), kc l.1 #[sL l.2] 168, kc b_1 #[.bool false, slv none 0 0] 61, kc b #[.func (.func f_c1_0) fs_c1_0 cs_c1_0] 123]) (fun s_1 l_2 => [vL 170 l.2 (RWay.enc s_1)]) () (h12) (sE Y) (fun w hh => hh) (fun s_1 l_2 r_1 hpl hm h19 => ?_)
     have h18 := hpl
     unfold qC at hm
     refine jk (jk ?_)
     refine j4 none (.free 0 (.free 1 (.free 2 (.hoist 3 (.free 4 (.free 5 (.free 6 (.hoist 7 (.free 8 (.free 9 (.free 10 (.hoist 11 (.free 12 (.free 13 (.free 14 (.hoist 15 (.free 16 .done))))))))))))))))) _ Y (by decide +kernel) (fun w k hh => hh.draw k) (fun w hh => hh) ?_
     refine kU Y Y Y (jg Y Y Y Y (fun _ _ => jw Y) (qo 0 runUnderlying168 sizeOf166 Y Y Y Y (qW 1 isAgg166 Y Y Y Y Y (kU Y Y Y ?_))))
     obtain ⟨t28, h20, hm⟩ := bindO hm
     refine jg Y Y Y Y (fun w _ => yJ h20 (runUnderlying166 w) (sizeOf170 w) Y Y (vlen RWay h18 Y) (vne h18)) (qo 5 runUnderlying170 sizeOf3 Y Y Y Y (jG Y Y Y Y (fun w hh => qx RWay 5 h20 (isAgg3 w) Y (hh.vseg 0 Y h18) Y Y) (kU Y Y Y (jg Y Y Y Y (fun _ _ => jw Y) (qo 0 runUnderlying168 sizeOf166 Y Y Y Y (qW 1 isAgg166 Y Y Y Y Y (kU Y Y Y ?_)))))))
     obtain ⟨t36, h21, hm⟩ := bindO hm
     refine jg Y Y Y Y (fun w _ => yJ h21 (runUnderlying166 w) (sizeOf170 w) Y Y (vlen RWay h18 Y) (vne h18)) (qo 2 runUnderlying170 sizeOf3 Y Y Y Y (jG Y Y Y Y (fun w hh => qx RWay 2 h21 (isAgg3 w) Y (hh.vseg 0 Y h18) Y Y) (jg Y Y Y Y (fun _ _ => YN Y Y) (jN (ja ?_)))))
     refine jr Y (fun h22 => ?_) (fun h22 => ?_)
     ·replace hm := ifD h22 hm
      refine js (ja (jj (jp (je Y Y (jb Y Y Y (fun _ _ => jw Y) (j7 0 runUnderlying168 Y sizeOf166 Y Y (kx 1 isAgg166 Y Y Y Y ?_)))))))
      refine je Y Y ?_
      obtain ⟨t45, h23, hm⟩ := bindO hm
      refine jb Y Y Y (fun w _ => yJ h23 (runUnderlying166 w) (sizeOf170 w) Y Y (vlen RWay h18 Y) (vne h18)) ?_
      refine jb Y Y Y (fun w hh => kT RWay 0 [.int .i64 t45.fr, .int .i64 t45.dst, .int .i64 t45.lo, .int .i64 t45.hi, .int .i64 t45.cost, .int .i64 t45.goes] h23 (isAgg170 w) (sizeOf170 w) Y (hh.vseg 0 Y h18) Y (Nat.add_zero _).symm) ?_
      refine jq (fun w => zeroValue170 w) Y (fun b_2 h24 => ?_)
      refine jB (us := #[_, _, _, _, _, _]) (cs' := [_, _, _, _, _, _]) (S' := [_, _, _, _, _]) 0 (fun w => sizeOf170 w) Y Y Y Y Y Y Y (jV (je Y Y (j7 1 runUnderlying170 Y sizeOf3 Y Y (kx 0 isAgg3 Y Y Y Y (j7 0 runUnderlying170 Y sizeOf3 Y Y (kx 0 isAgg3 Y Y Y Y ?_))))))
      obtain ⟨t53, h25, hm⟩ := bindO hm
      refine jd [] [] Y Y Y Y Y Y Y call117 (fun w hh => Ze s_1 t45.dst t45.fr l.1 (qA l.2.q) l.2.n l.2.cap w (HV.callee (S0 := []) (vs0 := []) hh (roC (bsep (hh.bseg 2 Y)) (roC (hh.vsepA 0 Y h18) roN))) (vlen RWay h18 Y) (AOK.q (vne h18)) (h18).hle h25) (fun l_3 h26 => ?_)
      obtain ⟨h27, h28, h29⟩ := h26
      refine jH (S' := [_, _, _, _, _]) (vs' := [_, _]) [0, 1, 2, 3, 4] [0, 1] 0 Y Y Y Y (je Y Y (ka Y Y Y (ka Y Y Y ?_)))
      refine Ke RB (l := (List.replicate 12 false : (List Bool))) (k := 12) (fun w => zeroValue172 w) Y Y Y (fun b_3 h30 h31 => ?_)
      refine jl Y Y (ZE RB (S' := [_, _, _, _, _, _]) 0 (fun w => sizeOf172 w) Y Y Y h31 h29 Y Y (jo (jk (jp (je Y Y (jb Y Y Y (fun w _ => YS h28 (runUnderlying171 w) Y Y) (jo ?_)))))))
      refine jr Y (fun h32 => ?_) (fun h32 => ?_)
      ·replace hm := ifT (h32) hm
       refine jp (je Y Y (qX [_, _, _, _, _, _] 1 isAgg170 sizeOf170 Y Y Y Y (jb Y Y Y (fun w hh => JR RB h29 (isAgg172 w) (sizeOf172 w) Y Y (hh.bsegA 0 Y)) ?_)))
       obtain ⟨t61, h33, hm⟩ := bindO hm
       refine jd [] [] Y Y Y Y Y Y Y call118 (fun w hh => Zv d00 d01 t45 t53.r1 rb qa1 na1 ca1 qa2 na2 ca2 (.map (some pb)) w (HV.callee (S0 := []) (vs0 := []) hh (roR hh 0 Y (roR hh 1 Y (roR hh 2 Y roN)))) hna1 hqa1 hla1 hna2 hqa2 hla2 h29 h33) (fun l_4 h34 => ?_)
       have h35 := h34
       refine jH (S' := [_, _, _, _, _, _]) (vs' := [_, _, _]) [0, 1, 2, 3, 4, 5] [0, 1, 2] 0 Y Y Y Y (jl Y Y (jB (us := #[_, _]) (cs' := [_, _]) (S' := [_, _, _, _, _, _]) 4 (fun w => sizeOf61 w) Y Y Y Y Y Y Y (jo (ju (jf (jy (jf ?_)))))))
       refine jy ?_
       obtain rfl := sj hm
       have hbo := h19 _ Y
       subst hbo
       refine jf ?_
       replace hm := ocR h16
       refine jy (jf (jf (jy ?_)))
       obtain rfl := sj hm
       have hbo := h13 _ Y
       subst hbo
       refine jf ?_
       replace hm := ocR h10
       refine jf (Zc ?_)
       obtain rfl := sj hm
       refine jm Y (fun w hh => (.tmp Y (.cell Y (loadVar_agg (vs := [_, _]) (isAgg61 _) (sizeOf61 _) (hh.cells 4 Y Y)) .nil))) (fun w hh => ⟨l_4, rfl, h35, hh.selN [2] [0] (by decide) (by decide) Y rfl⟩)
      replace hm := ifN h32 hm
      refine js (ja ?_)
      refine j4 none (.free 0 (.free 1 (.free 2 (.free 3 (.free 6 (.hoist 7 (.free 8 (.hoist 9 (.free 10 (.one 4 (.one 5 (.one 11 .done)))))))))))) (HV _ _ [(b_3, .cells (RB.enc t53.r1).toArray 172 (0, 0)), kc b_2 #[.int .i64 t45.fr, .int .i64 t45.dst, .int .i64 t45.lo, .int .i64 t45.hi, .int .i64 t45.cost, .int .i64 t45.goes] 170, (pb, gobj (kR RPr) kB d02), kc l.1 #[sL l.2] 168, kc b_1 #[.bool false, slv none 0 0] 61, kc b #[.func (.func f_c1_0) fs_c1_0 cs_c1_0] 123] [] _) Y (by decide +kernel) (fun w k hh => hh.draw k) (hsE [0, 1, 2, 3, 4, 5] [] 0 Y Y Y Y) ?_
      refine kU Y Y Y (kU Y Y Y (kU Y Y Y (jg Y Y Y Y (fun _ _ => jA (vs := [(0, _), (1, _)]) (cells := [_, _]) Y Y) (qo 2 runUnderlying170 sizeOf3 Y Y Y Y (qW 1 isAgg3 Y Y Y Y Y (qo 5 runUnderlying170 sizeOf3 Y Y Y Y (qW 1 isAgg3 Y Y Y Y Y ?_)))))))
      obtain ⟨t72, h36, hm⟩ := bindO hm
      refine jg Y Y Y Y (fun _ _ => qc h36 Y Y) (jK Y ?_)
      refine kS RCh [(⟨s.t20, true⟩ : Change)] (ps := [(0, _)]) (cells := [_, _]) (fun w => runUnderlying171 w) (fun w => sizeOf178 w) (fun w => zeroValue178 w) Y Y Y Y Y Y Y Y (fun L h37 => ?_)
      refine jv (hsE [0, 1, 2, 3, 4, 5] [] 0 Y Y Y Y) (jK Y ?_)
      obtain ⟨t67, h38, hm⟩ := bindO hm
      refine yT RCh 1 h38 underlying171 Q1 Y Y Y Y Y h27 Y Y (vlen RCh h37 Y) (AOK.q (vne h37)) (fun w hh => (hh.vsegA 0 Y h37)) Y (fun L_1 h39 h39n => ?_)
      refine jH (S' := [_, _, _, _, _, _]) (vs' := [_, _, _]) [0, 1, 2, 3, 4, 5] [0, 1, 2] 0 Y Y Y Y (jv (hsE [0, 1, 2, 3, 4, 5] [] 0 Y Y Y Y) (jK Y ?_))
      obtain ⟨t73, h40, hm⟩ := bindO hm
      refine jH (S' := [_, _, _, _, _, _]) (vs' := [_, _, _]) [0, 1, 2, 3, 4, 5] [2, 0, 1] 0 Y Y Y Y ?_
      refine jd [] [_] Y Y Y Y Y Y Y call119 (fun w hh => Qr s_1 t67 t72 l.1 ⟨l.2.q, l.2.n, l.2.cap, l.2.sp⟩ (qA L_1.q) L_1.n L_1.cap w (HV.callee (S0 := []) (vs0 := [_]) hh (roC (hh.bsepH 3 Y) (roC (hh.vsepA 1 Y h39) roN))) h18 (vlen RCh h39 Y) (AOK.q (vne h39)) (h39).hle h40) (fun l_5 h41 => ?_)
      have h42 := h41
      refine jH (S' := [_, _, _, _, _, _]) (vs' := [_, _, _]) [0, 1, 2, 3, 4, 5] [0, 1, 2] 0 Y Y Y Y (jv (hsE [0, 1, 2, 3, 4, 5] [] 0 Y Y Y Y) (jN (jt ?_)))
      obtain rfl := sj hm
      refine ja ?_
      exact jz _ () Y (h42) (sE Y) (hsE [2, 3, 4, 5] [0] 0 Y Y Y Y)
     replace hm := ifE h22 hm
     refine jP (ji (ji (jC ?_)))
     obtain rfl := sj hm
     have hbo := h19 _ Y
     subst hbo
     exact jn s_1 (⟨rfl, h18⟩) (sE Y) (fun w hh => hh)
    intro j_1 hj
    obtain ⟨h43, h17⟩ := hj
    subst h43
    replace hm := ocL h16
    refine jt (ja (jh ?_))
    obtain ⟨t74, h44, hm⟩ := bindO hm
    refine yA h44 Y Y Y (je Y Y (jx ?_))
    obtain rfl := sj hm
    refine ja ?_
    exact jz _ () Y (h17) (sE Y) (fun w hh => hh)
   replace hm := ifE h14 hm
   refine jP (ji (ji (jC ?_)))
   obtain rfl := sj hm
   have hbo := h13 _ Y
   subst hbo
   exact jn s.t12 (⟨rfl, h12⟩) (sE Y) (fun w hh => hh)
  intro j hj
  obtain ⟨h45, h11⟩ := hj
  subst h45
  replace hm := ocL h10
  refine ja (jk (jac (ja (jk ?_))))
  obtain ⟨o_2, h46, h47⟩ := bindO hm
  refine jM (ι := Unit) (fun l_6 => VOK 6 l.2.n l.2.cap (RWay.enc o_2) l.2.sp l.2.q) (fun l_6 => [(5, ptr b_1 0), (6, ptr l.1 0)]) (fun l_6 => [(pb, gobj (kR RPr) kB d02), kc l.1 #[sL l.2] 168, kc b_1 #[.bool false, slv none 0 0] 61, kc b #[.func (.func f_c1_0) fs_c1_0 cs_c1_0] 123]) (fun l_6 => [vL 170 l.2 (RWay.enc o_2)]) ?_ ?_
  ·replace hm := h46
   refine jj ?_
   refine jD (ι := Unit) hm (fun s_2 l_7 => VOK 6 l.2.n l.2.cap (RWay.enc s_2) l.2.sp l.2.q) (fun s_2 l_7 => [(5, ptr b_1 0), (6, ptr l.1 0)]) (fun s_2 l_7 => [(pb, gobj (kR RPr) kB d02), kc l.1 #[sL l.2] 168, kc b_1 #[.bool false, slv none 0 0] 61, kc b #[.func (.func f_c1_0) fs_c1_0 cs_c1_0] 123]) (fun s_2 l_7 => [vL 170 l.2 (RWay.enc s_2)]) () (h11) (sE Y) (fun w hh => hh) (fun s_2 l_7 r_3 hpl hm h50 => ?_)
   have h49 := hpl
   unfold qD at hm
   refine jj (jp (je Y Y ?_))
   obtain ⟨t76, h51, hm⟩ := bindO hm
   refine jd [] [] Y Y Y Y Y Y Y call120 (fun w hh => Yn s_2 l.1 (qA l.2.q) l.2.n l.2.cap w (HV.callee (S0 := []) (vs0 := []) hh (roC (bsep (hh.bseg 1 Y)) (roC (hh.vsepA 0 Y h49) roN))) (vlen RWay h49 Y) (AOK.q (vne h49)) (h49).hle h51) (fun l_8 h52 => ?_)
   obtain ⟨h53, h54⟩ := h52
   refine jH (S' := [_, _, _, _]) (vs' := [_, _]) [0, 1, 2, 3] [0, 1] 0 Y Y Y Y (jl Y Y (jo (jk (jp (je Y Y (jb Y Y Y (fun w _ => YS h54 (runUnderlying171 w) Y Y) (jo ?_)))))))
   refine jr Y (fun h55 => ?_) (fun h55 => ?_)
   ·replace hm := ifT (h55) hm
    refine jP (ji (Zq Y (ji (jC ?_))))
    obtain rfl := sj hm
    have hbo := h50 _ Y
    subst hbo
    exact jn () (h49) (sE Y) (hsE [0, 1, 2, 3] [1] 0 Y Y Y Y)
   replace hm := ifN h55 hm
   refine js (ja (jh (je Y Y (je Y Y ?_))))
   obtain ⟨t81, h56, hm⟩ := bindO hm
   refine jH (S' := [_, _, _, _]) (vs' := [_, _]) [0, 1, 2, 3] [1, 0] 0 Y Y Y Y ?_
   refine jd [] [_] Y Y Y Y Y Y Y call119 (fun w hh => Qr s_2 t76 1000000 l.1 ⟨l.2.q, l.2.n, l.2.cap, l.2.sp⟩ (qA l_8.q) l_8.n l_8.cap w (HV.callee (S0 := []) (vs0 := [_]) hh (roC (hh.bsepH 1 Y) (roC (hh.vsepA 0 Y h53) roN))) h49 (vlen RCh h53 Y) (AOK.q (vne h53)) (h53).hle h56) (fun l_9 h57 => ?_)
   have h58 := h57
   refine jH (S' := [_, _, _, _]) (vs' := [_, _]) [0, 1, 2, 3] [0, 1] 0 Y Y Y Y (jx (jt ?_))
   obtain rfl := sj hm
   refine ja ?_
   exact jz _ () Y (h58) (sE Y) (hsE [0, 1, 2, 3] [0] 0 Y Y Y Y)
  intro l_6 hj
  have h48 := hj
  replace hm := h47
  refine ja (jp (je Y Y (jb Y Y Y (fun _ _ => jA (vs := []) (cells := [_, _]) Y Y) (jl Y Y (jB (us := #[_, _]) (cs' := [_, _]) (S' := [_, _, _, _]) 2 (fun w => sizeOf61 w) Y Y Y Y Y Y Y (jo (ju ?_)))))))
  refine Zc (kG 3 ?_)
  obtain rfl := sj hm
  refine jm Y (fun w hh => (.tmp Y (.cell Y (loadVar_agg (vs := [_, _]) (isAgg61 _) (sizeOf61 _) (hh.cells 2 Y Y)) .nil))) (fun w hh => ⟨(l.1, ⟨none, 0, 0, []⟩, l.2), rfl, ⟨VOK.nil, h48⟩, hh.selN [0, 1] [0, 1] (by decide) (by decide) Y rfl⟩)
structure zF where
  t18 : Int
  out5 : (List (List Int))
def qJ (t15 : (List (List Int))) (d10 : (List Strip)) (s : zF) : Option (zF ⊕ (List (List Int))) :=
 if s.t18 < (t15.length : Int) then
 ((makec 8 0 (d10.length : Int) (d10.length : Int)).bind fun t29 =>
 (ix s.out5 s.t18).bind fun t30 =>
 (some (s.out5.set (Int.toNat s.t18) t29)).bind fun out5 =>
 (addc s.t18 1).bind fun t31 =>
 some (.inl (⟨t31, out5⟩ : zF))) else
 (some (.inr s.out5))
structure yI where
  t37 : Int
  out5 : (List (List Int))
def yM (n00 : (List Wy)) (s_1 : yI) : Option (yI ⊕ (List (List Int))) :=
 if s_1.t37 < (n00.length : Int) then
 (((ix n00 s_1.t37).bind fun t39 =>
 (if t39.fr = 0 then
 (some false) else
 (some (!decide (t39.dst = 0)))).bind fun o_3 =>
 if o_3 = true then
 ((subc t39.dst 1).bind fun t52 =>
 (subc t52 6).bind fun t53 =>
 (ix s_1.out5 t53).bind fun t54 =>
 (subc t39.fr 1).bind fun t58 =>
 (ix t54 t58).bind fun t61 =>
 (some (t54.set (Int.toNat t58) t39.goes)).bind fun row =>
 (some (s_1.out5.set (Int.toNat t53) row)).bind fun out5_1 =>
 some out5_1) else
 (some s_1.out5)).bind fun o_2 =>
 (addc s_1.t37 1).bind fun t62 =>
 some (.inl (⟨t62, o_2⟩ : yI))) else
 (some (.inr s_1.out5))
def qZ (n00 : (List Wy)) (d10 : (List Strip)) (d11 : (List Span)) : Option (List (List Int)) :=
 (makec 24 ([] : (List Int)) (d11.length : Int) (d11.length : Int)).bind fun t15 =>
 (iterM FU (qJ t15 d10) (⟨0, t15⟩ : zF)).bind fun o =>
 (iterM FU (yM n00) (⟨0, o⟩ : yI)).bind fun o_1 =>
 some o_1
theorem QD (n00 : (List Wy)) (d10 : (List Strip)) (d11 : (List Span)) (rb : Nat) (qa1 : Option Addr) (na1 ca1 : Nat) (rb_1 : Nat) (qa3 : Option Addr) (na3 ca3 : Nat) (qa4 : Option Addr) (na4 ca4 : Nat) (mv : Value) (w : World) (hw : HV w (keys [] []) [] [] [(rb, 0, [.slice qa1 na1 ca1]), (aB qa1, aO qa1, RWay.enc n00), (rb_1, 0, [.slice qa3 na3 ca3, .slice qa4 na4 ca4, mv]), (aB qa3, aO qa3, RSt.enc d10), (aB qa4, aO qa4, RSp.enc d11)] w)  (hna1 : n00.length = na1) (hqa1 : AOK na1 qa1) (hla1 : na1 ≤ ca1)  (hna3 : d10.length = na3) (hqa3 : AOK na3 qa3) (hla3 : na3 ≤ ca3) (hna4 : d11.length = na4) (hqa4 : AOK na4 qa4) (hla4 : na4 ≤ ca4) {res : (List (List Int))} (hm : qZ n00 d10 d11 = some res) :
    Calls Try.prog 68 #[ptr rb 0, ptr rb_1 0] w (fun en w' => ∃ l : DL, en = .returned (sL l.v) ∧ (VOK 1 l.v.n l.v.cap (RwH.enc l.rs) l.v.sp l.v.q ∧ DOK RI res l.rs) ∧ HV w (keys [] []) [] [⟨32, RwH.enc l.rs, l.v.sp, l.v.q, dbl 3 RI res l.rs⟩] [] w') := by
  unfold qZ at hm
  refine kl func68 Y ntmps68 Y (e := [(0, _), (1, _)]) Y hw (jp (jb Y Y Y (fun _ _ => qf Y) (jV (je Y Y (jb Y Y Y (fun _ _ => jw Y) (j7 0 runUnderlying163 Y sizeOf28 Y Y (j7 1 runUnderlying28 Y sizeOf26 Y Y ?_)))))))
  refine jb Y Y Y (fun w hh => jQ (isAgg26 w) Y (segCell (hh.seg 2 Y) 1 Y)) (jb Y Y Y (fun w _ => jR hna4 (runUnderlying26 w) Y) ?_)
  obtain ⟨t15, h3, hm⟩ := bindO hm
  refine JE RwH vl0 (makecL vl0 h3) underlying29 Zi Y Y Y Y Y (fun L h4 => ?_)
  refine ZR (E2 := 3) RI (Int.toNat (d11.length : Int)) (makecO h3).1.symm (fun h5 => ?_)
  refine jl Y Y (jo (jk (jp (je Y Y (jb Y Y Y (fun w _ => zQ (Eq.trans (h5).len (vlen RwH h4 Y)) (runUnderlying29 w) Y) (je Y Y (jo ?_)))))))
  obtain ⟨o, h6, h7⟩ := bindO hm
  refine jM (ι := DL) (fun l => VOK 1 l.v.n l.v.cap (RwH.enc l.rs) l.v.sp l.v.q ∧ DOK RI o l.rs) (fun l => [(0, ptr rb 0), (5, sL l.v)]) (fun l => []) (fun l => [⟨32, RwH.enc l.rs, l.v.sp, l.v.q, dbl 3 RI o l.rs⟩]) ?_ ?_
  ·replace hm := h6
   refine jj ?_
   refine jD (ι := DL) hm (fun s l_1 => VOK 1 l_1.v.n l_1.v.cap (RwH.enc l_1.rs) l_1.v.sp l_1.v.q ∧ DOK RI s.out5 l_1.rs) (fun s l_1 => [(0, ptr rb 0), (1, ptr rb_1 0), (5, sL l_1.v), (17, .int .i64 (t15.length : Int)), (18, .int .i64 s.t18)]) (fun s l_1 => []) (fun s l_1 => [⟨32, RwH.enc l_1.rs, l_1.v.sp, l_1.v.q, dbl 3 RI s.out5 l_1.rs⟩]) (⟨⟨L.q, L.n, L.cap, L.sp⟩, (List.replicate (Int.toNat (d11.length : Int)) vl0)⟩) (⟨h4, h5⟩) (sE Y) (fun w hh => hh) (fun s l_1 r hpl hm h12 => ?_)
   obtain ⟨h10, h11⟩ := hpl
   unfold qJ at hm
   refine jp (zK Y Y Y (jo (jk ?_)))
   refine jr Y (fun h13 => ?_) (fun h13 => ?_)
   ·replace hm := ifD h13 hm
    refine js (ja (jk (jj (jp (je Y Y (jl Y Y (jo ?_)))))))
    refine jh (je Y Y (je Y Y (je Y Y (jb Y Y Y (fun _ _ => jw Y) (j7 0 runUnderlying163 Y sizeOf28 Y Y (j7 0 runUnderlying28 Y sizeOf25 Y Y (jb Y Y Y (fun w hh => jQ (isAgg25 w) Y (segCell (hh.seg 2 Y) 0 Y)) ?_)))))))
    refine jb Y Y Y (fun w _ => jR hna3 (runUnderlying25 w) Y) ?_
    obtain ⟨t29, h14, hm⟩ := bindO hm
    refine JE RI 0 h14 underlying32 Yp Y Y Y Y Y (fun L_1 h15 => ?_)
    obtain ⟨t30, h16, hm⟩ := bindO hm
    obtain ⟨L_2, h17, h18⟩ := (h11).row h16
    refine jb Y Y Y (fun w _ => yJ h17 (runUnderlying29 w) (sizeOf32 w) Y Y (vlen RwH h10 Y) (vne h10)) ?_
    obtain ⟨out5, hout5, hm⟩ := bindO hm
    refine Y5 RwH 1 0 (⟨L_1.q, L_1.n, L_1.cap, L_1.sp⟩ : VL) (fun w => sizeOf32 w) Y Y Y Y h10 Y (Nat.add_zero _).symm Y h17 Y Y Y (fun h19 => ?_)
    refine jH (S' := []) (vs' := [_, _]) [] [0, 1] 0 Y Y Y Y (jH (S' := []) (vs' := [_, _]) [] [1, 0] 0 Y Y Y Y ?_)
    refine jaj RI s.t18 L_1.n L_1.cap h11 h15 h16 (Option.some.inj hout5) (fun h20 => ?_)
    refine jx (jt (ja (jh ?_)))
    obtain ⟨t31, h21, hm⟩ := bindO hm
    refine yA h21 Y Y Y (je Y Y (jx ?_))
    obtain rfl := sj hm
    refine ja ?_
    exact jz _ (⟨⟨l_1.v.q, l_1.v.n, l_1.v.cap, l_1.v.sp⟩, (l_1.rs.set (Int.toNat s.t18) (⟨L_1.q, L_1.n, L_1.cap, L_1.sp⟩ : VL))⟩) Y (⟨h19, h20⟩) (sE Y) (fun w hh => hh)
   replace hm := ifE h13 hm
   refine jP (ji (ji (jC ?_)))
   obtain rfl := sj hm
   have hbo := h12 _ Y
   subst hbo
   exact jn l_1 (⟨h10, h11⟩) (sE Y) (fun w hh => hh)
  intro l hj
  obtain ⟨h8, h9⟩ := hj
  replace hm := h7
  refine ja (jk (jp (je Y Y (jb Y Y Y (fun _ _ => jw Y) (j7 0 runUnderlying168 Y sizeOf166 Y Y (jb Y Y Y (fun w hh => jQ (isAgg166 w) Y (segCell (hh.seg 0 Y) 0 Y)) (jb Y Y Y (fun w _ => jR hna1 (runUnderlying166 w) Y) ?_)))))))
  refine je Y Y (jo ?_)
  obtain ⟨o_1, h22, h23⟩ := bindO hm
  refine jM (ι := Unit) (fun l_2 => DOK RI o_1 l.rs) (fun l_2 => [(5, sL l.v)]) (fun l_2 => []) (fun l_2 => [⟨32, RwH.enc l.rs, l.v.sp, l.v.q, dbl 3 RI o_1 l.rs⟩]) ?_ ?_
  ·replace hm := h22
   refine jj ?_
   refine jD (ι := Unit) hm (fun s_1 l_3 => DOK RI s_1.out5 l.rs) (fun s_1 l_3 => [(5, sL l.v), (35, .slice qa1 na1 ca1), (36, .int .i64 (n00.length : Int)), (37, .int .i64 s_1.t37)]) (fun s_1 l_3 => []) (fun s_1 l_3 => [⟨32, RwH.enc l.rs, l.v.sp, l.v.q, dbl 3 RI s_1.out5 l.rs⟩]) () (h9) (sE Y) (fun w hh => hh) (fun s_1 l_3 r_1 hpl hm h26 => ?_)
   have h25 := hpl
   unfold yM at hm
   refine jp (zK Y Y Y (jo (jk ?_)))
   refine jr Y (fun h27 => ?_) (fun h27 => ?_)
   ·replace hm := ifD h27 hm
    refine js (ja (jk ?_))
    obtain ⟨o_2, h28, h29⟩ := bindO hm
    refine jM (ι := Unit) (fun l_4 => DOK RI o_2 l.rs) (fun l_4 => [(5, sL l.v), (35, .slice qa1 na1 ca1), (36, .int .i64 (n00.length : Int)), (37, .int .i64 s_1.t37)]) (fun l_4 => []) (fun l_4 => [⟨32, RwH.enc l.rs, l.v.sp, l.v.q, dbl 3 RI o_2 l.rs⟩]) ?_ ?_
    ·replace hm := h28
     refine jj (jp ?_)
     obtain ⟨t39, h31, hm⟩ := bindO hm
     refine jb Y Y Y (fun w _ => q7 h31 (runUnderlying166 w) (sizeOf170 w) Y Y hna1 hqa1) ?_
     refine jb Y Y Y (fun w hh => kT RWay 0 [.int .i64 t39.fr, .int .i64 t39.dst, .int .i64 t39.lo, .int .i64 t39.hi, .int .i64 t39.cost, .int .i64 t39.goes] h31 (isAgg170 w) (sizeOf170 w) Y (hh.seg 1 Y) Y (Nat.add_zero _).symm) ?_
     refine jq (fun w => zeroValue170 w) Y (fun b h32 => ?_)
     refine jB (us := #[_, _, _, _, _, _]) (cs' := [_, _, _, _, _, _]) (S' := [_]) 0 (fun w => sizeOf170 w) Y Y Y Y Y Y Y (jo (jk ?_))
     obtain ⟨o_3, h33, h34⟩ := bindO hm
     refine jM (ι := Unit) (fun l_5 => True) (fun l_5 => [(5, sL l.v), (8, ptr b 0), (35, .slice qa1 na1 ca1), (36, .int .i64 (n00.length : Int)), (37, .int .i64 s_1.t37), (48, .bool o_3)]) (fun l_5 => [kc b #[.int .i64 t39.fr, .int .i64 t39.dst, .int .i64 t39.lo, .int .i64 t39.hi, .int .i64 t39.cost, .int .i64 t39.goes] 170]) (fun l_5 => [⟨32, RwH.enc l.rs, l.v.sp, l.v.q, dbl 3 RI s_1.out5 l.rs⟩]) ?_ ?_
     ·replace hm := h33
      refine jh (j7 0 runUnderlying170 Y sizeOf3 Y Y (kx 0 isAgg3 Y Y Y Y (jb Y Y Y (fun _ _ => q5 Y Y) (je Y Y ?_))))
      refine jZ 44 Y (fun h35 => ?_) (fun h35 => ?_)
      ·replace hm := ifF (of_ndec_true h35) hm
       refine jc Y Y (j7 1 runUnderlying170 Y sizeOf3 Y Y (jc Y Y (kx 0 isAgg3 Y Y Y Y (jc Y Y (jb Y Y Y (fun _ _ => q5 Y Y) (qO Y Y Y (jx ?_)))))))
       obtain rfl := sj hm
       exact jn () (trivial) (sE Y) (fun w hh => hh)
      replace hm := ifT (of_ndec_false h35) hm
      refine g_k Y Y Y Y (g_k Y Y Y Y (g_k Y Y Y Y (yW Y Y Y (jx ?_))))
      obtain rfl := sj hm
      exact jn () (trivial) (sE Y) (fun w hh => hh)
     intro l_5 hj
     replace hm := h34
     refine ja ?_
     refine jr Y (fun h36 => ?_) (fun h36 => ?_)
     ·replace hm := ifT (h36) hm
      refine j4 (some 13) (.free 0 (.free 1 (.hoist 2 (.free 3 (.free 4 (.free 5 (.hoist 6 (.free 7 (.hoist 8 (.free 9 (.free 10 (.hoist 11 (.free 12 (.last 13 .done)))))))))))))) _ Y (by decide +kernel) (fun w k hh => hh.draw k) (fun w hh => hh) ?_
      refine kU Y Y Y (qo 1 runUnderlying170 sizeOf3 Y Y Y Y (qW 0 isAgg3 Y Y Y Y Y ?_))
      obtain ⟨t52, h37, hm⟩ := bindO hm
      refine jg Y Y Y Y (fun _ _ => qc h37 Y Y) ?_
      obtain ⟨t53, h38, hm⟩ := bindO hm
      refine jg Y Y Y Y (fun _ _ => qc h38 Y Y) ?_
      obtain ⟨t54, h39, hm⟩ := bindO hm
      obtain ⟨L_3, h40, h41⟩ := (h25).row h39
      refine jg Y Y Y Y (fun w _ => yJ h40 (runUnderlying29 w) (sizeOf32 w) Y Y (vlen RwH h8 Y) (vne h8)) (jG Y Y Y Y (fun w hh => qx RwH 0 h40 (isAgg32 w) Y (hh.vseg 0 Y h8) Y (Nat.add_zero _).symm) (qo 0 runUnderlying170 sizeOf3 Y Y Y Y (qW 0 isAgg3 Y Y Y Y Y ?_)))
      obtain ⟨t58, h42, hm⟩ := bindO hm
      refine jg Y Y Y Y (fun _ _ => qc h42 Y Y) (qo 5 runUnderlying170 sizeOf3 Y Y Y Y (qW 0 isAgg3 Y Y Y Y Y ?_))
      obtain ⟨t61, h43, hm⟩ := bindO hm
      refine jg Y Y Y Y (fun w _ => yJ h43 (runUnderlying32 w) (sizeOf3 w) Y Y (vlen RI h41 Y) (vne h41)) (Ko Y ?_)
      obtain ⟨row, hrow, hm⟩ := bindO hm
      obtain ⟨out5_1, hout5_1, hm⟩ := bindO hm
      refine jH (S' := [_]) (vs' := [_]) [0] [0] 0 Y Y Y Y ?_
      refine Zt RI t53 h25 h39 h40 (fun _ => ?_)
      refine Y5 RI 1 0 t39.goes (fun w => sizeOf3 w) Y Y Y Y h41 Y (Nat.add_zero _).symm Y h43 Y Y (Option.some.inj hrow) (fun h44 => ?_)
      refine jH (S' := [_]) (vs' := [_, _]) [0] [0, 1] 0 Y Y Y Y ?_
      refine Z4 RI t53 h25 h39 h40 h44 (Option.some.inj hout5_1) (fun h45 => ?_)
      refine Jp (jN (jt ?_))
      obtain rfl := sj hm
      exact jn () (h45) (sE Y) (hsE [] [0] 0 Y Y Y Y)
     replace hm := ifN h36 hm
     refine js (jt ?_)
     obtain rfl := sj hm
     exact jn () (h25) (sE Y) (hsE [] [0] 0 Y Y Y Y)
    intro l_4 hj
    have h30 := hj
    replace hm := h29
    refine ja (jh ?_)
    obtain ⟨t62, h46, hm⟩ := bindO hm
    refine yA h46 Y Y Y (je Y Y (jx ?_))
    obtain rfl := sj hm
    refine ja ?_
    exact jz _ () Y (h30) (sE Y) (fun w hh => hh)
   replace hm := ifE h27 hm
   refine jP (ji (ji (jC ?_)))
   obtain rfl := sj hm
   have hbo := h26 _ Y
   subst hbo
   exact jn () (h25) (sE Y) (fun w hh => hh)
  intro l_2 hj
  have h24 := hj
  replace hm := h23
  refine ja (jp (je Y Y (jl Y Y (jo (ju ?_)))))
  obtain rfl := sj hm
  refine jm Y (fun w hh => (.tmp Y .nil)) (fun w hh => ⟨l, rfl, ⟨h8, h24⟩, hh.se [] [0] 5 Y Y Y rfl⟩)
end Go.Proofs.Ws

