/- What the functions that the law BranchClashed reaches come to, and why it holds: part 9. -/
import Derived.Test.YtpjnpibgnkgnaaaGreatBranchClashed8
import Derived.Deep.Slices
import Derived.ChangeArms
namespace Go.Proofs.Wb
open Go Go.Fw Go.Gx Go.Sb
set_option linter.unusedVariables false
set_option maxRecDepth 100000
def cOut (f : List Int) (i : Nat) : Bool := !decide ((i : Int) ∈ f)
def cIn (f : List Int) (i : Nat) : Bool := decide ((i : Int) ∈ f)
theorem ZM {d0 d1 : Int} {f : List Int} {a : List Sand} {sg : List Sight} {r f1 : List Int} (h : f.length ≤ 3) (hs : sg.length ≤ 100) (hf1 : f1.length < 1000000) (s : State) : yg d0 d1 f a sg r f1 s = some (agP (cOut f1) sg s.after (clS f.length s)) := by
  unfold yg
  rw [iterM_any0 (f := qC sg s f1 d0 d1 f a r) sg.length (fun k => cOut f1 k && offS s.after (clS f.length s) (sg.getD k default)) false (fun k hk => ?_) ?_ (FU_lt (by omega)), Option.bind_some]
  · unfold agP
    cases (List.range sg.length).any fun k => cOut f1 k && offS s.after (clS f.length s) (sg.getD k default) <;> rfl
  · unfold qC
    rw [if_neg (by omega)]
  · have hp : yI (k : Int) f1 = some (cOut f1 k) := by
      unfold yI
      rw [yL hf1, Option.bind_some]
      rfl
    unfold qC
    rw [if_pos (by omega), ix_nat default hk, Option.bind_some, hp, Option.bind_some, Zm h, Option.bind_some, yL (by unfold clS; simp; omega), Option.bind_some, addc_eq (by omega)]
    unfold offS
    by_cases h1 : (sg.getD k default).after = s.after
    · rw [if_pos h1, decide_eq_true h1, Bool.true_and]
      cases cOut f1 k with
      | true => rw [if_pos rfl, Option.bind_some, Bool.true_and]; split <;> rfl
      | false => rw [if_neg (by decide), Option.bind_some, Bool.false_and]; rfl
    · rw [if_neg h1, Option.bind_some, decide_eq_false h1, Bool.false_and, Bool.and_false]
      rfl
def MR1 (c : Channel) (f1 : List Int) (fu : Nat) (s : State) (ml : ML) : Option (Int × ML) := (jI fu s ml c.cells c.tides c.fords c.sands c.sights (rchL c) f1).map fun q => (q.r0, q.a11)
theorem restEq1 {c : Channel} (r : Right c) {f1 : List Int} (hf1 : f1.length < 1000000) : RestEq (MR1 c f1) (VS c) (agS (cOut f1) c) (nxS c) c.tides where
  eq fu s ml hV := by
    have hf := r.fords
    have hs := r.sights
    unfold MR1
    rw [jI]
    unfold yu
    by_cases h1 : (aget ml s).isSome = true
    · rw [if_pos h1, if_pos h1]; rfl
    · rw [if_neg h1, if_neg h1, ZM (by omega) (by omega) hf1, Option.bind_some, not_true_if]
      show _ = if agS (cOut f1) c s = true then _ else _
      unfold agS
      by_cases h2 : agP (cOut f1) c.sights s.after (clS c.fords.length s) = true
      · rw [if_pos h2, if_pos h2]
        by_cases h3 : s.after = c.tides
        · rw [if_pos h3, if_pos h3]; rfl
        · rw [if_neg h3, if_neg h3]
          unfold kw
          rw [Option.bind_some, if_pos (VS_next r hV)]
          have hp := iterL_pair (fun q : kG => (q.n9, q.a11)) (f := qj (jI fu) c.cells c.tides c.fords c.sands c.sights (rchL c) f1) (f' := fR (MR1 c f1 fu)) (fun x q => by
            unfold qj fR MR1
            cases jI fu x q.a11 c.cells c.tides c.fords c.sands c.sights (rchL c) f1 with
            | none => rfl
            | some q' =>
              simp only [Option.bind_some, Option.map_some]
              cases addc q.n9 q'.r0 <;> rfl) (nxS c s) ⟨0, ml⟩
          simp only at hp
          show _ = (iterL (fR (MR1 c f1 fu)) (nxS c s) (0, ml)).bind _
          rw [← hp]
          unfold nxS
          cases iterL (qj (jI fu) c.cells c.tides c.fords c.sands c.sights (rchL c) f1) (nextL c.cells (rchL c) (c.fords.length : Int) s) ⟨0, ml⟩ <;> rfl
      · rw [if_neg h2, if_neg h2]; rfl
  nxV s t hs hl ht := nxS_V r hs hl ht
  le s hs := hs.2.2
  len s := nxS_len r s
theorem YZ {c : Channel} (r : Right c) {f1 : List Int} (hf1 : f1.length < 1000000) : qW c.cells c.tides c.fords c.sands c.sights (rchL c) f1 = some (decide (0 < cntS (cOut f1) c)) := by
  have hf := r.fords
  have ht := r.tides
  unfold qW zj
  rw [Yj (by omega), Option.bind_some]
  obtain ⟨ml, e, s1, c1, _, i1⟩ := rest_spec (restEq1 r hf1) ht (c.tides - (first c).after).toNat FU (first c) [] (first_V r) (Int.le_refl _) rfl (by unfold first FU; simp only; omega) (fun x v hx => by simp [aget, afind] at hx) (fun x hx => by simp [aget, afind] at hx)
  unfold MR1 at e
  rw [Option.map_eq_some_iff] at e
  obtain ⟨q, e1, e2⟩ := e
  simp only [Prod.mk.injEq] at e2
  show ((jI FU (first c) [] c.cells c.tides c.fords c.sands c.sights (rchL c) f1).bind _).bind _ = _
  rw [e1, Option.bind_some, Option.bind_some, Option.bind_some, e2.2]
  obtain ⟨v, hv⟩ := Option.isSome_iff_exists.1 i1
  have h3 := s1 _ _ hv
  show some (decide (0 < (aget ml (first c)).getD 0)) = _
  rw [hv, Option.getD_some, h3]
  have : valR (nxS c) (agS (cOut f1) c) c.tides (first c) = (cntS (cOut f1) c : Int) := by
    unfold valR cntS first
    simp
  rw [this]
  congr 1
  rw [Bool.eq_iff_iff, decide_eq_true_eq, decide_eq_true_eq]
  omega
theorem ZT {d0 d1 : Int} {f : List Int} {a : List Sand} {sg : List Sight} {r f1 : List Int} (h : f.length ≤ 3) (hs : sg.length ≤ 100) (hf1 : f1.length < 1000000) (s : State) : yd d0 d1 f a sg r f1 s = some (agP (cIn f1) sg s.after (clS f.length s)) := by
  unfold yd
  rw [iterM_any0 (f := qv sg s f1 d0 d1 f a r) sg.length (fun k => cIn f1 k && offS s.after (clS f.length s) (sg.getD k default)) false (fun k hk => ?_) ?_ (FU_lt (by omega)), Option.bind_some]
  · unfold agP
    cases (List.range sg.length).any fun k => cIn f1 k && offS s.after (clS f.length s) (sg.getD k default) <;> rfl
  · unfold qv
    rw [if_neg (by omega)]
  · have hp : Jb (k : Int) f1 = some (cIn f1 k) := by
      unfold Jb
      rw [yL hf1, Option.bind_some]
      rfl
    unfold qv
    rw [if_pos (by omega), ix_nat default hk, Option.bind_some, hp, Option.bind_some, Zm h, Option.bind_some, yL (by unfold clS; simp; omega), Option.bind_some, addc_eq (by omega)]
    unfold offS
    by_cases h1 : (sg.getD k default).after = s.after
    · rw [if_pos h1, decide_eq_true h1, Bool.true_and]
      cases cIn f1 k with
      | true => rw [if_pos rfl, Option.bind_some, Bool.true_and]; split <;> rfl
      | false => rw [if_neg (by decide), Option.bind_some, Bool.false_and]; rfl
    · rw [if_neg h1, Option.bind_some, decide_eq_false h1, Bool.false_and, Bool.and_false]
      rfl
def MR2 (c : Channel) (f1 : List Int) (fu : Nat) (s : State) (ml : ML) : Option (Int × ML) := (jH fu s ml c.cells c.tides c.fords c.sands c.sights (rchL c) f1).map fun q => (q.r0, q.a11)
theorem restEq2 {c : Channel} (r : Right c) {f1 : List Int} (hf1 : f1.length < 1000000) : RestEq (MR2 c f1) (VS c) (agS (cIn f1) c) (nxS c) c.tides where
  eq fu s ml hV := by
    have hf := r.fords
    have hs := r.sights
    unfold MR2
    rw [jH]
    unfold yr
    by_cases h1 : (aget ml s).isSome = true
    · rw [if_pos h1, if_pos h1]; rfl
    · rw [if_neg h1, if_neg h1, ZT (by omega) (by omega) hf1, Option.bind_some, not_true_if]
      show _ = if agS (cIn f1) c s = true then _ else _
      unfold agS
      by_cases h2 : agP (cIn f1) c.sights s.after (clS c.fords.length s) = true
      · rw [if_pos h2, if_pos h2]
        by_cases h3 : s.after = c.tides
        · rw [if_pos h3, if_pos h3]; rfl
        · rw [if_neg h3, if_neg h3]
          unfold kw
          rw [Option.bind_some, if_pos (VS_next r hV)]
          have hp := iterL_pair (fun q : kF => (q.n9, q.a11)) (f := qm (jH fu) c.cells c.tides c.fords c.sands c.sights (rchL c) f1) (f' := fR (MR2 c f1 fu)) (fun x q => by
            unfold qm fR MR2
            cases jH fu x q.a11 c.cells c.tides c.fords c.sands c.sights (rchL c) f1 with
            | none => rfl
            | some q' =>
              simp only [Option.bind_some, Option.map_some]
              cases addc q.n9 q'.r0 <;> rfl) (nxS c s) ⟨0, ml⟩
          simp only at hp
          show _ = (iterL (fR (MR2 c f1 fu)) (nxS c s) (0, ml)).bind _
          rw [← hp]
          unfold nxS
          cases iterL (qm (jH fu) c.cells c.tides c.fords c.sands c.sights (rchL c) f1) (nextL c.cells (rchL c) (c.fords.length : Int) s) ⟨0, ml⟩ <;> rfl
      · rw [if_neg h2, if_neg h2]; rfl
  nxV s t hs hl ht := nxS_V r hs hl ht
  le s hs := hs.2.2
  len s := nxS_len r s
theorem Yg {c : Channel} (r : Right c) {f1 : List Int} (hf1 : f1.length < 1000000) : kU c.cells c.tides c.fords c.sands c.sights (rchL c) f1 = some (decide (0 < cntS (cIn f1) c)) := by
  have hf := r.fords
  have ht := r.tides
  unfold kU zf
  rw [Yj (by omega), Option.bind_some]
  obtain ⟨ml, e, s1, c1, _, i1⟩ := rest_spec (restEq2 r hf1) ht (c.tides - (first c).after).toNat FU (first c) [] (first_V r) (Int.le_refl _) rfl (by unfold first FU; simp only; omega) (fun x v hx => by simp [aget, afind] at hx) (fun x hx => by simp [aget, afind] at hx)
  unfold MR2 at e
  rw [Option.map_eq_some_iff] at e
  obtain ⟨q, e1, e2⟩ := e
  simp only [Prod.mk.injEq] at e2
  show ((jH FU (first c) [] c.cells c.tides c.fords c.sands c.sights (rchL c) f1).bind _).bind _ = _
  rw [e1, Option.bind_some, Option.bind_some, Option.bind_some, e2.2]
  obtain ⟨v, hv⟩ := Option.isSome_iff_exists.1 i1
  have h3 := s1 _ _ hv
  show some (decide (0 < (aget ml (first c)).getD 0)) = _
  rw [hv, Option.getD_some, h3]
  have : valR (nxS c) (agS (cIn f1) c) c.tides (first c) = (cntS (cIn f1) c : Int) := by
    unfold valR cntS first
    simp
  rw [this]
  congr 1
  rw [Bool.eq_iff_iff, decide_eq_true_eq, decide_eq_true_eq]
  omega
def pW (c : Channel) (l : List Int) : Bool := decide (0 < cntS (cOut l) c)
def pC (c : Channel) (l : List Int) : Bool := !decide (0 < cntS (cIn l) c)
def scan (p : List Int → Bool) : List (List Int) → List Int → Bool × List Int
  | [], o => (false, o)
  | x :: E, o => if p x = true then (true, x) else scan p E x
theorem scan_append (p : List Int → Bool) : ∀ (E F : List (List Int)) (o : List Int), scan p (E ++ F) o = if (scan p E o).1 = true then scan p E o else scan p F (scan p E o).2
  | [], F, o => rfl
  | x :: E, F, o => by
    rw [List.cons_append, scan, scan]
    by_cases h : p x = true
    · rw [if_pos h, if_pos h, if_pos rfl]
    · rw [if_neg h, if_neg h, scan_append p E F x]
theorem scan_find (p : List Int → Bool) : ∀ (E : List (List Int)) (o : List Int), ((scan p E o).1 = true → E.find? p = some (scan p E o).2) ∧ ((scan p E o).1 = false → E.find? p = none)
  | [], o => ⟨fun h => absurd h (by simp [scan]), fun _ => rfl⟩
  | x :: E, o => by
    have ih := scan_find p E x
    rw [scan, List.find?_cons]
    cases h : p x with
    | true => rw [if_pos rfl]; exact ⟨fun _ => rfl, fun q => absurd q (by simp)⟩
    | false => rw [if_neg (by decide)]; exact ih
theorem incL_end (n m : Nat) : incL n (m + 1) n = [] := by
  rw [incL, Nat.sub_self]; rfl
theorem incL_step {n m fr : Nat} (h : fr < n) : incL n (m + 1) fr = (incL n m (fr + 1)).map ((fr : Int) :: ·) ++ incL n (m + 1) (fr + 1) := by
  rw [incL, incL, show n - fr = (n - (fr + 1)) + 1 by omega, List.range_succ_eq_map, List.flatMap_cons, List.flatMap_map]
  congr 1
  congr 1
  funext d
  rw [show fr + (d + 1) + 1 = fr + 1 + d + 1 by omega, show fr + (d + 1) = fr + 1 + d by omega]
def chunk (n m : Nat) (l0 : List Int) (fr : Nat) : List (List Int) := (incL n m (fr + 1)).map fun x => (l0 ++ [(fr : Int)]) ++ x
theorem scan_loop {σ ρ : Type} {f : σ → Option (σ ⊕ (List Int ⊕ ρ))} (I : Int → List Int → σ) (T : List Int → ρ) (p : List Int → Bool) (l0 : List Int) (n m : Nat)
    (hf : ∀ (fr : Nat) (o : List Int), fr < n → f (I (fr : Int) o) = some (if (scan p (chunk n m l0 fr) o).1 = true then .inr (.inr (T (scan p (chunk n m l0 fr) o).2)) else .inl (I ((fr + 1 : Nat) : Int) (scan p (chunk n m l0 fr) o).2)))
    (he : ∀ o, f (I (n : Int) o) = some (.inr (.inl o))) : ∀ (r fr : Nat) (o : List Int) (N : Nat), fr + r = n → r < N → iterM N f (I (fr : Int) o) = some (if (scan p ((incL n (m + 1) fr).map (l0 ++ ·)) o).1 = true then .inr (T (scan p ((incL n (m + 1) fr).map (l0 ++ ·)) o).2) else .inl (scan p ((incL n (m + 1) fr).map (l0 ++ ·)) o).2)
  | 0, fr, o, N, h, hN => by
    obtain ⟨N, rfl⟩ : ∃ N', N = N' + 1 := ⟨N - 1, by omega⟩
    obtain rfl : fr = n := by omega
    rw [iterM_done (he o), incL_end]
    rfl
  | r + 1, fr, o, N, h, hN => by
    obtain ⟨N, rfl⟩ : ∃ N', N = N' + 1 := ⟨N - 1, by omega⟩
    have e : (incL n (m + 1) fr).map (l0 ++ ·) = chunk n m l0 fr ++ (incL n (m + 1) (fr + 1)).map (l0 ++ ·) := by
      rw [incL_step (by omega), List.map_append, List.map_map]
      congr 1
      unfold chunk
      apply List.map_congr_left
      intro x _
      simp
    rw [e, scan_append]
    have hs := hf fr o (by omega)
    by_cases hq : (scan p (chunk n m l0 fr) o).1 = true
    · rw [if_pos hq] at hs
      rw [iterM_done hs, if_pos hq, if_pos hq]
    · rw [if_neg hq] at hs
      rw [iterM_step hs, if_neg hq]
      exact scan_loop I T p l0 n m hf he r (fr + 1) _ N (by omega) (by omega)
theorem Zj {c : Channel} (r : Right c) {many : Nat} (hm : many ≤ 100) : ∀ (m fu : Nat) (l0 : List Int) (fr : Nat) (o : List Int), m < fu → l0.length + m = many → fr ≤ c.sights.length → jO fu l0 (fr : Int) (many : Int) o c.cells c.tides c.fords c.sands c.sights (rchL c) = some ⟨(scan (pW c) ((incL c.sights.length m fr).map (l0 ++ ·)) o).1, (scan (pW c) ((incL c.sights.length m fr).map (l0 ++ ·)) o).2⟩
  | m, 0, l0, fr, o, h, _, _ => absurd h (by omega)
  | 0, fu + 1, l0, fr, o, _, hl, hfr => by
    rw [jO]
    unfold qD
    rw [if_pos (by omega)]
    have hw : zi l0 o c.cells c.tides c.fords c.sands c.sights (rchL c) = some ⟨pW c l0, l0⟩ := by
      unfold zi
      rw [YZ r (by omega), Option.bind_some]
      rfl
    rw [hw, Option.bind_some]
    show _ = some (⟨(scan (pW c) [l0 ++ []] o).1, (scan (pW c) [l0 ++ []] o).2⟩ : jF)
    rw [List.append_nil, scan, scan]
    cases pW c l0 <;> rfl
  | m + 1, fu + 1, l0, fr, o, hfu, hl, hfr => by
    have hs := r.sights
    rw [jO]
    unfold qD
    rw [if_neg (by omega)]
    have key := scan_loop (f := qi c.sights l0 (jO fu) (many : Int) c.cells c.tides c.fords c.sands (rchL c)) (fun i o => ⟨i, o⟩) (fun l => ⟨true, l⟩) (pW c) l0 c.sights.length m (fun fr o hfr => ?_) (fun o => ?_) (c.sights.length - fr) fr o FU (by omega) (FU_lt (by omega))
    · rw [key, Option.bind_some]
      cases hq : (scan (pW c) ((incL c.sights.length (m + 1) fr).map (l0 ++ ·)) o).1 with
      | true => rw [if_pos rfl, oc_inr]
      | false => rw [if_neg (by decide), oc_inl]
    · unfold qi
      simp only
      have ih := Zj r hm m fu (l0 ++ [(fr : Int)]) (fr + 1) o (by omega) (by simp; omega) (by omega)
      rw [if_pos (by omega), addc_eq (by omega), Option.bind_some, Kq (by omega), Option.bind_some, appc_eq (by simp; omega), Option.bind_some, show (fr : Int) + 1 = ((fr + 1 : Nat) : Int) by omega, ih, Option.bind_some, Option.bind_some]
      show (if (scan (pW c) (chunk c.sights.length m l0 fr) o).1 = true then _ else _) = _
      split
      · rfl
      · rw [Option.bind_some]; rfl
    · unfold qi
      simp only
      rw [if_neg (by omega)]
theorem Z9 {c : Channel} (r : Right c) {many : Nat} (hm : many ≤ 100) : qL 0 (many : Int) c.cells c.tides c.fords c.sands c.sights (rchL c) = some ⟨(scan (pW c) (incL c.sights.length many 0) []).1, (scan (pW c) (incL c.sights.length many 0) []).2⟩ := by
  have hs := r.sights
  unfold qL
  cases many with
  | zero =>
    rw [if_pos (by omega)]
    have hw : zh [] c.cells c.tides c.fords c.sands c.sights (rchL c) = some (pW c []) := by
      unfold zh
      rw [YZ r (by simp), Option.bind_some]
      rfl
    rw [hw, Option.bind_some]
    show _ = some (⟨(scan (pW c) [[]] []).1, (scan (pW c) [[]] []).2⟩ : kg)
    rw [scan, scan]
    cases pW c [] <;> rfl
  | succ m =>
    rw [if_neg (by omega)]
    have key := scan_loop (f := kK c.sights ((m + 1 : Nat) : Int) c.cells c.tides c.fords c.sands (rchL c)) (fun i o => ⟨i, o⟩) (fun l => ⟨true, l⟩) (pW c) [] c.sights.length m (fun fr o hfr => ?_) (fun o => ?_) c.sights.length 0 [] FU (by omega) (FU_lt (by omega))
    · have key' : iterM FU (kK c.sights ((m + 1 : Nat) : Int) c.cells c.tides c.fords c.sands (rchL c)) ⟨0, []⟩ = _ := key
      rw [key', Option.bind_some]
      have e : (incL c.sights.length (m + 1) 0).map (([] : List Int) ++ ·) = incL c.sights.length (m + 1) 0 := by simp
      rw [e]
      cases hq : (scan (pW c) (incL c.sights.length (m + 1) 0) []).1 with
      | true => rw [if_pos rfl, oc_inr]
      | false => rw [if_neg (by decide), oc_inl]
    · unfold kK
      simp only
      have ih := Zj r hm m FU [(fr : Int)] (fr + 1) o (by unfold FU; omega) (by simp; omega) (by omega)
      rw [if_pos (by omega), addc_eq (by omega), Option.bind_some, Kq (by simp), Option.bind_some, appc_eq (by simp), Option.bind_some, show (fr : Int) + 1 = ((fr + 1 : Nat) : Int) by omega]
      show ((jO FU [(fr : Int)] ((fr + 1 : Nat) : Int) ((m + 1 : Nat) : Int) o c.cells c.tides c.fords c.sands c.sights (rchL c)).bind _).bind _ = _
      rw [ih, Option.bind_some, Option.bind_some]
      show (if (scan (pW c) (chunk c.sights.length m [] fr) o).1 = true then _ else _) = _
      split
      · rfl
      · rw [Option.bind_some]; rfl
    · unfold kK
      simp only
      rw [if_neg (by omega)]
theorem Zk {c : Channel} (r : Right c) {many : Nat} (hm : many ≤ 100) : ∀ (m fu : Nat) (l0 : List Int) (fr : Nat) (o : List Int), m < fu → l0.length + m = many → fr ≤ c.sights.length → jN fu l0 (fr : Int) (many : Int) o c.cells c.tides c.fords c.sands c.sights (rchL c) = some ⟨(scan (pC c) ((incL c.sights.length m fr).map (l0 ++ ·)) o).1, (scan (pC c) ((incL c.sights.length m fr).map (l0 ++ ·)) o).2⟩
  | m, 0, l0, fr, o, h, _, _ => absurd h (by omega)
  | 0, fu + 1, l0, fr, o, _, hl, hfr => by
    rw [jN]
    unfold qx
    rw [if_pos (by omega)]
    have hw : zk l0 o c.cells c.tides c.fords c.sands c.sights (rchL c) = some ⟨pC c l0, l0⟩ := by
      unfold zk zn
      rw [Yg r (by omega), Option.bind_some, Option.bind_some]
      rfl
    rw [hw, Option.bind_some]
    show _ = some (⟨(scan (pC c) [l0 ++ []] o).1, (scan (pC c) [l0 ++ []] o).2⟩ : jG)
    rw [List.append_nil, scan, scan]
    cases pC c l0 <;> rfl
  | m + 1, fu + 1, l0, fr, o, hfu, hl, hfr => by
    have hs := r.sights
    rw [jN]
    unfold qx
    rw [if_neg (by omega)]
    have key := scan_loop (f := ql c.sights l0 (jN fu) (many : Int) c.cells c.tides c.fords c.sands (rchL c)) (fun i o => ⟨i, o⟩) (fun l => ⟨true, l⟩) (pC c) l0 c.sights.length m (fun fr o hfr => ?_) (fun o => ?_) (c.sights.length - fr) fr o FU (by omega) (FU_lt (by omega))
    · rw [key, Option.bind_some]
      cases hq : (scan (pC c) ((incL c.sights.length (m + 1) fr).map (l0 ++ ·)) o).1 with
      | true => rw [if_pos rfl, oc_inr]
      | false => rw [if_neg (by decide), oc_inl]
    · unfold ql
      simp only
      have ih := Zk r hm m fu (l0 ++ [(fr : Int)]) (fr + 1) o (by omega) (by simp; omega) (by omega)
      rw [if_pos (by omega), addc_eq (by omega), Option.bind_some, Kq (by omega), Option.bind_some, appc_eq (by simp; omega), Option.bind_some, show (fr : Int) + 1 = ((fr + 1 : Nat) : Int) by omega, ih, Option.bind_some, Option.bind_some]
      show (if (scan (pC c) (chunk c.sights.length m l0 fr) o).1 = true then _ else _) = _
      split
      · rfl
      · rw [Option.bind_some]; rfl
    · unfold ql
      simp only
      rw [if_neg (by omega)]
theorem Z2 {c : Channel} (r : Right c) {many : Nat} (hm : many ≤ 100) (o : List Int) : qV 0 (many : Int) o c.cells c.tides c.fords c.sands c.sights (rchL c) = some ⟨(scan (pC c) (incL c.sights.length many 0) o).1, (scan (pC c) (incL c.sights.length many 0) o).2⟩ := by
  have hs := r.sights
  unfold qV
  cases many with
  | zero =>
    rw [if_pos (by omega)]
    have hw : zp o c.cells c.tides c.fords c.sands c.sights (rchL c) = some (pC c []) := by
      unfold zp zn
      rw [Yg r (by simp), Option.bind_some, Option.bind_some]
      rfl
    rw [hw, Option.bind_some]
    show _ = some (⟨(scan (pC c) [[]] o).1, (scan (pC c) [[]] o).2⟩ : kh)
    rw [scan, scan]
    cases pC c [] <;> rfl
  | succ m =>
    rw [if_neg (by omega)]
    have key := scan_loop (f := kH c.sights ((m + 1 : Nat) : Int) c.cells c.tides c.fords c.sands (rchL c)) (fun i o => ⟨i, o⟩) (fun l => ⟨true, l⟩) (pC c) [] c.sights.length m (fun fr o hfr => ?_) (fun o => ?_) c.sights.length 0 o FU (by omega) (FU_lt (by omega))
    · have key' : iterM FU (kH c.sights ((m + 1 : Nat) : Int) c.cells c.tides c.fords c.sands (rchL c)) ⟨0, o⟩ = _ := key
      rw [key', Option.bind_some]
      have e : (incL c.sights.length (m + 1) 0).map (([] : List Int) ++ ·) = incL c.sights.length (m + 1) 0 := by simp
      rw [e]
      cases hq : (scan (pC c) (incL c.sights.length (m + 1) 0) o).1 with
      | true => rw [if_pos rfl, oc_inr]
      | false => rw [if_neg (by decide), oc_inl]
    · unfold kH
      simp only
      have ih := Zk r hm m FU [(fr : Int)] (fr + 1) o (by unfold FU; omega) (by simp; omega) (by omega)
      rw [if_pos (by omega), addc_eq (by omega), Option.bind_some, Kq (by simp), Option.bind_some, appc_eq (by simp), Option.bind_some, show (fr : Int) + 1 = ((fr + 1 : Nat) : Int) by omega]
      show ((jN FU [(fr : Int)] ((fr + 1 : Nat) : Int) ((m + 1 : Nat) : Int) o c.cells c.tides c.fords c.sands c.sights (rchL c)).bind _).bind _ = _
      rw [ih, Option.bind_some, Option.bind_some]
      show (if (scan (pC c) (chunk c.sights.length m [] fr) o).1 = true then _ else _) = _
      split
      · rfl
      · rw [Option.bind_some]; rfl
    · unfold kH
      simp only
      rw [if_neg (by omega)]
end Go.Proofs.Wb

namespace Go.Proofs.Wb
open Go Go.Fw Go.Gx Go.Sb
set_option linter.unusedVariables false
set_option maxRecDepth 100000
def E0 (n : Nat) : List (List Int) := (List.range (n + 1)).flatMap fun k => incL n k 0
def E1 (n : Nat) : List (List Int) := (List.range n).flatMap fun k => incL n (k + 1) 0
theorem find_levels (g : Nat → List (List Int)) (p : List Int → Bool) : ∀ l : List Nat, (l.flatMap g).find? p = match l.find? (fun k => ((g k).find? p).isSome) with | some k => (g k).find? p | none => none
  | [] => rfl
  | k :: l => by
    rw [List.flatMap_cons, List.find?_append, find_levels g p l, List.find?_cons]
    cases h : (g k).find? p with
    | some x => simp [h]
    | none => simp
theorem scan_fst (p : List Int → Bool) (E : List (List Int)) (o : List Int) : (scan p E o).1 = (E.find? p).isSome := by
  obtain ⟨h1, h2⟩ := scan_find p E o
  cases h : (scan p E o).1 with
  | true => rw [h1 h]; rfl
  | false => rw [h2 h]; rfl
theorem scan_snd {p : List Int → Bool} {E : List (List Int)} {o l : List Int} (h : E.find? p = some l) : (scan p E o).2 = l := by
  obtain ⟨h1, h2⟩ := scan_find p E o
  cases hq : (scan p E o).1 with
  | true => rw [h1 hq] at h; exact Option.some.inj h
  | false => rw [h2 hq] at h; cases h
theorem iterM_any0' {ρ : Type} {f : Int → Option (Int ⊕ (Unit ⊕ ρ))} (n : Nat) (bad : Nat → Bool) (e : Nat → ρ) (h1 : ∀ k : Nat, k < n → f (k : Int) = some (if bad k = true then .inr (.inr (e k)) else .inl ((k : Int) + 1))) (h2 : f (n : Int) = some (.inr (.inl ()))) {N : Nat} (hN : n < N) :
    iterM N f 0 = some (match (List.range n).find? bad with | some k => .inr (e k) | none => .inl ()) := iterM_any 0 n bad e (fun k hk => by rw [Int.zero_add]; exact h1 k hk) (by rw [Int.zero_add]; exact h2) hN
theorem jat {c : Channel} (h : Few c) : zY c = some (if chk c = 0 then ⟨0, ((E0 c.sights.length).find? (pW c)).getD []⟩ else ⟨chk c, []⟩) := by
  unfold zY
  rw [YF h, Option.bind_some]
  by_cases h0 : chk c = 0
  · have r := rightOf h0
    have hs := r.sights
    rw [if_pos h0, if_pos h0, oc_inr, addc_eq (by omega), Option.bind_some]
    have key := iterM_any0' (f := zA ((c.sights.length : Int) + 1) ⟨c.cells, c.tides, rchL c⟩ c) (c.sights.length + 1) (fun k => ((incL c.sights.length k 0).find? (pW c)).isSome) (fun k => (⟨0, ((incL c.sights.length k 0).find? (pW c)).getD []⟩ : kP)) (fun k hk => ?_) ?_ (N := FU) (FU_lt (by omega))
    · rw [key, Option.bind_some]
      unfold E0
      rw [find_levels]
      cases (List.range (c.sights.length + 1)).find? (fun k => ((incL c.sights.length k 0).find? (pW c)).isSome) with
      | none => simp only [oc_inl]; rfl
      | some k => simp only [oc_inr]
    · unfold zA zs
      have hl := Z9 r (many := k) (by omega)
      rw [if_pos (by omega), hl, Option.bind_some, Option.bind_some, scan_fst]
      cases hq : (incL c.sights.length k 0).find? (pW c) with
      | some l => rw [scan_snd hq]; rfl
      | none => rw [addc_eq (by omega)]; rfl
    · unfold zA
      rw [if_neg (by omega)]
  · rw [if_neg h0, if_neg h0, oc_inl]
def outsC (c : Channel) : Nat → List Int
  | 0 => []
  | k + 1 => (scan (pC c) (incL c.sights.length (k + 1) 0) (outsC c k)).2
theorem Zt {c : Channel} (r : Right c) : yh c.cells c.tides c.fords c.sands c.sights (rchL c) = some (decide (0 < cntS tt c)) := by
  have hf := r.fords
  unfold yh
  obtain ⟨ml, e, s1, c1, i1⟩ := jal r
  rw [e, Option.bind_some, Yj (by omega), Option.bind_some]
  obtain ⟨v, hv⟩ := Option.isSome_iff_exists.1 i1
  have h3 := s1 _ _ hv
  show some (decide (0 < (aget ml (first c)).getD 0)) = _
  rw [hv, Option.getD_some, h3]
  have : valR (nxS c) (agS (fun _ => true) c) c.tides (first c) = (cntS tt c : Int) := by
    unfold valR cntS first
    simp
  rw [this]
  congr 1
  rw [Bool.eq_iff_iff, decide_eq_true_eq, decide_eq_true_eq]
  omega
theorem jao {c : Channel} (h : Few c) : JD c = some (if chk c = 0 then (if 0 < cntS tt c then ⟨6, []⟩ else ⟨0, ((E1 c.sights.length).find? (pC c)).getD (outsC c c.sights.length)⟩) else ⟨chk c, []⟩) := by
  unfold JD
  rw [YF h, Option.bind_some]
  by_cases h0 : chk c = 0
  · have r := rightOf h0
    have hs := r.sights
    rw [if_pos h0, if_pos h0, oc_inr]
    unfold JX
    rw [Option.bind_some, Zt r, Option.bind_some]
    by_cases h1 : 0 < cntS tt c
    · rw [if_pos (by simpa using h1), if_pos h1]
    · rw [if_neg (by simpa using h1), if_neg h1]
      have key := iterM_find (f := yU c ⟨c.cells, c.tides, rchL c⟩) (fun k => ⟨(k : Int), outsC c k⟩) c.sights.length (fun k => ((incL c.sights.length (k + 1) 0).find? (pC c)).isSome) (fun k => ((incL c.sights.length (k + 1) 0).find? (pC c)).getD []) (outsC c c.sights.length) (fun k hk _ => ?_) ?_ (N := FU) (FU_lt (by omega))
      · have key' : iterM FU (yU c ⟨c.cells, c.tides, rchL c⟩) ⟨0, []⟩ = _ := key
        rw [key', Option.bind_some]
        unfold E1
        rw [find_levels (fun k => incL c.sights.length (k + 1) 0)]
        cases hq : (List.range c.sights.length).find? (fun k => ((incL c.sights.length (k + 1) 0).find? (pC c)).isSome) with
        | none => rfl
        | some k =>
          have h2 := List.find?_some hq
          obtain ⟨l, hl⟩ := Option.isSome_iff_exists.1 h2
          simp only [hl]
          rfl
      · unfold yU ze
        have hl := Z2 r (many := k + 1) (by omega) (outsC c k)
        simp only
        rw [if_pos (by omega), addc_eq (by omega), Option.bind_some, show (k : Int) + 1 = ((k + 1 : Nat) : Int) by omega, hl, Option.bind_some, Option.bind_some, scan_fst]
        cases hq : (incL c.sights.length (k + 1) 0).find? (pC c) with
        | some l => rw [scan_snd hq]; rfl
        | none => rfl
      · unfold yU
        simp only
        rw [if_neg (by omega)]
  · rw [if_neg h0, if_neg h0, oc_inl]
theorem R_mono {nx : State → List State} {ag ag' : State → Bool} (h : ∀ s, ag s = true → ag' s = true) : ∀ k s, 0 < R nx ag k s → 0 < R nx ag' k s
  | 0, s, hp => by
    rw [R, if_pos (h s (R_ag hp))]
    omega
  | k + 1, s, hp => by
    obtain ⟨h1, t, ht, h2⟩ := R_succ_pos.1 hp
    exact R_succ_pos.2 ⟨h s h1, t, ht, R_mono h k t h2⟩
theorem cnt_mono {c : Channel} {c1 c2 : Nat → Bool} (h : ∀ i, i < c.sights.length → c2 i = true → c1 i = true) (hp : 0 < cntS c1 c) : 0 < cntS c2 c := by
  refine R_mono (fun s hs => ?_) _ _ hp
  unfold agS at *
  rw [agP_iff] at *
  exact fun i hi hc => hs i hi (h i hi hc)
theorem cnt_congr {c : Channel} {c1 c2 : Nat → Bool} (h : ∀ i, i < c.sights.length → c1 i = c2 i) : cntS c1 c = cntS c2 c := by
  unfold cntS
  have : agS c1 c = agS c2 c := by
    funext s
    exact agP_congr h
  rw [this]
theorem canB_self {c : Channel} (r : Right c) (l : List Int) : canB c.sands l l = true := by
  unfold canB
  rw [List.all_eq_true]
  intro i _
  rw [inb_iff]
  have := rchC_bounds (x := l.getD i (-1)) r.reach
  omega
theorem stay_pos {c : Channel} (r : Right c) (h : c.sights.length = 0) : 0 < cntS tt c := by
  have hc := r.cells
  have hag : ∀ k l, agP tt c.sights k l = true := by
    intro k l
    rw [agP_iff, h]
    intro i hi
    omega
  have hmem : c.fords ∈ LL c := (mem_LL (by omega)).2 (rowB_iff.2 ⟨rfl, r.up, r.fcell⟩)
  have key : ∀ k, 0 < FcL tt c k c.fords := by
    intro k
    induction k with
    | zero => rw [FcL, if_pos ⟨hag _ _, rfl⟩]; omega
    | succ k ih => exact FcL_succ_pos.2 ⟨hag _ _, c.fords, hmem, canB_self r _, ih⟩
  rw [cntS_sum r]
  exact sumN_pos.2 ⟨c.fords, hmem, key _⟩
end Go.Proofs.Wb

namespace Go.Proofs.Wb
open Go Go.Fw Go.Gx Go.Sb
set_option linter.unusedVariables false
set_option maxRecDepth 100000
def inA (n : Nat) (l : List Int) : Bool := l.all fun x => inb x 0 ((n : Int) - 1)
def dupB (l : List Int) : Bool := (List.range l.length).any fun s => decide (l.getD s 0 ∈ l.take s)
theorem ZX {a b : Int} {f : List Int} {sa : List Sand} {sg : List Sight} (hsg : sg.length ≤ 1000) {l : List Int} (hl : l.length ≤ 1000) : yC l a b f sa sg = some (inA sg.length l) := by
  unfold yC q8 yM
  rw [contains_loop (f := qg l a b f sa sg) l 0 (fun x => !inb x 0 ((sg.length : Int) - 1)) (by omega) (fun k hk => ?_) ?_]
  · rw [Option.bind_some]
    unfold inA
    congr 1
    rw [List.not_any_eq_all_not]
    simp
  · unfold qg
    rw [if_neg (by omega)]
  · unfold qg yY JJ
    rw [if_pos (by omega), ix_nat 0 hk, Option.bind_some, subc_eq (by omega), Option.bind_some, YE, Option.bind_some, Option.bind_some, Option.bind_some]
    cases inb (l.getD k 0) 0 ((sg.length : Int) - 1) with
    | true => rw [if_neg (by decide), if_neg (by decide), addc_eq (by omega), Option.bind_some]
    | false => rfl
theorem jam {c : Channel} (h : Few c) {l : List Int} (hl : l.length ≤ 1000) : yR c l = some (if chk c = 0 then (if inA c.sights.length l = true then (if dupB l = true then ⟨false, 5⟩ else ⟨decide (0 < cntS (cIn l) c), 0⟩) else ⟨false, 1⟩) else ⟨false, chk c⟩) := by
  unfold yR
  rw [YF h, Option.bind_some]
  by_cases h0 : chk c = 0
  · have r := rightOf h0
    have hs := r.sights
    rw [if_pos h0, if_pos h0, oc_inr, ZX (by omega) hl, Option.bind_some, not_true_if]
    by_cases h1 : inA c.sights.length l = true
    · rw [if_pos h1, if_pos h1]
      have key := iterM_any0 (f := zC l) l.length (fun s => decide (l.getD s 0 ∈ l.take s)) (⟨false, 5⟩ : qZ) (fun k hk => ?_) ?_ (N := FU) (FU_lt (by omega))
      · rw [key, Option.bind_some]
        show oc (if dupB l = true then _ else _) _ _ = _
        by_cases h2 : dupB l = true
        · rw [if_pos h2, if_pos h2, oc_inr]
        · rw [if_neg h2, if_neg h2, oc_inl]
          unfold zn
          rw [Option.bind_some, Yg r (by omega), Option.bind_some]
      · unfold zC
        rw [if_pos (by omega), ix_nat 0 hk, Option.bind_some, if_pos (by omega), Int.toNat_natCast, yL (by rw [List.length_take]; omega), Option.bind_some]
        by_cases h2 : l.getD k 0 ∈ l.take k
        · rw [if_pos (decide_eq_true h2), if_pos (decide_eq_true h2)]
        · rw [if_neg (by simpa using h2), if_neg (by simpa using h2), addc_eq (by omega), Option.bind_some]
      · unfold zC
        rw [if_neg (by omega)]
    · rw [if_neg h1, if_neg h1]
  · rw [if_neg h0, if_neg h0, oc_inl]
theorem inA_iff {n : Nat} {l : List Int} : inA n l = true ↔ ∀ x ∈ l, 0 ≤ x ∧ x < (n : Int) := by
  unfold inA
  rw [List.all_eq_true]
  constructor
  · intro h x hx
    have := inb_iff.1 (h x hx)
    omega
  · intro h x hx
    have := h x hx
    exact inb_iff.2 (by omega)
end Go.Proofs.Wb

namespace Go.Proofs.Wb
open Go Go.Fw Go.Gx Go.Sb
set_option linter.unusedVariables false
set_option maxRecDepth 100000
def HOK (l : List Int) (p : Int) : Prop := 0 ≤ p ∧ (p < (l.length : Int) ∨ p = 0)
theorem pick_ok {l : List Int} {p r : Int} (hl : l.length ≤ 9223372036854775807) (hp : HOK l p) : ∃ x, Je l p r = some x ∧ (0 ≤ x.r0 ∧ x.r0 ≤ 32767) ∧ HOK l x.h0_1 := by
  obtain ⟨h0, h1⟩ := hp
  unfold Je
  have e1 : addc p 1 = some (p + 1) := addc_eq (by omega)
  by_cases hlt : p < (l.length : Int)
  · rw [if_pos hlt, ix_eq 0 h0 hlt, e1]
    simp only [Option.bind_some]
    by_cases hge : (l.length : Int) ≤ p + 1
    · rw [if_pos hge]
      exact ⟨_, rfl, Go.Fw.and_bound _ _ rfl, Int.le_refl _, .inr rfl⟩
    · rw [if_neg hge]
      exact ⟨_, rfl, Go.Fw.and_bound _ _ rfl, by simp only; omega, .inl (by simp only; omega)⟩
  · rw [if_neg hlt, e1]
    simp only [Option.bind_some]
    by_cases hge : (l.length : Int) ≤ p + 1
    · rw [if_pos hge]
      exact ⟨_, rfl, Go.Fw.and_bound _ _ rfl, Int.le_refl _, .inr rfl⟩
    · rw [if_neg hge]
      exact ⟨_, rfl, Go.Fw.and_bound _ _ rfl, by simp only; omega, .inl (by simp only; omega)⟩
theorem upto_ok {l : List Int} {p r n : Int} (hl : l.length ≤ 9223372036854775807) (hp : HOK l p) (hn : -1000000 ≤ n ∧ n ≤ 1000000) : ∃ x, jV l p r n = some x ∧ (0 ≤ x.r0 ∧ x.r0 ≤ max 0 n) ∧ HOK l x.h0_1 := by
  obtain ⟨x, hx, hb, hk⟩ := pick_ok (r := r) hl hp
  unfold jV
  rw [hx, Option.bind_some, addc_eq (by omega), Option.bind_some, remc_eq (by omega), Option.bind_some]
  refine ⟨_, rfl, ?_, hk⟩
  have h1 := Int.tmod_nonneg (max 1 (n + 1)) hb.1
  have h2 := Int.tmod_lt_of_pos x.r0 (show 0 < max 1 (n + 1) by omega)
  simp only
  omega
theorem from_ok {l : List Int} {p r lo hi : Int} (hl : l.length ≤ 9223372036854775807) (hp : HOK l p) (hn : (-400000 ≤ lo ∧ lo ≤ 400000) ∧ -400000 ≤ hi ∧ hi ≤ 400000) : ∃ x, yV l p r lo hi = some x ∧ (lo ≤ x.r0 ∧ x.r0 ≤ max lo hi) ∧ HOK l x.h0_1 := by
  unfold yV
  rw [subc_eq (by omega), Option.bind_some]
  obtain ⟨x, hx, hb, hk⟩ := upto_ok (r := r) (n := hi - lo) hl hp (by omega)
  rw [hx, Option.bind_some, addc_eq (by omega), Option.bind_some]
  exact ⟨_, rfl, by simp only; omega, hk⟩
theorem once_ok {l : List Int} {p r n : Int} (hl : l.length ≤ 9223372036854775807) (hp : HOK l p) (hn : -400000 ≤ n ∧ n ≤ 400000) : ∃ x, zy l p r n = some x ∧ HOK l x.h0_1 := by
  unfold zy
  rw [subc_eq (by omega), Option.bind_some]
  obtain ⟨x, hx, hb, hk⟩ := upto_ok (r := r) (n := n - 1) hl hp (by omega)
  rw [hx, Option.bind_some]
  exact ⟨_, rfl, hk⟩
def IsOrd (n : Nat) (l : List Int) : Prop := l.Perm ((List.range n).map fun k : Nat => (k : Int))
theorem ins_ok {l : List Int} {i v : Int} (h0 : 0 ≤ i) (h1 : i ≤ (l.length : Int)) (hl : l.length ≤ 1000) : Jg l i [v] = some (l.take i.toNat ++ [v] ++ l.drop i.toNat) := by
  unfold Jg
  rw [if_pos ⟨h0, h1, by simp, by simp; omega⟩]
theorem IsOrd.len {n : Nat} {l : List Int} (h : IsOrd n l) : l.length = n := by
  have := List.Perm.length_eq h
  simpa using this
theorem IsOrd.ins {n : Nat} {l : List Int} (h : IsOrd n l) (i : Nat) : IsOrd (n + 1) (l.take i ++ [(n : Int)] ++ l.drop i) := by
  unfold IsOrd
  rw [List.range_succ, List.map_append]
  have e : l.take i ++ [(n : Int)] ++ l.drop i = l.take i ++ (n : Int) :: l.drop i := by simp
  rw [e]
  refine List.perm_middle.trans ?_
  rw [List.take_append_drop]
  refine (List.Perm.cons _ h).trans ?_
  exact (List.perm_append_singleton _ _).symm
theorem order_ok {l : List Int} (hl : l.length ≤ 9223372036854775807) {p r : Int} {n : Nat} (hp : HOK l p) (hn : n ≤ 900) : ∃ x, zT l p r (n : Int) = some x ∧ HOK l x.h0_1 ∧ IsOrd n x.r0 := by
  unfold zT
  have key : ∃ o, iterM FU (yX (n : Int) l) ⟨0, p, r, []⟩ = some o ∧ HOK l o.h0_1 ∧ IsOrd n o.out5 := by
    refine iterM_inv (f := yX (n : Int) l) (fun s => ∃ j : Nat, s.t9 = (j : Int) ∧ j ≤ n ∧ HOK l s.h0_1 ∧ IsOrd j s.out5) (fun s => ((n : Int) - s.t9).toNat) _ (fun s hs => ?_) FU _ (FU_lt (by simp only; omega)) ⟨0, rfl, by omega, hp, List.Perm.refl _⟩
    obtain ⟨j, hj, hjn, hk, ho⟩ := hs
    unfold yX
    rw [hj]
    by_cases hlt : j < n
    · left
      obtain ⟨x, hx, hb, hk2⟩ := upto_ok (r := s.h0_2) (n := (j : Int)) hl hk (by omega)
      have hlen := ho.len
      rw [if_pos (by omega), hx, Option.bind_some, ins_ok hb.1 (by omega) (by omega), Option.bind_some, addc_eq (by omega), Option.bind_some]
      exact ⟨_, rfl, ⟨j + 1, by push_cast; rfl, hlt, hk2, ho.ins _⟩, by simp only; omega⟩
    · right
      rw [if_neg (by omega)]
      have : j = n := by omega
      subst this
      exact ⟨_, rfl, hk, ho⟩
  obtain ⟨o, h1, h2, h3⟩ := key
  rw [h1, Option.bind_some]
  exact ⟨_, rfl, h2, h3⟩
theorem chk_right {c : Channel} (r : Right c) (h8 : c.sights.length ≤ 8) : chk c = 0 := by
  unfold chk
  have h1 : okMany c = true := okMany_iff.2 ⟨r.cells, r.tides, r.fords, r.sands, h8⟩
  have h2 : okLimit c = true := by
    simp only [okLimit, Bool.and_eq_true, List.all_eq_true, inb_iff]
    exact ⟨r.reach, r.after⟩
  have h3 : okMiss c = true := by
    simp only [okMiss, Bool.and_eq_true, List.all_eq_true, inb_iff]
    refine ⟨⟨fun x hx => ?_, fun s hs => ?_⟩, fun s hs => ?_⟩
    · have := r.fcell x hx; omega
    · have := r.span s hs; omega
    · have := r.scell s hs; omega
  have h4 : okOrder c = true := by
    simp only [okOrder, Bool.and_eq_true, List.all_eq_true, decide_eq_true_eq]
    exact ⟨r.up, fun s hs => (r.span s hs).2.2⟩
  rw [if_pos h1, if_pos h2, if_pos h3, if_pos h4]
theorem lawReach_eq {c : Channel} (h : c.sands.length ≤ 100) (x : Int) : yo c x = some (rchC c.sands x) := by
  unfold yo
  have key := iterM_run (f := yc c x) (fun j => ⟨rchC (c.sands.take j) x, (j : Int)⟩) c.sands.length (b := rchC c.sands x) (fun j hj => ?_) ?_ FU (FU_lt (by omega))
  · simp only [List.take_zero] at key
    rw [show (⟨0, 0⟩ : yi) = ⟨rchC [] x, ((0 : Nat) : Int)⟩ from rfl, key]
    rfl
  · have e : c.sands.take (j + 1) = c.sands.take j ++ [c.sands[j]] := by rw [List.take_append_getElem]
    have hx : c.sands.getD j default = c.sands[j] := by simp [List.getD_eq_getElem?_getD, hj]
    unfold yc
    simp only
    rw [if_pos (by omega), ix_nat default hj, Option.bind_some, hx, e, rchC_snoc, addc_eq (by omega)]
    unfold stepR
    by_cases h1 : c.sands[j].span.lo ≤ x
    · rw [if_pos h1, Option.bind_some]
      by_cases h2 : x ≤ c.sands[j].span.hi
      · rw [if_pos (decide_eq_true h2), if_pos ⟨h1, h2⟩]; rfl
      · rw [if_neg (by simpa using h2), if_neg (fun q => h2 q.2)]; rfl
    · rw [if_neg h1, Option.bind_some, if_neg (by decide), if_neg (fun q => h1 q.1)]; rfl
  · unfold yc
    simp only
    rw [if_neg (by omega), List.take_length]
def freeB (cells : Int) (r0 : List Int) (i : Nat) (v : Int) : Bool := decide (0 ≤ v) && (decide (v < cells) && ((decide (i = 0) || decide (r0.getD (i - 1) (-1) < v)) && (decide (i + 1 = r0.length) || decide (v < r0.getD (i + 1) (-1)))))
theorem cond_eq {v cells : Int} {i : Nat} {r0 : List Int} (hi : i < r0.length) (hn : r0.length ≤ 1000) : (if 0 ≤ v then
 (if v < cells then
 (if (i : Int) = 0 then
 ((subc (r0.length : Int) 1).bind fun t82 =>
 if (i : Int) = t82 then
 (some true) else
 ((addc (i : Int) 1).bind fun t88 =>
 (ix r0 t88).bind fun t89 =>
 some (decide (v < t89)))) else
 ((subc (i : Int) 1).bind fun t72 =>
 (ix r0 t72).bind fun t73 =>
 if t73 < v then
 ((subc (r0.length : Int) 1).bind fun t82_1 =>
 if (i : Int) = t82_1 then
 (some true) else
 ((addc (i : Int) 1).bind fun t88_1 =>
 (ix r0 t88_1).bind fun t89_1 =>
 some (decide (v < t89_1)))) else
 (some false))) else
 (some false)) else
 (some false) : Option Bool) = some (freeB cells r0 i v) := by
  have tail : ((subc (r0.length : Int) 1).bind fun t82 => if (i : Int) = t82 then (some true) else ((addc (i : Int) 1).bind fun t88 => (ix r0 t88).bind fun t89 => some (decide (v < t89)))) = some (decide (i + 1 = r0.length) || decide (v < r0.getD (i + 1) (-1))) := by
    rw [subc_eq (by omega), Option.bind_some]
    by_cases h : i + 1 = r0.length
    · rw [if_pos (by omega), decide_eq_true h, Bool.true_or]
    · rw [if_neg (by omega), addc_eq (by omega), Option.bind_some, show (i : Int) + 1 = ((i + 1 : Nat) : Int) by omega, ix_nat (-1) (by omega), Option.bind_some, decide_eq_false h, Bool.false_or]
  unfold freeB
  by_cases h1 : 0 ≤ v
  · rw [if_pos h1, decide_eq_true h1, Bool.true_and]
    by_cases h2 : v < cells
    · rw [if_pos h2, decide_eq_true h2, Bool.true_and, tail]
      by_cases h3 : i = 0
      · rw [if_pos (by omega), decide_eq_true h3, Bool.true_or, Bool.true_and]
      · rw [if_neg (by omega), subc_eq (by omega), Option.bind_some, show (i : Int) - 1 = ((i - 1 : Nat) : Int) by omega, ix_nat (-1) (by omega), Option.bind_some, decide_eq_false h3, Bool.false_or]
        by_cases h4 : r0.getD (i - 1) (-1) < v
        · rw [if_pos h4, decide_eq_true h4, Bool.true_and]
        · rw [if_neg h4, decide_eq_false h4, Bool.false_and]
    · rw [if_neg h2, decide_eq_false h2, Bool.false_and]
  · rw [if_neg h1, decide_eq_false h1, Bool.false_and]
theorem getD_set {l : List Int} {i j : Nat} {v d : Int} (hi : i < l.length) : (l.set i v).getD j d = if j = i then v else l.getD j d := by
  rw [List.getD_eq_getElem?_getD, List.getElem?_set, List.getD_eq_getElem?_getD]
  by_cases h : i = j
  · subst h; simp [hi]
  · rw [if_neg h, if_neg (fun e => h e.symm)]
theorem row_set {c : Channel} {a b : List Int} (hb : rowB c b = true) (hab : a.length = b.length) (hc : canB c.sands a b = true) {i : Nat} (hi : i < b.length) {v : Int} (hf : freeB c.cells b i v = true) (hv : a.getD i (-1) - rchC c.sands (a.getD i (-1)) ≤ v ∧ v ≤ a.getD i (-1) + rchC c.sands (a.getD i (-1))) : rowB c (b.set i v) = true ∧ canB c.sands a (b.set i v) = true := by
  unfold freeB at hf
  simp only [Bool.and_eq_true, Bool.or_eq_true, decide_eq_true_eq] at hf
  obtain ⟨f1, f2, f3, f4⟩ := hf
  obtain ⟨b1, b2, b3⟩ := rowB_iff.1 hb
  constructor
  · refine rowB_iff.2 ⟨by rw [List.length_set]; exact b1, upB_ix.2 fun j hj => ?_, fun x hx => ?_⟩
    · rw [List.length_set] at hj
      rw [getD_set hi, getD_set hi]
      have hb' := upB_ix.1 b2 j hj
      by_cases h1 : j = i
      · subst h1
        rw [if_pos rfl, if_neg (by omega)]
        rcases f4 with f4 | f4
        · omega
        · exact f4
      · rw [if_neg h1]
        by_cases h2 : j + 1 = i
        · rw [if_pos h2]
          rcases f3 with f3 | f3
          · omega
          · rw [← h2, Nat.add_sub_cancel] at f3; exact f3
        · rw [if_neg h2]; exact hb'
    · rcases List.mem_or_eq_of_mem_set hx with h | h
      · exact b3 x h
      · omega
  · unfold canB at hc ⊢
    rw [List.all_eq_true] at hc ⊢
    intro j hj
    have h0 := hc j hj
    rw [getD_set hi]
    by_cases h1 : j = i
    · subst h1
      rw [if_pos rfl, inb_iff]
      omega
    · rw [if_neg h1]; exact h0
theorem walk_L1 {l : List Int} (hl : l.length ≤ 9223372036854775807) {c : Channel} (r : Right c) {a : List Int} (ha : rowB c a = true) {t : zq} (ho : IsOrd a.length t.r0) {p q : Int} (hp : HOK l p) :
    ∃ o, iterM FU (qz t a c l) ⟨0, p, q, a⟩ = some o ∧ HOK l o.b0_1 ∧ rowB c o.r0 = true ∧ canB c.sands a o.r0 = true := by
  have hc := r.cells
  have hf := r.fords
  have hs := r.sands
  have hlen := ho.len
  obtain ⟨a1, a2, a3⟩ := rowB_iff.1 ha
  refine iterM_inv (f := qz t a c l) (fun s => (0 ≤ s.t33 ∧ s.t33 ≤ (t.r0.length : Int)) ∧ HOK l s.b0_1 ∧ rowB c s.r0 = true ∧ canB c.sands a s.r0 = true) (fun s => ((t.r0.length : Int) - s.t33).toNat) _ (fun s hs => ?_) FU _ (FU_lt (by simp only; omega)) ⟨by simp only; omega, hp, ha, canB_self r a⟩
  obtain ⟨h0, hk, hr, hcn⟩ := hs
  obtain ⟨b1, b2, b3⟩ := rowB_iff.1 hr
  unfold qz
  by_cases hlt : s.t33 < (t.r0.length : Int)
  · left
    have hm : t.r0.getD s.t33.toNat 0 ∈ t.r0 := getD_mem (by omega)
    obtain ⟨i, hi, he⟩ := List.mem_map.1 ((List.Perm.mem_iff ho).1 hm)
    have hi' : i < a.length := by simpa using hi
    have h1 := a3 _ (getD_mem (d := -1) hi')
    have h2 := rchC_bounds (x := a.getD i (-1)) r.reach
    obtain ⟨x, hx, hb, hk2⟩ := from_ok (r := s.b0_2) (lo := -rchC c.sands (a.getD i (-1))) (hi := rchC c.sands (a.getD i (-1))) hl hk (by omega)
    have hneg : negc (rchC c.sands (a.getD i (-1))) = some (-rchC c.sands (a.getD i (-1))) := negc_eq (by omega)
    rw [if_pos hlt, ix_eq 0 h0.1 hlt, Option.bind_some, ← he, ix_nat (-1) hi']
    simp only [Option.bind_some]
    rw [lawReach_eq (by omega)]
    simp only [Option.bind_some]
    rw [hneg]
    simp only [Option.bind_some]
    rw [hx]
    simp only [Option.bind_some]
    rw [addc_eq (by omega)]
    simp only [Option.bind_some]
    rw [cond_eq (by omega) (by omega), addc_eq (by omega)]
    simp only [Option.bind_some]
    by_cases hfr : freeB c.cells s.r0 i (a.getD i (-1) + x.r0) = true
    · rw [if_pos hfr, ix_nat (-1) (by omega)]
      simp only [Option.bind_some, Int.toNat_natCast]
      obtain ⟨g1, g2⟩ := row_set hr (by omega) hcn (by omega) hfr (by omega)
      exact ⟨_, rfl, ⟨by simp only; omega, hk2, g1, g2⟩, by simp only; omega⟩
    · rw [if_neg hfr]
      simp only [Option.bind_some]
      exact ⟨_, rfl, ⟨by simp only; omega, hk2, hr, hcn⟩, by simp only; omega⟩
  · right
    rw [if_neg hlt]
    exact ⟨_, rfl, hk, hr, hcn⟩
structure WalkC (c : Channel) (n : Nat) (crs : List (List Int)) : Prop where
  len : crs.length = n + 1
  fst : crs.getD 0 [] = c.fords
  row : ∀ k, k ≤ n → rowB c (crs.getD k []) = true
  can : ∀ k, k < n → canB c.sands (crs.getD k []) (crs.getD (k + 1) []) = true
theorem getD_snoc {α : Type} {l : List α} {x d : α} {k : Nat} : (l ++ [x]).getD k d = if k < l.length then l.getD k d else if k = l.length then x else d := by
  rw [List.getD_eq_getElem?_getD, List.getD_eq_getElem?_getD]
  by_cases h : k < l.length
  · rw [if_pos h, List.getElem?_append_left h]
  · rw [if_neg h]
    by_cases h2 : k = l.length
    · rw [if_pos h2]; subst h2; simp
    · rw [if_neg h2, List.getElem?_eq_none (by simp; omega)]; rfl
theorem WalkC.snoc {c : Channel} {n : Nat} {crs : List (List Int)} (h : WalkC c n crs) {b : List Int} (hb : rowB c b = true) (hc : canB c.sands (crs.getD n []) b = true) : WalkC c (n + 1) (crs ++ [b]) := by
  have hl := h.len
  refine ⟨by simp; omega, ?_, fun k hk => ?_, fun k hk => ?_⟩
  · rw [getD_snoc, if_pos (by omega)]; exact h.fst
  · rw [getD_snoc]
    by_cases h1 : k < crs.length
    · rw [if_pos h1]; exact h.row k (by omega)
    · rw [if_neg h1, if_pos (by omega)]; exact hb
  · rw [getD_snoc, getD_snoc, if_pos (by omega)]
    by_cases h1 : k + 1 < crs.length
    · rw [if_pos h1]; exact h.can k (by omega)
    · rw [if_neg h1, if_pos (by omega)]
      obtain rfl : k = n := by omega
      exact hc
theorem walked_ok {l : List Int} (hl : l.length ≤ 9223372036854775807) {c : Channel} (r : Right c) {p q : Int} (hp : HOK l p) : ∃ x, yf l p q c = some x ∧ HOK l x.b0_1 ∧ WalkC c c.tides.toNat x.r0 := by
  have ht := r.tides
  have hf := r.fords
  have hrow : rowB c c.fords = true := rowB_iff.2 ⟨rfl, r.up, r.fcell⟩
  unfold yf
  rw [ZJ (by omega), Option.bind_some]
  have key : ∃ o, iterM FU (qu c l) ⟨0, p, q, [c.fords]⟩ = some o ∧ HOK l o.b0_1 ∧ WalkC c c.tides.toNat o.out5 := by
    refine iterM_inv (f := qu c l) (fun s => (0 ≤ s.t17 ∧ s.t17 ≤ c.tides) ∧ HOK l s.b0_1 ∧ WalkC c s.t17.toNat s.out5) (fun s => (c.tides - s.t17).toNat) _ (fun s hs => ?_) FU _ (FU_lt (by simp only; omega)) ⟨by simp only; omega, hp, ⟨rfl, rfl, fun k hk => ?_, fun k hk => ?_⟩⟩
    · obtain ⟨h0, hk, hw⟩ := hs
      unfold qu
      by_cases hlt : s.t17 < c.tides
      · left
        have hlen := hw.len
        have ha := hw.row s.t17.toNat (Nat.le_refl _)
        have ha' := (rowB_iff.1 ha).1
        rw [if_pos hlt, subc_eq (by omega), Option.bind_some, ix_eq [] (by omega) (by omega), Option.bind_some, show ((s.out5.length : Int) - 1).toNat = s.t17.toNat by omega, ZJ (by omega), Option.bind_some, ZJ (by omega), Option.bind_some]
        obtain ⟨t, h1, h2, h3⟩ := order_ok (r := s.b0_2) (n := (s.out5.getD s.t17.toNat []).length) hl hk (by omega)
        rw [h1, Option.bind_some]
        obtain ⟨o, g1, g2, g3, g4⟩ := walk_L1 (q := t.h0_2) hl r ha h3 h2
        rw [g1, Option.bind_some, appc_eq (by simp; omega), Option.bind_some, addc_eq (by omega), Option.bind_some]
        refine ⟨_, rfl, ⟨by simp only; omega, g2, ?_⟩, by simp only; omega⟩
        have := hw.snoc g3 g4
        simp only
        rw [show (s.t17 + 1).toNat = s.t17.toNat + 1 by omega]
        exact this
      · right
        rw [if_neg hlt]
        refine ⟨_, rfl, hk, ?_⟩
        rw [show c.tides.toNat = s.t17.toNat by omega]
        exact hw
    · have hk0 : k = 0 := by simpa using hk
      subst hk0
      exact hrow
    · simp at hk
  obtain ⟨o, h1, h2, h3⟩ := key
  rw [h1, Option.bind_some]
  exact ⟨_, rfl, h2, h3⟩
end Go.Proofs.Wb

namespace Go.Proofs.Wb
open Go Go.Fw Go.Gx Go.Sb
set_option linter.unusedVariables false
set_option maxRecDepth 100000
structure MadeC (c : Channel) (cells fords tides : Int) : Prop where
  right : Right c
  none : c.sights = []
  cells : 3 ≤ c.cells ∧ c.cells ≤ cells
  fords : (c.fords.length : Int) ≤ fords
  tides : c.tides ≤ tides
theorem upB_snoc {f : List Int} {v : Int} (h : upB f = true) (hv : ∀ x ∈ f, x < v) : upB (f ++ [v]) = true := by
  rw [upB_ix] at *
  intro i hi
  rw [List.length_append, List.length_singleton] at hi
  rw [getD_snoc, getD_snoc, if_pos (by omega)]
  by_cases h1 : i + 1 < f.length
  · rw [if_pos h1]; exact h i h1
  · rw [if_neg h1, if_pos (by omega)]
    exact hv _ (getD_mem (by omega))
theorem made_L0 {l : List Int} (hl : l.length ≤ 9223372036854775807) {t : ym} (ht : 3 ≤ t.r0 ∧ t.r0 ≤ 9) {f : Int} (hf : 1 ≤ f ∧ f ≤ 3) {p q : Int} (hp : HOK l p) :
    ∃ o, iterM FU (qM t f l) ⟨0, p, q, []⟩ = some o ∧ HOK l o.b0_1 ∧ upB o.c10_fords = true ∧ (∀ x ∈ o.c10_fords, 0 ≤ x ∧ x < t.r0) ∧ 1 ≤ o.c10_fords.length ∧ (o.c10_fords.length : Int) ≤ f := by
  refine iterM_inv (f := qM t f l) (fun s => (0 ≤ s.t22 ∧ s.t22 ≤ t.r0) ∧ HOK l s.b0_1 ∧ upB s.c10_fords = true ∧ (∀ x ∈ s.c10_fords, 0 ≤ x ∧ x < s.t22) ∧ (s.c10_fords.length : Int) ≤ f ∧ (s.t22 = t.r0 → 1 ≤ s.c10_fords.length)) (fun s => (t.r0 - s.t22).toNat) _ (fun s hs => ?_) FU _ (FU_lt (by simp only; omega)) ⟨by simp only; omega, hp, rfl, by simp, by simp only; simp; omega, fun h => by simp only at h; omega⟩
  obtain ⟨h0, hk, hu, hx, hlen, hne⟩ := hs
  unfold qM
  by_cases hlt : s.t22 < t.r0
  · left
    rw [if_pos hlt, addc_eq (by omega)]
    -- with this cell
    have yes : ∀ (b1 b2 : Int), HOK l b1 → (s.c10_fords.length : Int) < f → ∃ s', ((appc 8 s.c10_fords [s.t22]).bind fun t51 => some (⟨b1, b2, t51⟩ : yQ)).bind (fun o_1 => (some (s.t22 + 1)).bind fun t53 => some (Sum.inl (⟨t53, o_1.b0_1, o_1.b0_2, o_1.c10_fords⟩ : kb) : kb ⊕ yK)) = some (.inl s') ∧ ((0 ≤ s'.t22 ∧ s'.t22 ≤ t.r0) ∧ HOK l s'.b0_1 ∧ upB s'.c10_fords = true ∧ (∀ x ∈ s'.c10_fords, 0 ≤ x ∧ x < s'.t22) ∧ (s'.c10_fords.length : Int) ≤ f ∧ (s'.t22 = t.r0 → 1 ≤ s'.c10_fords.length)) ∧ (t.r0 - s'.t22).toNat < (t.r0 - s.t22).toNat := by
      intro b1 b2 hb hff
      rw [appc_eq (by simp; omega)]
      simp only [Option.bind_some]
      refine ⟨_, rfl, ⟨by simp only; omega, hb, upB_snoc hu (fun x hx' => (hx x hx').2), fun x hx' => ?_, by simp; omega, fun _ => by simp⟩, by simp only; omega⟩
      simp only
      rcases List.mem_append.1 hx' with h | h
      · have := hx x h; omega
      · rw [List.mem_singleton] at h; omega
    have no : ∀ (b1 b2 : Int), HOK l b1 → (s.t22 + 1 = t.r0 → 1 ≤ s.c10_fords.length) → ∃ s', (some (⟨b1, b2, s.c10_fords⟩ : yQ)).bind (fun o_1 => (some (s.t22 + 1)).bind fun t53 => some (Sum.inl (⟨t53, o_1.b0_1, o_1.b0_2, o_1.c10_fords⟩ : kb) : kb ⊕ yK)) = some (.inl s') ∧ ((0 ≤ s'.t22 ∧ s'.t22 ≤ t.r0) ∧ HOK l s'.b0_1 ∧ upB s'.c10_fords = true ∧ (∀ x ∈ s'.c10_fords, 0 ≤ x ∧ x < s'.t22) ∧ (s'.c10_fords.length : Int) ≤ f ∧ (s'.t22 = t.r0 → 1 ≤ s'.c10_fords.length)) ∧ (t.r0 - s'.t22).toNat < (t.r0 - s.t22).toNat := by
      intro b1 b2 hb hff
      simp only [Option.bind_some]
      exact ⟨_, rfl, ⟨by simp only; omega, hb, hu, fun x hx' => by have := hx x hx'; simp only; omega, hlen, hff⟩, by simp only; omega⟩
    by_cases h1 : (s.c10_fords.length : Int) < f
    · obtain ⟨x, hx', hk2⟩ := once_ok (r := s.b0_2) (n := 3) hl hk (by omega)
      rw [if_pos h1, hx', Option.bind_some]
      by_cases h2 : x.r0 = true
      · rw [if_pos h2, Option.bind_some, if_pos rfl]
        exact yes _ _ hk2 h1
      · rw [if_neg h2, subc_eq (by omega), Option.bind_some]
        by_cases h3 : s.t22 = t.r0 - 1
        · rw [if_pos h3, Option.bind_some]
          by_cases h4 : (s.c10_fords.length : Int) = 0
          · rw [if_pos (decide_eq_true h4)]
            exact yes _ _ hk2 h1
          · rw [if_neg (by simpa using h4)]
            exact no _ _ hk2 (fun _ => by omega)
        · rw [if_neg h3, Option.bind_some, if_neg Bool.false_ne_true]
          exact no _ _ hk2 (fun q => by omega)
    · rw [if_neg h1, Option.bind_some, if_neg Bool.false_ne_true]
      exact no _ _ hk (fun _ => by omega)
  · right
    rw [if_neg hlt]
    have : s.t22 = t.r0 := by omega
    exact ⟨_, rfl, hk, hu, fun x hx' => by have := hx x hx'; omega, hne this, hlen⟩
theorem made_L1 {l : List Int} (hl : l.length ≤ 9223372036854775807) {t : ym} (ht : 3 ≤ t.r0 ∧ t.r0 ≤ 9) {u : yT} (hu : 0 ≤ u.r0 ∧ u.r0 ≤ 4) {p q : Int} (hp : HOK l p) :
    ∃ o, iterM FU (qS u t l) ⟨0, p, q, []⟩ = some o ∧ HOK l o.b0_1 ∧ o.c10_sands.length ≤ 4 ∧ ∀ s ∈ o.c10_sands, (1 ≤ s.reach ∧ s.reach ≤ 2) ∧ 0 ≤ s.span.lo ∧ s.span.hi < t.r0 ∧ s.span.lo ≤ s.span.hi := by
  refine iterM_inv (f := qS u t l) (fun s => (0 ≤ s.t56 ∧ s.t56 ≤ u.r0) ∧ HOK l s.b0_1 ∧ (s.c10_sands.length : Int) = s.t56 ∧ ∀ w ∈ s.c10_sands, (1 ≤ w.reach ∧ w.reach ≤ 2) ∧ 0 ≤ w.span.lo ∧ w.span.hi < t.r0 ∧ w.span.lo ≤ w.span.hi) (fun s => (u.r0 - s.t56).toNat) _ (fun s hs => ?_) FU _ (FU_lt (by simp only; omega)) ⟨by simp only; omega, hp, rfl, by simp⟩
  obtain ⟨h0, hk, hlen, hx⟩ := hs
  unfold qS
  by_cases hlt : s.t56 < u.r0
  · left
    rw [if_pos hlt, subc_eq (by omega), Option.bind_some]
    obtain ⟨x, hx1, hb1, hk1⟩ := upto_ok (r := s.b0_2) (n := t.r0 - 1) hl hk (by omega)
    rw [hx1, Option.bind_some, Option.bind_some]
    obtain ⟨y, hy1, hb2, hk2⟩ := upto_ok (r := x.h0_2) (n := 4) hl hk1 (by omega)
    rw [hy1, Option.bind_some, addc_eq (by omega), Option.bind_some]
    obtain ⟨z, hz1, hb3, hk3⟩ := from_ok (r := y.h0_2) (lo := 1) (hi := 2) hl hk2 (by omega)
    rw [hz1, Option.bind_some, appc_eq (by simp; omega), Option.bind_some, Option.bind_some, addc_eq (by omega), Option.bind_some]
    refine ⟨_, rfl, ⟨by simp only; omega, hk3, by simp; omega, fun w hw => ?_⟩, by simp only; omega⟩
    rcases List.mem_append.1 hw with h | h
    · exact hx w h
    · rw [List.mem_singleton] at h
      subst h
      simp only
      omega
  · right
    rw [if_neg hlt]
    exact ⟨_, rfl, hk, by simp only; omega, hx⟩
theorem made_ok {l : List Int} (hl : l.length ≤ 9223372036854775807) {p q cells fords tides : Int} (hp : HOK l p) (hc : 3 ≤ cells ∧ cells ≤ 9) (hf : 1 ≤ fords ∧ fords ≤ 3) (ht : 0 ≤ tides ∧ tides ≤ 4) : ∃ x, qY l p q cells fords tides = some x ∧ HOK l x.b0_1 ∧ MadeC x.r0 cells fords tides ∧ WalkC x.r0 x.r0.tides.toNat x.r1 := by
  unfold qY
  obtain ⟨x, hx, hb, hk⟩ := from_ok (r := q) (lo := 3) (hi := cells) hl hp (by omega)
  rw [hx, Option.bind_some]
  obtain ⟨y, hy, hb2, hk2⟩ := upto_ok (r := x.h0_2) (n := tides) hl hk (by omega)
  rw [hy, Option.bind_some]
  obtain ⟨o, ho, hk3, o1, o2, o3, o4⟩ := made_L0 (q := y.h0_2) (t := x) hl (by omega) hf hk2
  rw [ho, Option.bind_some]
  obtain ⟨u, hu, hb4, hk4⟩ := upto_ok (r := o.b0_2) (n := 4) hl hk3 (by omega)
  rw [hu, Option.bind_some]
  obtain ⟨v, hv, hk5, v1, v2⟩ := made_L1 (q := u.h0_2) (t := x) (u := u) hl (by omega) (by omega) hk4
  rw [hv, Option.bind_some]
  have r : Right ⟨x.r0, y.r0, o.c10_fords, v.c10_sands, []⟩ := ⟨by simp only; omega, by simp only; omega, by simp only; omega, v1, by simp, fun s hs => (v2 s hs).1, by simp, o2, fun s hs => (v2 s hs).2, by simp, o1⟩
  obtain ⟨w, hw, hk6, w1⟩ := walked_ok (q := v.b0_2) hl r hk5
  rw [hw, Option.bind_some]
  exact ⟨_, rfl, hk6, ⟨r, rfl, by simp only; omega, by simp only; omega, by simp only; omega⟩, w1⟩
structure SeenC (c : Channel) (crs : List (List Int)) (s : Sight) : Prop where
  after : 0 ≤ s.after ∧ s.after ≤ c.tides
  cell : 0 ≤ s.cell ∧ s.cell < c.cells
  up : s.upright = decide (s.cell ∈ crs.getD s.after.toNat [])
theorem seen_ok {l : List Int} (hl : l.length ≤ 9223372036854775807) {c : Channel} (r : Right c) {crs : List (List Int)} (hw : WalkC c c.tides.toNat crs) {p q most : Int} (hp : HOK l p) (hm : 0 ≤ most ∧ most ≤ 8) : ∃ x, qX l p q c crs most = some x ∧ HOK l x.b0_1 ∧ (x.r0.length : Int) ≤ most ∧ ∀ s ∈ x.r0, SeenC c crs s := by
  have hc := r.cells
  have hf := r.fords
  have ht := r.tides
  have hcl := hw.len
  unfold qX
  obtain ⟨u, hu, hb, hk⟩ := upto_ok (r := q) (n := most) hl hp (by omega)
  rw [hu, Option.bind_some]
  have key : ∃ o, iterM FU (qU u c l crs) ⟨0, u.h0_1, u.h0_2, []⟩ = some o ∧ HOK l o.b0_1 ∧ (o.out9.length : Int) = u.r0 ∧ ∀ s ∈ o.out9, SeenC c crs s := by
    refine iterM_inv (f := qU u c l crs) (fun s => (0 ≤ s.t14 ∧ s.t14 ≤ u.r0) ∧ HOK l s.b0_1 ∧ (s.out9.length : Int) = s.t14 ∧ ∀ w ∈ s.out9, SeenC c crs w) (fun s => (u.r0 - s.t14).toNat) _ (fun s hs => ?_) FU _ (FU_lt (by simp only; omega)) ⟨by simp only; omega, hk, rfl, by simp⟩
    obtain ⟨h0, hk0, hlen, hx⟩ := hs
    unfold qU
    by_cases hlt : s.t14 < u.r0
    · left
      rw [if_pos hlt, subc_eq (by omega), Option.bind_some]
      obtain ⟨x, hx1, hb1, hk1⟩ := upto_ok (r := s.b0_2) (n := c.tides) hl hk0 (by omega)
      rw [hx1, Option.bind_some]
      obtain ⟨y, hy1, hb2, hk2⟩ := upto_ok (r := x.h0_2) (n := c.cells - 1) hl hk1 (by omega)
      rw [hy1, Option.bind_some, Option.bind_some]
      obtain ⟨z, hz1, hk3⟩ := once_ok (r := y.h0_2) (n := 2) hl hk2 (by omega)
      have hrow := hw.row x.r0.toNat (by omega)
      obtain ⟨r1, r2, r3⟩ := rowB_iff.1 hrow
      have hixr : ix crs x.r0 = some (crs.getD x.r0.toNat []) := ix_eq [] (by omega) (by omega)
      have fin : ∀ (b1 b2 ce : Int), HOK l b1 → (0 ≤ ce ∧ ce < c.cells) → ∃ s', (ix crs x.r0).bind (fun t45 => (jE t45 ce).bind fun t49 => (appc 24 s.out9 [(⟨x.r0, ce, t49⟩ : Sight)]).bind fun t54 => (addc s.t14 1).bind fun t55 => some (Sum.inl (⟨t55, b1, b2, t54⟩ : qc) : qc ⊕ zK)) = some (.inl s') ∧ ((0 ≤ s'.t14 ∧ s'.t14 ≤ u.r0) ∧ HOK l s'.b0_1 ∧ (s'.out9.length : Int) = s'.t14 ∧ ∀ s ∈ s'.out9, SeenC c crs s) ∧ (u.r0 - s'.t14).toNat < (u.r0 - s.t14).toNat := by
        intro b1 b2 ce hb hce
        rw [hixr, Option.bind_some, yL (by omega), Option.bind_some, appc_eq (by simp; omega), Option.bind_some, addc_eq (by omega), Option.bind_some]
        refine ⟨_, rfl, ⟨by simp only; omega, hb, by simp; omega, fun w hw' => ?_⟩, by simp only; omega⟩
        rcases List.mem_append.1 hw' with h | h
        · exact hx w h
        · rw [List.mem_singleton] at h
          subst h
          exact ⟨by simp only; omega, hce, rfl⟩
      rw [hz1, Option.bind_some]
      by_cases h2 : z.r0 = true
      · rw [if_pos h2]
        obtain ⟨v, hv1, hb4, hk4⟩ := upto_ok (r := z.h0_2) (n := (c.fords.length : Int) - 1) hl hk3 (by omega)
        have hce : ix (crs.getD x.r0.toNat []) v.r0 = some ((crs.getD x.r0.toNat []).getD v.r0.toNat 0) := ix_eq 0 (by omega) (by omega)
        have hm2 := r3 _ (getD_mem (d := 0) (l := crs.getD x.r0.toNat []) (i := v.r0.toNat) (by omega))
        simp only
        rw [hixr, Option.bind_some, subc_eq (by omega), Option.bind_some, hv1, Option.bind_some, hce, Option.bind_some, Option.bind_some, ← hixr]
        exact fin _ _ _ hk4 hm2
      · rw [if_neg h2, Option.bind_some]
        exact fin _ _ _ hk3 (by simp only; omega)
    · right
      rw [if_neg hlt]
      exact ⟨_, rfl, hk0, by simp only; omega, hx⟩
  obtain ⟨o, h1, h2, h3, h4⟩ := key
  rw [h1, Option.bind_some]
  exact ⟨_, rfl, h2, by simp only; omega, h4⟩
theorem right_sights {c : Channel} (r : Right c) {sg : List Sight} (hn : sg.length ≤ 8) (h : ∀ s ∈ sg, (0 ≤ s.after ∧ s.after ≤ c.tides) ∧ 0 ≤ s.cell ∧ s.cell < c.cells) : Right ⟨c.cells, c.tides, c.fords, c.sands, sg⟩ := ⟨r.cells, r.tides, r.fords, r.sands, by simp only; omega, r.reach, fun s hs => (h s hs).1, r.fcell, r.span, fun s hs => (h s hs).2, r.up⟩
theorem pile_eq (l : List Int) : Zb l = some ⟨0, 0⟩ := rfl
theorem HOK_zero (l : List Int) : HOK l 0 := ⟨Int.le_refl _, .inr rfl⟩
end Go.Proofs.Wb

namespace Go.Proofs.Wb
open Go Go.Fw Go.Gx Go.Sb
set_option linter.unusedVariables false
set_option maxRecDepth 100000
theorem made_seen {l : List Int} (hl : l.length ≤ 9223372036854775807) {cells fords tides most : Int} (hc : 3 ≤ cells ∧ cells ≤ 9) (hf : 1 ≤ fords ∧ fords ≤ 3) (ht : 0 ≤ tides ∧ tides ≤ 4) (hm : 0 ≤ most ∧ most ≤ 8) : ∃ x y, qY l 0 0 cells fords tides = some x ∧ qX l x.b0_1 x.b0_2 x.r0 x.r1 most = some y ∧ MadeC x.r0 cells fords tides ∧ WalkC x.r0 x.r0.tides.toNat x.r1 ∧ HOK l y.b0_1 ∧ (y.r0.length : Int) ≤ most ∧ ∀ s ∈ y.r0, SeenC x.r0 x.r1 s := by
  obtain ⟨x, h1, h2, h3, h4⟩ := made_ok hl (q := 0) (HOK_zero l) hc hf ht
  obtain ⟨y, g1, g2, g3, g4⟩ := seen_ok (q := x.b0_2) hl h3.right h4 h2 hm
  exact ⟨x, y, h1, g1, h3, h4, g2, g3, g4⟩
def cS (c : Channel) (sg : List Sight) : Channel := ⟨c.cells, c.tides, c.fords, c.sands, sg⟩
theorem few_right {c : Channel} (r : Right c) (h : c.sights.length ≤ 8) : Few c := by
  have hf := r.fords
  have hs := r.sands
  exact ⟨by omega, by omega, by omega⟩
theorem WalkC.sights {c : Channel} {n : Nat} {crs : List (List Int)} (h : WalkC c n crs) (sg : List Sight) : WalkC (cS c sg) n crs := ⟨h.len, h.fst, h.row, h.can⟩
end Go.Proofs.Wb

namespace Go.Proofs.Wb
open Go Go.Fw Go.Gx Go.Sb
set_option linter.unusedVariables false
set_option maxRecDepth 100000
theorem upB_pw {l : List Int} : upB l = true ↔ l.Pairwise (· < ·) := by
  rw [upB_ix, List.pairwise_iff_getElem]
  constructor
  · intro h i j hi hj hij
    have key : ∀ d, i + d + 1 < l.length → l.getD i (-1) < l.getD (i + d + 1) (-1) := by
      intro d
      induction d with
      | zero => intro hd; exact h i hd
      | succ d ih =>
        intro hd
        have h1 := ih (by omega)
        have h2 := h (i + d + 1) (by omega)
        rw [show i + (d + 1) + 1 = i + d + 1 + 1 by omega]
        omega
    have := key (j - i - 1) (by omega)
    rw [show i + (j - i - 1) + 1 = j by omega] at this
    simpa [List.getD_eq_getElem?_getD, hi, hj] using this
  · intro h i hi
    have := h i (i + 1) (by omega) hi (by omega)
    simpa [List.getD_eq_getElem?_getD, hi, (show i < l.length by omega)] using this
theorem pw_nodup {l : List Int} (h : l.Pairwise (· < ·)) : l.Nodup := h.imp (fun h => by omega)
theorem dup_none {l : List Int} (h : l.Nodup) : dupB l = false := by
  unfold dupB
  rw [List.any_eq_false]
  intro s hs
  have hs' : s < l.length := by simpa using hs
  rw [decide_eq_true_eq, List.mem_take_iff_getElem]
  rintro ⟨i, hi, e⟩
  rw [List.Nodup, List.pairwise_iff_getElem] at h
  have := h i s (by omega) hs' (by omega)
  apply this
  rw [e]
  simp [List.getD_eq_getElem?_getD, hs']
theorem mem_E0 {n : Nat} {l : List Int} : l ∈ E0 n ↔ l.length ≤ n ∧ l.Pairwise (· < ·) ∧ ∀ x ∈ l, 0 ≤ x ∧ x < (n : Int) := by
  unfold E0
  rw [List.mem_flatMap]
  constructor
  · rintro ⟨k, hk, h⟩
    obtain ⟨h1, h2, h3⟩ := (mem_incL _ _ _).1 h
    have : k < n + 1 := by simpa using hk
    exact ⟨by omega, upB_pw.1 h2, fun x hx => by have := h3 x hx; omega⟩
  · rintro ⟨h1, h2, h3⟩
    exact ⟨l.length, by simp; omega, (mem_incL _ _ _).2 ⟨rfl, upB_pw.2 h2, fun x hx => by have := h3 x hx; omega⟩⟩
theorem E0_cons (n : Nat) : E0 n = [] :: E1 n := by
  unfold E0 E1
  rw [List.range_succ_eq_map, List.flatMap_cons, List.flatMap_map]
  rfl
theorem E0_len (n : Nat) : (E0 n).Pairwise fun a b => a.length ≤ b.length := by
  unfold E0
  rw [List.pairwise_flatMap]
  have hl : ∀ k, ∀ x ∈ incL n k 0, x.length = k := fun k x hx => ((mem_incL _ _ _).1 hx).1
  refine ⟨fun k _ => ?_, ?_⟩
  · refine List.Pairwise.imp_of_mem (R := fun _ _ => True) (fun {a b} ha hb _ => ?_) ?_
    · rw [hl k a ha, hl k b hb]; exact Nat.le_refl _
    · exact List.pairwise_iff_getElem.2 (fun _ _ _ _ _ => trivial)
  · refine (List.pairwise_lt_range).imp ?_
    intro a b hab x hx y hy
    rw [hl a x hx, hl b y hy]
    omega
theorem find_min {n : Nat} {p : List Int → Bool} {w : List Int} (h : (E0 n).find? p = some w) {l : List Int} (hl : l ∈ E0 n) (hlt : l.length < w.length) : p l = false := by
  obtain ⟨_, pre, bs, e, h2⟩ := List.find?_eq_some_iff_append.1 h
  have hs := E0_len n
  rw [e] at hl hs
  rcases List.mem_append.1 hl with h3 | h3
  · simpa using h2 l h3
  · rcases List.mem_cons.1 h3 with h3 | h3
    · rw [h3] at hlt; omega
    · have := (List.pairwise_cons.1 (List.pairwise_append.1 hs).2.1).1 l h3
      omega
def fullL (n : Nat) : List Int := (List.range n).map fun i : Nat => (i : Int)
theorem mem_full {n : Nat} {x : Int} : x ∈ fullL n ↔ 0 ≤ x ∧ x < (n : Int) := by
  unfold fullL
  rw [List.mem_map]
  constructor
  · rintro ⟨i, hi, rfl⟩
    have : i < n := by simpa using hi
    omega
  · rintro ⟨h1, h2⟩
    exact ⟨x.toNat, by simp; omega, by omega⟩
theorem full_pw (n : Nat) : (fullL n).Pairwise (· < ·) := by
  unfold fullL
  rw [List.pairwise_map]
  exact List.pairwise_lt_range.imp (fun h => by omega)
theorem full_E0 (n : Nat) : fullL n ∈ E0 n := mem_E0.2 ⟨by unfold fullL; simp, full_pw n, fun x hx => mem_full.1 hx⟩
theorem none_pos {c : Channel} (r : Right c) : 0 < cntS (fun _ => false) c := by
  have r' : Right (cS c []) := right_sights r (by simp) (by simp)
  have h := stay_pos r' rfl
  have e : agS (fun _ => false) c = agS tt (cS c []) := by
    funext s
    unfold agS
    rw [Bool.eq_iff_iff, agP_iff, agP_iff]
    constructor
    · intro _ i hi
      exact absurd hi (by show ¬ i < ([] : List Sight).length; simp)
    · intro _ i _ hc
      exact absurd hc (by decide)
  unfold cntS at h ⊢
  rw [e]
  exact h
theorem pW_full {c : Channel} (r : Right c) : pW c (fullL c.sights.length) = true := by
  unfold pW
  rw [decide_eq_true_eq]
  have : cntS (cOut (fullL c.sights.length)) c = cntS (fun _ => false) c := cnt_congr fun i hi => by
    unfold cOut
    rw [decide_eq_true (mem_full.2 ⟨by omega, by omega⟩)]
    rfl
  rw [this]
  exact none_pos r
theorem pW_nil {c : Channel} : pW c [] = decide (0 < cntS tt c) := by
  unfold pW
  have : cntS (cOut []) c = cntS tt c := cnt_congr fun i hi => by
    unfold cOut
    simp
  rw [this]
theorem pC_full {c : Channel} : pC c (fullL c.sights.length) = !decide (0 < cntS tt c) := by
  unfold pC
  have : cntS (cIn (fullL c.sights.length)) c = cntS tt c := cnt_congr fun i hi => by
    unfold cIn
    rw [decide_eq_true (mem_full.2 ⟨by omega, by omega⟩)]
  rw [this]
theorem pC_nil {c : Channel} (r : Right c) : pC c [] = false := by
  unfold pC
  have : cntS (cIn []) c = cntS (fun _ => false) c := cnt_congr fun i hi => by
    unfold cIn
    simp
  rw [this, decide_eq_true (none_pos r)]
  rfl
theorem find_wrong {c : Channel} (r : Right c) : ∃ w, (E0 c.sights.length).find? (pW c) = some w ∧ pW c w = true ∧ w ∈ E0 c.sights.length := by
  cases h : (E0 c.sights.length).find? (pW c) with
  | none => exact absurd (pW_full r) (List.find?_eq_none.1 h _ (full_E0 _))
  | some w => exact ⟨w, rfl, List.find?_some h, List.mem_of_find?_eq_some h⟩
theorem find_clash {c : Channel} (r : Right c) (h0 : ¬ 0 < cntS tt c) : ∃ l, (E1 c.sights.length).find? (pC c) = some l ∧ (E0 c.sights.length).find? (pC c) = some l ∧ pC c l = true ∧ l ∈ E0 c.sights.length := by
  have e : (E0 c.sights.length).find? (pC c) = (E1 c.sights.length).find? (pC c) := by
    rw [E0_cons, List.find?_cons, pC_nil r]
  cases h : (E0 c.sights.length).find? (pC c) with
  | none =>
    have := List.find?_eq_none.1 h _ (full_E0 _)
    rw [pC_full, decide_eq_false h0] at this
    exact absurd rfl this
  | some w => exact ⟨w, by rw [← e, h], rfl, List.find?_some h, List.mem_of_find?_eq_some h⟩
theorem any6_eq {l w : List Int} (hl : l.length ≤ 1000) (hw : w.length ≤ 1000) : qf l w = some (l.any fun x => decide (x ∈ w)) := by
  unfold qf yO
  rw [contains_loop (f := qo l w) l 0 (fun x => decide (x ∈ w)) (by omega) (fun k hk => ?_) ?_]
  · unfold qo
    rw [if_neg (by omega)]
  · unfold qo qG
    rw [if_pos (by omega), ix_nat 0 hk, Option.bind_some, yL (by omega), Option.bind_some, Option.bind_some]
    by_cases h : l.getD k 0 ∈ w
    · rw [if_pos (decide_eq_true h), if_pos (decide_eq_true h)]
    · rw [if_neg (by simpa using h), if_neg (by simpa using h), addc_eq (by omega), Option.bind_some]
theorem del_eq {l : List Int} (hl : l.length ≤ 1000) {k : Nat} (hk : k < l.length) : yF l (k : Int) ((k : Int) + 1) = some (l.eraseIdx k) := by
  have e : l.take k ++ l.drop (k + 1) = l.eraseIdx k := (List.eraseIdx_eq_take_drop_succ l k).symm
  have hlen : (l.eraseIdx k).length ≤ l.length := (List.eraseIdx_sublist l k).length_le
  unfold yF
  rw [if_pos (by omega), if_neg (by omega), if_pos (by omega), if_pos (by omega), if_pos (by omega), Int.toNat_natCast, show ((k : Int) + 1).toNat = k + 1 by omega, e, if_pos (by omega)]
theorem erase_E0 {n : Nat} {l : List Int} (h : l ∈ E0 n) {k : Nat} (hk : k < l.length) : l.eraseIdx k ∈ E0 n ∧ (l.eraseIdx k).length < l.length := by
  obtain ⟨h1, h2, h3⟩ := mem_E0.1 h
  have hs := List.eraseIdx_sublist l k
  have hlen : (l.eraseIdx k).length = l.length - 1 := List.length_eraseIdx_of_lt hk
  exact ⟨mem_E0.2 ⟨by omega, h2.sublist hs, fun x hx => h3 x (hs.subset hx)⟩, by omega⟩
theorem turn_ok {t : yk} {tn T cells : Int} (hn : t.r0.length ≤ 8) (h : ∀ s ∈ t.r0, (0 ≤ s.after ∧ s.after ≤ T) ∧ 0 ≤ s.cell ∧ s.cell < cells) : ∃ o, iterM FU (kE t tn) ⟨0, t.r0⟩ = some o ∧ o.length = t.r0.length ∧ ∀ s ∈ o, (0 ≤ s.after ∧ s.after ≤ T) ∧ 0 ≤ s.cell ∧ s.cell < cells := by
  refine iterM_inv (f := kE t tn) (fun s => (0 ≤ s.t37 ∧ s.t37 ≤ (t.r0.length : Int)) ∧ s.r0.length = t.r0.length ∧ ∀ w ∈ s.r0, (0 ≤ w.after ∧ w.after ≤ T) ∧ 0 ≤ w.cell ∧ w.cell < cells) (fun s => ((t.r0.length : Int) - s.t37).toNat) _ (fun s hs => ?_) FU _ (FU_lt (by simp only; omega)) ⟨by simp only; omega, rfl, h⟩
  obtain ⟨h0, h1, h2⟩ := hs
  unfold kE
  by_cases hlt : s.t37 < (t.r0.length : Int)
  · left
    rw [if_pos hlt, if_pos h0.1, addc_eq (by omega)]
    split
    · have hix : ix s.r0 s.t37 = some (s.r0.getD s.t37.toNat default) := ix_eq default h0.1 (by omega)
      have hm : s.r0.getD s.t37.toNat default ∈ s.r0 := by
        rw [List.getD_eq_getElem?_getD, List.getElem?_eq_getElem (by omega)]
        exact List.getElem_mem _
      rw [hix, Option.bind_some, Option.bind_some, Option.bind_some, Option.bind_some, Option.bind_some]
      refine ⟨_, rfl, ⟨by simp only; omega, by simp only [List.length_set]; exact h1, fun w hw => ?_⟩, by simp only; omega⟩
      rcases List.mem_or_eq_of_mem_set hw with hw | hw
      · exact h2 w hw
      · rw [hw]
        have := h2 _ hm
        exact this
    · rw [Option.bind_some, Option.bind_some]
      exact ⟨_, rfl, ⟨by simp only; omega, h1, h2⟩, by simp only; omega⟩
  · right
    rw [if_neg hlt]
    exact ⟨_, rfl, h1, h2⟩
def restL (n : Nat) (w : List Int) (v : Int) : List Int := (fullL n).filter fun i => !decide (i ∈ w) || decide (i = v)
theorem wrest_loop {o : List Sight} (ho : o.length ≤ 8) {W : kP} (hW : W.r0.length ≤ 1000) {k : Nat} (hk : k < W.r0.length) : iterM FU (jY o W (k : Int)) ⟨0, []⟩ = some (restL o.length W.r0 (W.r0.getD k 0)) := by
  have key := iterM_run (f := jY o W (k : Int)) (fun j => ⟨(j : Int), restL j W.r0 (W.r0.getD k 0)⟩) o.length (b := restL o.length W.r0 (W.r0.getD k 0)) (fun j hj => ?_) ?_ FU (FU_lt (by omega))
  · exact key
  · have e : restL (j + 1) W.r0 (W.r0.getD k 0) = restL j W.r0 (W.r0.getD k 0) ++ if (!decide ((j : Int) ∈ W.r0) || decide ((j : Int) = W.r0.getD k 0)) = true then [(j : Int)] else [] := by
      unfold restL fullL
      rw [List.range_succ, List.map_append, List.filter_append]
      congr 1
      rw [List.map_cons, List.map_nil, List.filter_cons, List.filter_nil]
    have hlen : (restL j W.r0 (W.r0.getD k 0)).length ≤ j := by
      unfold restL
      have := List.length_filter_le (fun i => !decide (i ∈ W.r0) || decide (i = W.r0.getD k 0)) (fullL j)
      unfold fullL at this ⊢
      simpa using this
    unfold jY
    simp only
    rw [if_pos (by omega), yL (by omega), Option.bind_some, not_true_if, addc_eq (by omega), e]
    by_cases h1 : (j : Int) ∈ W.r0
    · rw [if_pos (decide_eq_true h1), ix_nat 0 hk, Option.bind_some, Option.bind_some, decide_eq_true h1, Bool.not_true, Bool.false_or]
      by_cases h2 : (j : Int) = W.r0.getD k 0
      · rw [if_pos (decide_eq_true h2), if_pos (decide_eq_true h2), appc_eq (by rw [List.length_singleton]; omega)]
        rfl
      · rw [if_neg (by simpa using h2), if_neg (by simpa using h2), List.append_nil]
        rfl
    · rw [if_neg (by simpa using h1), Option.bind_some, if_pos rfl, if_pos (by simp [h1]), appc_eq (by rw [List.length_singleton]; omega)]
      rfl
  · unfold jY
    simp only
    rw [if_neg (by omega)]
theorem agree_sub {c : Channel} (hF : Few c) (h0 : chk c = 0) {l : List Int} (h1 : l.Pairwise (· < ·)) (h2 : ∀ x ∈ l, 0 ≤ x ∧ x < (c.sights.length : Int)) (hl : l.length ≤ 1000) : yR c l = some ⟨decide (0 < cntS (cIn l) c), 0⟩ := by
  rw [jam hF hl, if_pos h0, if_pos (inA_iff.2 h2), dup_none (pw_nodup h1), if_neg Bool.false_ne_true]
theorem BranchClashed_true {l : List Int} (hl : l.length ≤ 9223372036854775807) (tn : Int) : qN l tn = some true := by
  unfold qN
  rw [pile_eq, Option.bind_some, awake_true]
  obtain ⟨x, y, h1, h2, hM, hW, hk, hn, hS⟩ := made_seen hl (cells := 8) (fords := 2) (tides := 3) (most := 6) (by omega) (by omega) (by omega) (by omega)
  simp only
  rw [h1, Option.bind_some, h2, Option.bind_some]
  obtain ⟨o, ho, ho1, ho2⟩ := turn_ok (t := y) (tn := tn) (T := x.r0.tides) (cells := x.r0.cells) (by omega) (fun s hs => ⟨(hS s hs).after, (hS s hs).cell⟩)
  rw [ho, Option.bind_some]
  have hc : (⟨x.r0.cells, x.r0.tides, x.r0.fords, x.r0.sands, o⟩ : Channel) = cS x.r0 o := rfl
  rw [hc]
  generalize hcc : cS x.r0 o = c
  have hs : c.sights = o := by rw [← hcc]; rfl
  have r : Right c := by rw [← hcc]; exact right_sights hM.right (by omega) ho2
  have hlen : c.sights.length = o.length := by rw [hs]
  have hF : Few c := few_right r (by omega)
  have hk0 : chk c = 0 := chk_right r (by omega)
  obtain ⟨w, w1, w2, w3⟩ := find_wrong r
  obtain ⟨m1, m2, m3⟩ := mem_E0.1 w3
  rw [jao hF, jat hF, if_pos hk0, if_pos hk0, w1, Option.getD_some]
  simp only [Option.bind_some]
  by_cases hp : 0 < cntS tt c
  · have hw : w = [] := by
      rw [E0_cons, List.find?_cons, pW_nil, decide_eq_true hp] at w1
      exact (Option.some.inj w1).symm
    rw [if_pos hp, hw]
    simp
  · obtain ⟨q, q1, q2, q3, q4⟩ := find_clash r hp
    obtain ⟨n1, n2, n3⟩ := mem_E0.1 q4
    have hqne : q ≠ [] := by
      intro e
      rw [e, pC_nil r] at q3
      exact absurd q3 (by decide)
    have hwne : w ≠ [] := by
      intro e
      rw [e, pW_nil, decide_eq_false hp] at w2
      exact absurd w2 (by decide)
    have hql : 0 < q.length := List.length_pos_iff.2 hqne
    have hwl : 0 < w.length := List.length_pos_iff.2 hwne
    rw [if_neg hp, q1, Option.getD_some]
    have hA := agree_sub hF hk0 n2 n3 (by omega)
    have hA0 : decide (0 < cntS (cIn q) c) = false := by
      unfold pC at q3
      simpa using q3
    rw [hA0] at hA
    have hany : (q.any fun x => decide (x ∈ w)) = true := by
      cases hq : q.any fun x => decide (x ∈ w) with
      | true => rfl
      | false =>
        exfalso
        rw [List.any_eq_false] at hq
        unfold pW at w2
        rw [decide_eq_true_eq] at w2
        have := cnt_mono (c := c) (c1 := cOut w) (c2 := cIn q) (fun i hi hc => by
          unfold cIn at hc
          rw [decide_eq_true_eq] at hc
          have := hq _ hc
          unfold cOut
          simpa using this) w2
        rw [decide_eq_false_iff_not] at hA0
        exact hA0 this
    have hC6 := any6_eq (l := q) (w := w) (by omega) (by omega)
    rw [hany] at hC6
    have k1 := iterM_any0 (f := ky ⟨0, q⟩ x o) q.length (fun _ => false) false (fun k hk' => ?_) ?_ (N := FU) (FU_lt (by omega))
    · have k2 := iterM_any0 (f := kz ⟨0, w⟩ o x) w.length (fun _ => false) false (fun k hk' => ?_) ?_ (N := FU) (FU_lt (by omega))
      · rw [show (List.range q.length).any (fun _ => false) = false from by simp, if_neg Bool.false_ne_true] at k1
        rw [show (List.range w.length).any (fun _ => false) = false from by simp, if_neg Bool.false_ne_true] at k2
        simp [hqne, hwne, hql, hA, hC6, k1, k2]
      · have hWl : (⟨0, w⟩ : kP).r0 = w := rfl
        have hrl := wrest_loop (o := o) (W := ⟨0, w⟩) (by omega) (by simp only; omega) hk'
        simp only at hrl
        obtain ⟨e1, e2⟩ := erase_E0 w3 hk'
        have hpe := find_min w1 e1 e2
        unfold pW at hpe
        rw [decide_eq_false_iff_not] at hpe
        have hrm : ∀ i : Int, i ∈ restL o.length w (w.getD k 0) ↔ (0 ≤ i ∧ i < (o.length : Int)) ∧ (i ∉ w ∨ i = w.getD k 0) := by
          intro i
          unfold restL
          rw [List.mem_filter, mem_full]
          simp
        have hAr := agree_sub hF hk0 (l := restL o.length w (w.getD k 0)) ((full_pw _).filter _) (fun i hi => by rw [hlen]; exact ((hrm i).1 hi).1) (by
          unfold restL
          have := List.length_filter_le (fun i => !decide (i ∈ w) || decide (i = w.getD k 0)) (fullL o.length)
          unfold fullL at this ⊢
          simp at this ⊢
          omega)
        have hwk : w.getD k 0 = w[k] := by simp [List.getD_eq_getElem?_getD, hk']
        have hcr : cntS (cIn (restL o.length w (w.getD k 0))) c = cntS (cOut (w.eraseIdx k)) c := cnt_congr fun i hi => by
          unfold cIn cOut
          rw [Bool.eq_iff_iff, decide_eq_true_eq, hrm]
          have hme : (i : Int) ∈ w.eraseIdx k ↔ (i : Int) ∈ w ∧ (i : Int) ≠ w[k] := by
            have hnd := pw_nodup m2
            rw [List.mem_eraseIdx_iff_getElem]
            constructor
            · rintro ⟨j, hj, hne, e⟩
              refine ⟨by rw [← e]; exact List.getElem_mem hj, ?_⟩
              rw [← e]
              rw [List.Nodup, List.pairwise_iff_getElem] at hnd
              rcases Nat.lt_or_gt_of_ne hne with h | h
              · exact hnd j k hj hk' h
              · exact (hnd k j hk' hj h).symm
            · rintro ⟨hm, hne⟩
              obtain ⟨j, hj, e⟩ := List.getElem_of_mem hm
              refine ⟨j, hj, ?_, e⟩
              rintro rfl
              exact hne e.symm
          rw [Bool.not_eq_true', decide_eq_false_iff_not, hme, hwk]
          constructor
          · rintro ⟨_, h | h⟩
            · exact fun q => h q.1
            · exact fun q => q.2 h
          · intro h
            refine ⟨⟨by omega, by omega⟩, ?_⟩
            by_cases h2 : (i : Int) ∈ w
            · right
              by_cases h3 : (i : Int) = w[k]
              · exact h3
              · exact absurd ⟨h2, h3⟩ h
            · exact .inl h2
        rw [hcr, decide_eq_false hpe] at hAr
        unfold kz
        simp only
        rw [if_pos (by omega), hrl, Option.bind_some, hc, hcc, hAr, Option.bind_some, addc_eq (by omega)]
        rfl
      · unfold kz
        simp only
        rw [if_neg (by omega)]
    · obtain ⟨e1, e2⟩ := erase_E0 q4 hk'
      have hpe := find_min q2 e1 e2
      obtain ⟨g1, g2, g3⟩ := mem_E0.1 e1
      have hAe := agree_sub hF hk0 g2 g3 (by omega)
      unfold pC at hpe
      have hpe' : decide (0 < cntS (cIn (q.eraseIdx k)) c) = true := by simpa using hpe
      rw [hpe'] at hAe
      unfold ky
      simp only
      rw [if_pos (by omega), addc_eq (by omega), Option.bind_some, Kq (by omega), Option.bind_some, del_eq (by omega) hk', Option.bind_some, hc, hcc, hAe]
      rfl
    · unfold ky
      simp only
      rw [if_neg (by omega)]
end Go.Proofs.Wb

namespace Go.Gx
open Go Go.Fw Go.RowKit
section
variable {H : Type} {enc : TypeId × Value → H} {P : Program} {w : World} {base : Nat} {sp : Nat → Bool} {held : Bool}
def Opens (enc : TypeId × Value → H) (P : Program) (w : World) (base : Nat) (sp : Nat → Bool) (held : Bool) {α : Type} (R : Row α) (wf : α → Prop) (t : TypeId) : Prop :=
  ∀ fuel cs x, DataW.trod enc P w base sp held fuel t cs = some x → ∃ a, cs = R.cells a ∧ wf a
def u8P (n : Int) : Prop := 0 ≤ n ∧ n ≤ 255
theorem wf_u8P {n : Int} (h : (Lit.int .u8 n).wf = true) : u8P n := by
  simp [Lit.wf, IntKind.min, IntKind.max, IntKind.signed, IntKind.bits] at h
  unfold u8P; omega
theorem opens_u8 {t : TypeId} (ht : P.underlying t = some (.int .u8)) : Opens enc P w base sp held RU8 u8P t := fun fuel cs x h => by
  obtain ⟨n, rfl, _, hw⟩ := DataW.trod_int ht h
  exact ⟨n, rfl, wf_u8P hw⟩
theorem fieldAt {fs : Array Field} {t : TypeId} {fuel : Nat} {cs : List Value} {x : DataW H × List MemPlace} (ht : P.underlying t = some (.struct fs)) (h : DataW.trod enc P w base sp held fuel t cs = some x) {α : Type} {R : Row α} {wf : α → Prop} (i : Nat) {T o k : Nat}
    (hf : (fs[i]?).map (fun fd => (fd.type, fd.offset)) = some (T, o)) (hk : P.cellsOf T = k) (hR : Opens enc P w base sp held R wf T) : ∃ a, (cs.drop o).take k = R.cells a ∧ wf a := by
  obtain ⟨xs, n, rfl, _, hlen, hxl, hx⟩ := DataW.trod_struct ht h
  obtain ⟨fd, hfd, he⟩ : ∃ fd, fs[i]? = some fd ∧ (fd.type, fd.offset) = (T, o) := by
    cases hh : fs[i]? with
    | none => simp [hh] at hf
    | some fd => exact ⟨fd, rfl, by simpa [hh] using hf⟩
  simp only [Prod.mk.injEq] at he
  obtain ⟨rfl, rfl⟩ := he
  have h1 := hx i fd hfd
  rw [hk] at h1
  have hi : i < xs.length := by rw [hxl]; exact (Array.getElem?_eq_some_iff.1 hfd).1
  rw [List.getElem?_eq_getElem hi] at h1
  exact hR _ _ _ h1
structure SlIn {α : Type} (R : Row α) (wf : α → Prop) (w : World) (v : Value) (A : Option Addr) (n c : Nat) (l : List α) : Prop where
  val : v = .slice A n c
  len : l.length = n
  ok : AOK n A
  le : n ≤ c
  max : c ≤ maxLen
  seg : segOK w (aB A, aO A, R.enc l)
  wf : ∀ x, x ∈ l → wf x
theorem choose_list {α : Type} {p : Nat → α → Prop} : ∀ (n : Nat), (∀ i, i < n → ∃ a, p i a) → ∃ l : List α, l.length = n ∧ ∀ i (h : i < l.length), p i l[i]
  | 0, _ => ⟨[], rfl, fun i h => by simp at h⟩
  | n + 1, h => by
    obtain ⟨l, hl, hp⟩ := choose_list n (fun i hi => h i (by omega))
    obtain ⟨a, ha⟩ := h n (by omega)
    refine ⟨l ++ [a], by simp [hl], fun i hi => ?_⟩
    by_cases hil : i < l.length
    · rw [List.getElem_append_left hil]; exact hp i hil
    · have : i = l.length := by simp at hi; omega
      subst this
      rw [List.getElem_append_right (by omega)]
      simp only [Nat.sub_self, List.getElem_cons_zero]
      rw [hl]; exact ha
theorem openSl {α : Type} {R : Row α} {wf : α → Prop} {t e : TypeId} (ht : P.underlying t = some (.slice e)) (hc : P.cellsOf e = R.sz) (hR : Opens enc P w base sp held R wf e) (h0 : Nat.blt 0 R.sz = true)
    {fuel : Nat} {cs : List Value} {x : DataW H × List MemPlace} (h : DataW.trod enc P w base sp held fuel t cs = some x) : ∃ (v : Value) (A : Option Addr) (n c : Nat) (l : List α), cs = [v] ∧ SlIn R wf w v A n c l := by
  have hsz : 0 < R.sz := by simpa using h0
  rcases Go.Deep.open_slice ht h with ⟨rfl, _⟩ | ⟨a, len, cap, m, n, D, Pl, rfl, hb, hl, hm, hmm, _, hi⟩
  · exact ⟨_, none, 0, 0, [], rfl, rfl, rfl, AOK.nil, Nat.le_refl _, Nat.zero_le _, segOK.nil, by simp⟩
  · have hlm : len ≤ m := by rw [hmm]; split <;> omega
    have hcell : ∀ i, i < len → ∃ x : α, (∀ f (hf : f < (R.cells x).length), w.cell? (a.add (i * R.sz + f)) = some (R.cells x)[f]) ∧ wf x := fun i hil => by
      obtain ⟨cs', h1, h2⟩ := hi i (by omega)
      obtain ⟨x, rfl, hw⟩ := hR _ _ _ h2
      obtain ⟨_, _, hat⟩ := World.cells?_some h1
      refine ⟨x, fun f hf => ?_, hw⟩
      have := hat f (by rw [hc, ← R.len x]; exact hf)
      rw [hc] at this
      rw [List.getElem?_eq_getElem hf] at this
      have e : (a.add (i * R.sz)).add f = a.add (i * R.sz + f) := by
        unfold Addr.add
        by_cases h1 : i * R.sz = 0
        · simp [h1]
        · by_cases h2 : f = 0
          · simp [h2]
          · simp [h1, h2, Nat.add_assoc]
      rw [e] at this
      exact this
    obtain ⟨l, hll, hlp⟩ := choose_list len hcell
    have hspot : 0 < len → a.spot = none := fun h0 => by
      obtain ⟨x, hx, _⟩ := hcell 0 h0
      have := World.cell?_spot (hx 0 (by rw [R.len]; exact hsz))
      simpa [Addr.add] using this
    refine ⟨_, some a, len, cap, l, rfl, rfl, hll, fun h0 => ?_, hl, hm, fun j hj => ?_, fun x hx => ?_⟩
    · obtain ⟨b, o, s⟩ := a
      have := hspot h0
      simp only at this
      subst this
      exact ⟨b, o, rfl⟩
    · have hj' : j < l.length * R.sz := by rw [← R.enc_len]; exact hj
      have hpos : 0 < len := by
        rcases Nat.eq_zero_or_pos len with h | h
        · rw [hll, h, Nat.zero_mul] at hj'; omega
        · exact h
      obtain ⟨b, o, s⟩ := a
      have hs := hspot hpos
      simp only at hs
      subst hs
      have hq : j / R.sz < l.length := Nat.div_lt_of_lt_mul (by rw [Nat.mul_comm]; exact hj')
      have hr : j % R.sz < R.sz := Nat.mod_lt _ hsz
      have hd : j / R.sz * R.sz + j % R.sz = j := by rw [Nat.mul_comm]; exact Nat.div_add_mod j R.sz
      have h1 := (hlp (j / R.sz) hq).1 (j % R.sz) (by rw [R.len]; exact hr)
      rw [hd] at h1
      have h2 := R.enc_get l (j / R.sz) (j % R.sz) l[j / R.sz] (List.getElem?_eq_getElem hq) hr
      rw [hd] at h2
      have h3 : (⟨b, o, none⟩ : Addr).add j = ⟨b, o + j, none⟩ := addr_add b o j
      rw [h3] at h1
      simp only [aB, aO, Option.map_some, Option.getD_some]
      rw [h1, ← List.getElem?_eq_getElem, ← h2, List.getElem?_eq_getElem hj]
    · obtain ⟨i, hi', rfl⟩ := List.getElem_of_mem hx
      exact (hlp i hi').2
theorem HV.begin {ro : List Sg} (h : ∀ s, s ∈ ro → segOK w s) : HV w (keys [] []) [] [] ro w :=
  ⟨rfl, rfl, rfl, Nat.le_refl _, fun _ _ _ => rfl, by simp [vbl], by simp [vbl], by simp [vbl], h, by simp [vbl]⟩
theorem segCons {s : Sg} {ro : List Sg} (h : segOK w s) (hr : ∀ t, t ∈ ro → segOK w t) : ∀ t, t ∈ s :: ro → segOK w t := fun t ht => by
  rcases List.mem_cons.1 ht with rfl | ht
  · exact h
  · exact hr t ht
theorem segNil : ∀ t, t ∈ ([] : List Sg) → segOK w t := fun t ht => by cases ht
theorem HV.below {w' : World} (h : HV w (keys [] []) [] [] [] w') : Below w.heap.size w w' := by
  have : Ext [] w w' := HS.toExt h
  exact this.below
end
end Go.Gx

