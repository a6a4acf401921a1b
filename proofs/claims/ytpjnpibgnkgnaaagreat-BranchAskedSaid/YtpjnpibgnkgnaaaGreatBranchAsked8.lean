/- What the functions that the law BranchAsked reaches come to, and why it holds: part 8. -/
import Derived.Test.YtpjnpibgnkgnaaaGreatBranchAsked7
import Derived.Deep.Slices
import Derived.ChangeArms
namespace Go.Proofs.Wb
open Go Go.Fw Go.Gx Go.Sb
set_option linter.unusedVariables false
set_option maxRecDepth 100000
def knownC (c : Channel) (s : Sight) : Channel := { c with sights := c.sights ++ [s] }
theorem agP_snoc {sg : List Sight} {s : Sight} {k : Int} {l : List Int} : agP tt (sg ++ [s]) k l = (agP tt sg k l && !offS k l s) := by
  unfold agP
  rw [List.length_append, List.length_singleton, List.range_succ, List.any_append]
  have e1 : ((List.range sg.length).any fun i => tt i && offS k l ((sg ++ [s]).getD i default)) = (List.range sg.length).any fun i => tt i && offS k l (sg.getD i default) := by
    rw [Bool.eq_iff_iff, List.any_eq_true, List.any_eq_true]
    constructor
    · rintro ⟨i, hi, h⟩
      have hi' : i < sg.length := by simpa using hi
      refine ⟨i, hi, ?_⟩
      rw [List.getD_eq_getElem?_getD, List.getElem?_append_left hi', ← List.getD_eq_getElem?_getD] at h
      exact h
    · rintro ⟨i, hi, h⟩
      have hi' : i < sg.length := by simpa using hi
      refine ⟨i, hi, ?_⟩
      rw [List.getD_eq_getElem?_getD, List.getElem?_append_left hi', ← List.getD_eq_getElem?_getD]
      exact h
  rw [e1]
  simp [Bool.not_or]
theorem FcL_known {c : Channel} {s : Sight} : ∀ (k : Nat) (l : List Int), (k : Int) < s.after → FcL tt (knownC c s) k l = FcL tt c k l
  | 0, l, h => by
    have e : agP tt (knownC c s).sights 0 l = agP tt c.sights 0 l := by
      show agP tt (c.sights ++ [s]) 0 l = _
      rw [agP_snoc]
      have : offS 0 l s = false := by unfold offS; rw [decide_eq_false (by omega)]; rfl
      rw [this]; simp
    rw [FcL, FcL, e]; rfl
  | k + 1, l, h => by
    have e : agP tt (knownC c s).sights ((k + 1 : Nat) : Int) l = agP tt c.sights ((k + 1 : Nat) : Int) l := by
      show agP tt (c.sights ++ [s]) _ l = _
      rw [agP_snoc]
      have : offS ((k + 1 : Nat) : Int) l s = false := by unfold offS; rw [decide_eq_false (by omega)]; rfl
      rw [this]; simp
    rw [FcL, FcL, e]
    congr 1
    show sumN (LL c) _ = _
    refine sumN_congr fun a _ => ?_
    rw [FcL_known k a (by omega)]
    rfl
theorem FcL_knownT {c : Channel} {s : Sight} {k : Nat} {l : List Int} (h : s.after = (k : Int)) : FcL tt (knownC c s) k l = if offS (k : Int) l s = true then 0 else FcL tt c k l := by
  have e : agP tt (knownC c s).sights (k : Int) l = (agP tt c.sights (k : Int) l && !offS (k : Int) l s) := agP_snoc
  cases ho : offS (k : Int) l s with
  | true =>
    rw [if_pos rfl, FcL_ag]
    rw [e, ho]
    simp
  | false =>
    rw [if_neg (by decide)]
    rw [ho, Bool.not_false, Bool.and_true] at e
    cases k with
    | zero =>
      rw [FcL, FcL]
      have e' : agP tt (knownC c s).sights 0 l = agP tt c.sights 0 l := e
      rw [e']; rfl
    | succ k =>
      rw [FcL, FcL, e]
      congr 1
      show sumN (LL c) _ = _
      refine sumN_congr fun a _ => ?_
      rw [FcL_known k a (by omega)]
      rfl
theorem cntS_sum {cnt : Nat → Bool} {c : Channel} (r : Right c) : cntS cnt c = sumN (LL c) (FcL cnt c c.tides.toNat) := by
  have hc := r.cells
  have h := FcL_sum (cnt := cnt) r c.tides.toNat 0
  unfold cntS
  rw [Nat.add_zero] at h
  rw [← h]
  refine sumN_congr fun l hl => ?_
  rw [R, agS_stL r ((mem_LL (by omega)).1 hl)]
  by_cases hag : agP cnt c.sights ((c.tides.toNat : Nat) : Int) l = true
  · rw [if_pos hag, Nat.mul_one]
  · rw [if_neg hag, Nat.mul_zero, FcL_ag hag]
theorem right_known {c : Channel} (r : Right c) (hs : c.sights.length ≤ 8) {s : Sight} (ha : 0 ≤ s.after ∧ s.after ≤ c.tides) (hx : 0 ≤ s.cell ∧ s.cell < c.cells) : Right (knownC c s) where
  cells := r.cells
  tides := r.tides
  fords := r.fords
  sands := r.sands
  sights := by show (c.sights ++ [s]).length ≤ 20; simp; omega
  reach := r.reach
  after := by
    intro t ht
    have ht' : t ∈ c.sights ++ [s] := ht
    rcases List.mem_append.1 ht' with h | h
    · exact r.after t h
    · rw [List.mem_singleton] at h; rw [h]; exact ha
  fcell := r.fcell
  span := r.span
  scell := by
    intro t ht
    have ht' : t ∈ c.sights ++ [s] := ht
    rcases List.mem_append.1 ht' with h | h
    · exact r.scell t h
    · rw [List.mem_singleton] at h; rw [h]; exact hx
  up := r.up
def yesC (c : Channel) (x : Nat) : Nat := sumN (LL c) fun l => if decide ((x : Int) ∈ l) = true then FcL tt c c.tides.toNat l else 0
theorem yes_known {c : Channel} (r : Right c) (hs : c.sights.length ≤ 8) {x : Nat} (hx : (x : Int) < c.cells) : cntS tt (knownC c ⟨c.tides, (x : Int), true⟩) = yesC c x := by
  have ht := r.tides
  rw [cntS_sum (right_known r hs ⟨ht.1, Int.le_refl _⟩ ⟨by simp only; omega, hx⟩)]
  show sumN (LL c) (FcL tt (knownC c ⟨c.tides, (x : Int), true⟩) c.tides.toNat) = _
  unfold yesC
  refine sumN_congr fun l _ => ?_
  rw [FcL_knownT (by simp only; omega)]
  unfold offS
  rw [decide_eq_true (by simp only; omega), Bool.true_and]
  cases decide ((x : Int) ∈ l) <;> rfl
theorem sumN_le {α : Type} {l : List α} {f g : α → Nat} (h : ∀ x ∈ l, f x ≤ g x) : sumN l f ≤ sumN l g := by
  induction l with
  | nil => exact Nat.le_refl _
  | cons x l ih =>
    rw [sumN_cons, sumN_cons]
    have h1 := h x List.mem_cons_self
    have h2 := ih (fun y hy => h y (List.mem_cons_of_mem _ hy))
    omega
theorem yes_le {c : Channel} (r : Right c) (x : Nat) : yesC c x ≤ cntS tt c := by
  rw [cntS_sum r]
  refine sumN_le fun l _ => ?_
  split
  · exact Nat.le_refl _
  · exact Nat.zero_le _
theorem cntS_bnd {c : Channel} (r : Right c) : cntS tt c ≤ 1000000000000000 := by
  have ht := r.tides
  rw [cntS_sum r, sumN_li]
  have h := sumN_range_le (fun i => FcL tt c c.tides.toNat (li c i)) 1000000000000 (LL c).length (fun i => FcL_bnd r (by omega) _)
  have h2 := Nat.mul_le_mul_right 1000000000000 (LL_len r)
  omega
def mostC (c : Channel) (x : Nat) : Int := max (yesC c x : Int) ((cntS tt c : Int) - (yesC c x : Int))
def askR (c : Channel) : Nat → Int × Int
  | 0 => ((cntS tt c : Int) + 1, 0)
  | x + 1 => if mostC c x < (askR c x).1 then (mostC c x, (x : Int)) else askR c x
theorem Qh {c : Channel} (h : Few c) : k9 c = some (if chk c = 0 then ⟨(cntS tt c : Int), 0⟩ else ⟨0, chk c⟩) := YW h
theorem Zk {c : Channel} (h : Few c) : yF c = some (if chk c = 0 then (if cntS tt c = 0 then ⟨⟨0, 0, false⟩, 0, 7⟩ else if cntS tt c = 1 then ⟨⟨0, 0, false⟩, 0, 6⟩ else ⟨⟨c.tides, (askR c c.cells.toNat).2, true⟩, (askR c c.cells.toNat).1, 0⟩) else ⟨⟨0, 0, false⟩, 0, chk c⟩) := by
  unfold yF
  rw [Qh h, Option.bind_some]
  by_cases h0 : chk c = 0
  · have r := rightOf h0
    have hc := r.cells
    have hs : c.sights.length ≤ 8 := by
      have h1 : okMany c = true := by
        cases hq : okMany c with
        | true => rfl
        | false => unfold chk at h0; rw [hq, if_neg (by decide)] at h0; exact absurd h0 (by decide)
      exact (okMany_iff.1 h1).2.2.2.2
    have hb := cntS_bnd r
    rw [if_pos h0, if_pos h0]
    dsimp only
    rw [if_pos rfl]
    by_cases h1 : cntS tt c = 0
    · rw [if_pos (show ((cntS tt c : Nat) : Int) = 0 by omega), if_pos h1]
    · rw [if_neg (show ¬ ((cntS tt c : Nat) : Int) = 0 by omega), if_neg h1]
      by_cases h2 : cntS tt c = 1
      · rw [if_pos (show ((cntS tt c : Nat) : Int) = 1 by omega), if_pos h2]
      · rw [if_neg (show ¬ ((cntS tt c : Nat) : Int) = 1 by omega), if_neg h2]
        rw [addc_eq (by omega), Option.bind_some]
        have key := iterM_run (f := yA c ⟨(cntS tt c : Int), 0⟩) (fun x => ⟨(askR c x).1, (x : Int), if x = 0 then 0 else c.tides, (askR c x).2, decide (x ≠ 0)⟩) c.cells.toNat (b := ⟨(askR c c.cells.toNat).1, c.tides, (askR c c.cells.toNat).2, true⟩) (fun x hx => ?_) ?_ FU (FU_lt (by omega))
        · show (iterM FU (yA c ⟨(cntS tt c : Int), 0⟩) ⟨(askR c 0).1, ((0 : Nat) : Int), if (0 : Nat) = 0 then 0 else c.tides, (askR c 0).2, decide ((0 : Nat) ≠ 0)⟩).bind _ = _
          rw [key]; rfl
        · unfold yA
          simp only
          have hy := yes_le r x
          have hcnt : kz (knownC c ⟨c.tides, (x : Int), true⟩).cells (knownC c ⟨c.tides, (x : Int), true⟩).tides (knownC c ⟨c.tides, (x : Int), true⟩).fords (knownC c ⟨c.tides, (x : Int), true⟩).sands (knownC c ⟨c.tides, (x : Int), true⟩).sights (rchL (knownC c ⟨c.tides, (x : Int), true⟩)) = some (yesC c x : Int) := by
            rw [Q8 (right_known r hs ⟨r.tides.1, Int.le_refl _⟩ ⟨by simp only; omega, by simp only; omega⟩), yes_known r hs (by omega)]
          rw [if_pos (by omega), Yd h, Option.bind_some, QF r, Option.bind_some]
          show (((kz (knownC c ⟨c.tides, (x : Int), true⟩).cells (knownC c ⟨c.tides, (x : Int), true⟩).tides (knownC c ⟨c.tides, (x : Int), true⟩).fords (knownC c ⟨c.tides, (x : Int), true⟩).sands (knownC c ⟨c.tides, (x : Int), true⟩).sights (rchL (knownC c ⟨c.tides, (x : Int), true⟩))).bind _).bind _) = _
          rw [hcnt, Option.bind_some, subc_eq (by omega), Option.bind_some]
          have e : (askR c (x + 1)) = if mostC c x < (askR c x).1 then (mostC c x, (x : Int)) else askR c x := rfl
          rw [e]
          show ((if mostC c x < (askR c x).1 then some (⟨mostC c x, c.tides, (x : Int), true⟩ : JK) else some ⟨(askR c x).1, if x = 0 then 0 else c.tides, (askR c x).2, decide (x ≠ 0)⟩).bind _) = _
          by_cases h3 : mostC c x < (askR c x).1
          · rw [if_pos h3, if_pos h3, Option.bind_some, addc_eq (by omega), Option.bind_some, if_neg (by omega)]
            simp
          · rw [if_neg h3, if_neg h3, Option.bind_some, addc_eq (by omega), Option.bind_some, if_neg (show ¬ x + 1 = 0 by omega)]
            have hx0 : x ≠ 0 := by
              rintro rfl
              apply h3
              unfold mostC askR
              omega
            rw [if_neg hx0]
            simp [hx0]
        · unfold yA
          simp only
          rw [if_neg (by omega), if_neg (by omega)]
          simp
          omega
  · rw [if_neg h0, if_neg h0, if_neg h0]
end Go.Proofs.Wb

namespace Go.Proofs.Wb
set_option maxHeartbeats 4000000
set_option maxRecDepth 100000
open Go Go.Fw Go.Gx Go.Sb
open Tryz
set_option linter.unusedVariables false

structure Qw where
  t5_1 : Int
  t5_2 : Int
def QO (shells0 : (List Int)) : Option Qw :=
 some (⟨0, 0⟩ : Qw)
theorem Zl (shells0 : (List Int)) (qa0 : Option Addr) (na0 ca0 : Nat) (w : World) (hw : HV w (keys [] []) [] [] [(aB qa0, aO qa0, RU8.enc shells0)] w) (hna0 : shells0.length = na0) (hqa0 : AOK na0 qa0) (hla0 : na0 ≤ ca0) {res : Qw} (hm : QO shells0 = some res) :
    Calls Tryz.prog 62 #[.slice qa0 na0 ca0] w (fun en w' => ∃ l : Nat, en = .returned (ptr l 0) ∧ (True) ∧ HV w (keys [] []) [kc l #[.slice qa0 na0 ca0, .int .i64 res.t5_1, .int .u32 res.t5_2] 199] [] [] w') := by
  unfold QO at hm
  refine yb func62 Y ntmps62 Y (e := [(0, _)]) Y hw (js (jm Y Y (k6 (jg Y Y (jc Y Y Y (fun _ _ => kk (vs := [(0, _)]) (cells := [_, _, _]) Y Y) ?_)))))
  refine jG Y Y (fun b h1 => ?_)
  refine jm Y Y (jr (jw ?_))
  obtain rfl := sj hm
  refine jk Y (fun w hh => (.tmp Y .nil)) (fun w hh => ⟨b, rfl, trivial, hh.se [0] [] 1 Y Y Y rfl⟩)
structure Jr where
  r0 : Int
  h0_1 : Int
  h0_2 : Int
structure J9 where
  h0_1 : Int
  h0_2 : Int
def y4 (h00 : (List Int)) (h01 : Int) (h02 : Int) : Option Jr :=
 (if h01 < (h00.length : Int) then
 ((ix h00 h01).bind fun t29 =>
 some (IntKind.u32.wrap ((IntKind.u32.wrap (40503 * (IntKind.u32.wrap (h02 + 1)))) + (IntKind.u32.wrap (331 * (IntKind.u32.wrap t29)))))) else
 (some (IntKind.u32.wrap (40503 * (IntKind.u32.wrap (h02 + 1)))))).bind fun o =>
 ((addc h01 1).bind fun t38 =>
 if (h00.length : Int) ≤ t38 then
 (some (⟨0, (IntKind.u32.wrap (h02 + 1))⟩ : J9)) else
 (some (⟨t38, h02⟩ : J9))).bind fun o_1 =>
 some (⟨(IntKind.i64.wrap (IntKind.u32.wrap (BitVec.ofInt IntKind.u32.bits (IntKind.u32.wrap (BitVec.ofInt IntKind.u32.bits o ^^^ BitVec.ofInt IntKind.u32.bits (Int.fdiv o (2 ^ min (Int.toNat 9) IntKind.u32.bits))).toNat) &&& BitVec.ofInt IntKind.u32.bits 32767).toNat)), o_1.h0_1, o_1.h0_2⟩ : Jr)
theorem QZ (h00 : (List Int)) (h01 : Int) (h02 : Int) (pb : Nat) (qa0 : Option Addr) (na0 ca0 : Nat) (w : World) (hw : HV w (keys [kc pb #[.slice qa0 na0 ca0, .int .i64 h01, .int .u32 h02] 199] []) [kc pb #[.slice qa0 na0 ca0, .int .i64 h01, .int .u32 h02] 199] [] [(aB qa0, aO qa0, RU8.enc h00)] w) (hna0 : h00.length = na0) (hqa0 : AOK na0 qa0) (hla0 : na0 ≤ ca0) {res : Jr} (hm : y4 h00 h01 h02 = some res) :
    Calls Tryz.prog 180 #[ptr pb 0] w (fun en w' => ∃ l : Unit, en = .returned (.int .i64 res.r0) ∧ (True) ∧ HV w (keys [kc pb #[.slice qa0 na0 ca0, .int .i64 h01, .int .u32 h02] 199] []) [kc pb #[.slice qa0 na0 ca0, .int .i64 res.h0_1, .int .u32 res.h0_2] 199] [] [] w') := by
  unfold y4 at hm
  refine yb func180 Y ntmps180 Y (e := [(0, _)]) Y hw (js (jm Y Y (k6 (jg Y Y (jc Y Y Y (fun _ _ => jP Y) (qK 2 runUnderlying199 Y sizeOf197 Y Y (qu 0 isAgg197 Y Y Y Y ?_)))))))
  refine jc Y Y Y (fun _ _ => Zb Y Y) (jc Y Y Y (fun _ _ => Zq Y Y) (jm Y Y (jr (ji ?_))))
  obtain ⟨o, h1, h2⟩ := bindO hm
  refine ki (ι := Unit) (fun l => True) (fun l => [(0, ptr pb 0), (3, .int .u32 o)]) (fun l => [kc pb #[.slice qa0 na0 ca0, .int .i64 h01, .int .u32 h02] 199]) (fun l => []) ?_ ?_
  ·replace hm := h1
   refine ji ?_
   refine k8 none (.free 0 (.free 1 (.free 2 (.hoist 3 (.free 4 (.free 5 (.free 6 (.hoist 7 (.free 8 (.free 9 .done)))))))))) _ Y (by decide +kernel) (fun w k hh => hh.draw k) (fun w hh => hh) ?_
   refine zd Y Y Y (jp Y Y Y Y (fun _ _ => jP Y) (Kt 1 runUnderlying199 sizeOf3 Y Y Y Y (KP 0 isAgg3 Y Y Y Y Y (zd Y Y Y (jp Y Y Y Y (fun _ _ => jP Y) (Kt 0 runUnderlying199 sizeOf92 Y Y Y Y (KP 0 isAgg92 Y Y Y Y Y ?_)))))))
   refine jp Y Y Y Y (fun w _ => k5 hna0 (runUnderlying92 w) Y) (jp Y Y Y Y (fun _ _ => Y3 Y Y) (kb (jb ?_)))
   refine jv Y (fun h3 => ?_) (fun h3 => ?_)
   ·replace hm := ifD h3 hm
    refine k8 none (.free 0 (.free 1 (.free 2 (.free 3 (.hoist 4 (.free 5 (.free 6 (.free 7 (.hoist 8 (.free 9 (.hoist 10 (.free 11 (.free 12 (.free 13 (.free 14 .done))))))))))))))) _ Y (by decide +kernel) (fun w k hh => hh.draw k) (fun w hh => hh) ?_
    refine zd Y Y Y (zd Y Y Y (jp Y Y Y Y (fun _ _ => jP Y) (Kt 0 runUnderlying199 sizeOf92 Y Y Y Y (KP 0 isAgg92 Y Y Y Y Y (zd Y Y Y (jp Y Y Y Y (fun _ _ => jP Y) (Kt 1 runUnderlying199 sizeOf3 Y Y Y Y ?_)))))))
    refine KP 0 isAgg3 Y Y Y Y Y ?_
    obtain ⟨t29, h4, hm⟩ := bindO hm
    refine jp Y Y Y Y (fun w _ => zN h4 (runUnderlying92 w) (sizeOf5 w) Y Y hna0 hqa0) (jz Y Y Y Y (fun w hh => zh RU8 0 h4 (isAgg5 w) Y (hh.seg 0 Y) Y (Nat.add_zero _).symm) (jp Y Y Y Y (fun w _ => Zr (runUnderlying5 w) (runUnderlying197 w) Y) (jp Y Y Y Y (fun _ _ => Zq Y Y) (jp Y Y Y Y (fun _ _ => Zb Y Y) (jp Y Y Y Y (fun _ _ => kx Y) (kb ?_))))))
    obtain rfl := sj hm
    exact jj () (trivial) (sE Y) (fun w hh => hh)
   replace hm := ifE h3 hm
   refine jx ?_
   obtain rfl := sj hm
   exact jj () (trivial) (sE Y) (fun w hh => hh)
  intro l hj
  replace hm := h2
  refine jb (ji ?_)
  obtain ⟨o_1, h5, h6⟩ := bindO hm
  refine ki (ι := Unit) (fun l_1 => True) (fun l_1 => [(3, .int .u32 o)]) (fun l_1 => [kc pb #[.slice qa0 na0 ca0, .int .i64 o_1.h0_1, .int .u32 o_1.h0_2] 199]) (fun l_1 => []) ?_ ?_
  ·replace hm := h5
   refine js (jg Y Y (jc Y Y Y (fun _ _ => jP Y) (qK 1 runUnderlying199 Y sizeOf3 Y Y (qu 0 isAgg3 Y Y Y Y ?_))))
   obtain ⟨t38, h7, hm⟩ := bindO hm
   refine JY h7 Y Y Y (jc Y Y Y (fun _ _ => jP Y) (qK 1 runUnderlying199 Y sizeOf3 Y Y (yc (cs' := #[_, _, _]) (S' := [_]) 0 (fun w => sizeOf3 w) Y Y Y Y Y Y Y (jr (ji ?_)))))
   refine k8 none (.free 0 (.free 1 (.free 2 (.hoist 3 (.free 4 (.free 5 (.free 6 (.hoist 7 (.free 8 (.free 9 .done)))))))))) _ Y (by decide +kernel) (fun w k hh => hh.draw k) (fun w hh => hh) ?_
   refine zd Y Y Y (jp Y Y Y Y (fun _ _ => jP Y) (Kt 1 runUnderlying199 sizeOf3 Y Y Y Y (KP 0 isAgg3 Y Y Y Y Y (zd Y Y Y (jp Y Y Y Y (fun _ _ => jP Y) (Kt 0 runUnderlying199 sizeOf92 Y Y Y Y (KP 0 isAgg92 Y Y Y Y Y ?_)))))))
   refine jp Y Y Y Y (fun w _ => k5 hna0 (runUnderlying92 w) Y) (jp Y Y Y Y (fun _ _ => Qk Y Y) (kb (jb ?_)))
   refine jv Y (fun h8 => ?_) (fun h8 => ?_)
   ·replace hm := ifD h8 hm
    refine je (jg Y Y (jg Y Y (jg Y Y (jc Y Y Y (fun _ _ => jP Y) (qK 2 runUnderlying199 Y sizeOf197 Y Y (qu 0 isAgg197 Y Y Y Y (jc Y Y Y (fun _ _ => Zb Y Y) ?_)))))))
    refine jc Y Y Y (fun _ _ => jP Y) (qK 1 runUnderlying199 Y sizeOf3 Y Y (yc (cs' := #[_, _, _]) (S' := [_]) 0 (fun w => sizeOf3 w) Y Y Y Y Y Y Y (jc Y Y Y (fun _ _ => jP Y) (qK 2 runUnderlying199 Y sizeOf197 Y Y (yc (cs' := #[_, _, _]) (S' := [_]) 0 (fun w => sizeOf197 w) Y Y Y Y Y Y Y (jt ?_))))))
    obtain rfl := sj hm
    exact jj () (trivial) (sE Y) (fun w hh => hh)
   replace hm := ifE h8 hm
   refine jx ?_
   obtain rfl := sj hm
   exact jj () (trivial) (sE Y) (fun w hh => hh)
  intro l_1 hj
  replace hm := h6
  refine jb (js (jg Y Y (jg Y Y (jc Y Y Y (fun _ _ => ZW Y Y (by decide)) (jc Y Y Y (fun _ _ => Zv Y Y Y) (jc Y Y Y (fun _ _ => Zv Y Y Y) (jc Y Y Y (fun w _ => Zr (runUnderlying197 w) (runUnderlying3 w) Y) ?_)))))))
  refine jm Y Y (jr (jw ?_))
  obtain rfl := sj hm
  refine jk Y (fun w hh => (.tmp Y .nil)) (fun w hh => ⟨(), rfl, trivial, hh.se [0] [] 1 Y Y Y rfl⟩)
structure qZ where
  r0 : Int
  h0_1 : Int
  h0_2 : Int
def jI (h00 : (List Int)) (h01 : Int) (h02 : Int) (n1 : Int) : Option qZ :=
 (y4 h00 h01 h02).bind fun t6 =>
 (addc n1 1).bind fun t8 =>
 (remc t6.r0 (max 1 t8)).bind fun t10 =>
 some (⟨t10, t6.h0_1, t6.h0_2⟩ : qZ)
theorem jV (h00 : (List Int)) (h01 : Int) (h02 : Int) (n1 : Int) (pb : Nat) (qa0 : Option Addr) (na0 ca0 : Nat) (w : World) (hw : HV w (keys [kc pb #[.slice qa0 na0 ca0, .int .i64 h01, .int .u32 h02] 199] []) [kc pb #[.slice qa0 na0 ca0, .int .i64 h01, .int .u32 h02] 199] [] [(aB qa0, aO qa0, RU8.enc h00)] w) (hna0 : h00.length = na0) (hqa0 : AOK na0 qa0) (hla0 : na0 ≤ ca0) {res : qZ} (hm : jI h00 h01 h02 n1 = some res) :
    Calls Tryz.prog 146 #[ptr pb 0, .int .i64 n1] w (fun en w' => ∃ l : Unit, en = .returned (.int .i64 res.r0) ∧ (True) ∧ HV w (keys [kc pb #[.slice qa0 na0 ca0, .int .i64 h01, .int .u32 h02] 199] []) [kc pb #[.slice qa0 na0 ca0, .int .i64 res.h0_1, .int .u32 res.h0_2] 199] [] [] w') := by
  unfold jI at hm
  refine yb func146 Y ntmps146 Y (e := [(0, _), (1, _)]) Y hw (js (jm Y Y (k6 (jg Y Y ?_))))
  obtain ⟨t6, h1, hm⟩ := bindO hm
  refine jd [_] [] Y Y Y Y Y Y Y call180 (fun w hh => QZ h00 h01 h02 pb qa0 na0 ca0 w (HV.callee (S0 := [_]) (vs0 := []) hh (roR hh 0 Y roN)) hna0 hqa0 hla0 h1) (fun l h2 => ?_)
  refine kF (S' := [_]) (vs' := []) [0] [] 0 Y Y Y Y (jg Y Y ?_)
  obtain ⟨t8, h3, hm⟩ := bindO hm
  refine JY h3 Y Y Y (jc Y Y Y (fun _ _ => Ym Y Y) ?_)
  obtain ⟨t10, h4, hm⟩ := bindO hm
  refine jc Y Y Y (fun _ _ => ZM h4 Y Y) (jm Y Y (jr (jw ?_)))
  obtain rfl := sj hm
  refine jk Y (fun w hh => (.tmp Y .nil)) (fun w hh => ⟨(), rfl, trivial, hh.se [0] [] 1 Y Y Y rfl⟩)
structure qw where
  r0 : Int
  h0_1 : Int
  h0_2 : Int
def q3 (h00 : (List Int)) (h01 : Int) (h02 : Int) (lo1 : Int) (hi2 : Int) : Option qw :=
 (subc hi2 lo1).bind fun t11 =>
 (jI h00 h01 h02 t11).bind fun t12 =>
 (addc lo1 t12.r0).bind fun t13 =>
 some (⟨t13, t12.h0_1, t12.h0_2⟩ : qw)
theorem JS (h00 : (List Int)) (h01 : Int) (h02 : Int) (lo1 : Int) (hi2 : Int) (pb : Nat) (qa0 : Option Addr) (na0 ca0 : Nat) (w : World) (hw : HV w (keys [kc pb #[.slice qa0 na0 ca0, .int .i64 h01, .int .u32 h02] 199] []) [kc pb #[.slice qa0 na0 ca0, .int .i64 h01, .int .u32 h02] 199] [] [(aB qa0, aO qa0, RU8.enc h00)] w) (hna0 : h00.length = na0) (hqa0 : AOK na0 qa0) (hla0 : na0 ≤ ca0) {res : qw} (hm : q3 h00 h01 h02 lo1 hi2 = some res) :
    Calls Tryz.prog 145 #[ptr pb 0, .int .i64 lo1, .int .i64 hi2] w (fun en w' => ∃ l : Unit, en = .returned (.int .i64 res.r0) ∧ (True) ∧ HV w (keys [kc pb #[.slice qa0 na0 ca0, .int .i64 h01, .int .u32 h02] 199] []) [kc pb #[.slice qa0 na0 ca0, .int .i64 res.h0_1, .int .u32 res.h0_2] 199] [] [] w') := by
  unfold q3 at hm
  refine yb func145 Y ntmps145 Y (e := [(0, _), (1, _), (2, _)]) Y hw (js (jm Y Y (k6 (jg Y Y (jg Y Y (jg Y Y (jg Y Y ?_)))))))
  obtain ⟨t11, h1, hm⟩ := bindO hm
  refine jc Y Y Y (fun _ _ => yE h1 Y Y) ?_
  obtain ⟨t12, h2, hm⟩ := bindO hm
  refine jd [_] [] Y Y Y Y Y Y Y call146 (fun w hh => jV h00 h01 h02 t11 pb qa0 na0 ca0 w (HV.callee (S0 := [_]) (vs0 := []) hh (roR hh 0 Y roN)) hna0 hqa0 hla0 h2) (fun l h3 => ?_)
  refine kF (S' := [_]) (vs' := []) [0] [] 0 Y Y Y Y ?_
  obtain ⟨t13, h4, hm⟩ := bindO hm
  refine JY h4 Y Y Y (jm Y Y (jr (jw ?_)))
  obtain rfl := sj hm
  refine jk Y (fun w hh => (.tmp Y .nil)) (fun w hh => ⟨(), rfl, trivial, hh.se [0] [] 1 Y Y Y rfl⟩)
structure Jk where
  r0 : Bool
  h0_1 : Int
  h0_2 : Int
def yy (h00 : (List Int)) (h01 : Int) (h02 : Int) (n1 : Int) : Option Jk :=
 (subc n1 1).bind fun t7 =>
 (jI h00 h01 h02 t7).bind fun t8 =>
 some (⟨(decide (t8.r0 = 0)), t8.h0_1, t8.h0_2⟩ : Jk)
theorem KV (h00 : (List Int)) (h01 : Int) (h02 : Int) (n1 : Int) (pb : Nat) (qa0 : Option Addr) (na0 ca0 : Nat) (w : World) (hw : HV w (keys [kc pb #[.slice qa0 na0 ca0, .int .i64 h01, .int .u32 h02] 199] []) [kc pb #[.slice qa0 na0 ca0, .int .i64 h01, .int .u32 h02] 199] [] [(aB qa0, aO qa0, RU8.enc h00)] w) (hna0 : h00.length = na0) (hqa0 : AOK na0 qa0) (hla0 : na0 ≤ ca0) {res : Jk} (hm : yy h00 h01 h02 n1 = some res) :
    Calls Tryz.prog 68 #[ptr pb 0, .int .i64 n1] w (fun en w' => ∃ l : Unit, en = .returned (.bool res.r0) ∧ (True) ∧ HV w (keys [kc pb #[.slice qa0 na0 ca0, .int .i64 h01, .int .u32 h02] 199] []) [kc pb #[.slice qa0 na0 ca0, .int .i64 res.h0_1, .int .u32 res.h0_2] 199] [] [] w') := by
  unfold yy at hm
  refine yb func68 Y ntmps68 Y (e := [(0, _), (1, _)]) Y hw (js (jm Y Y (k6 (jg Y Y (jg Y Y ?_)))))
  obtain ⟨t7, h1, hm⟩ := bindO hm
  refine jc Y Y Y (fun _ _ => yE h1 Y Y) ?_
  obtain ⟨t8, h2, hm⟩ := bindO hm
  refine jd [_] [] Y Y Y Y Y Y Y call146 (fun w hh => jV h00 h01 h02 t7 pb qa0 na0 ca0 w (HV.callee (S0 := [_]) (vs0 := []) hh (roR hh 0 Y roN)) hna0 hqa0 hla0 h2) (fun l h3 => ?_)
  refine kF (S' := [_]) (vs' := []) [0] [] 0 Y Y Y Y (jc Y Y Y (fun _ _ => zi Y Y) (jm Y Y (jr (jw ?_))))
  obtain rfl := sj hm
  refine jk Y (fun w hh => (.tmp Y .nil)) (fun w hh => ⟨(), rfl, trivial, hh.se [0] [] 1 Y Y Y rfl⟩)
structure yp where
  h0_1 : Int
  h0_2 : Int
  r0 : (List Int)
structure JO where
  h0_1 : Int
  h0_2 : Int
  out5 : (List Int)
structure yH where
  t9 : Int
  h0_1 : Int
  h0_2 : Int
  out5 : (List Int)
def q5 (n1 : Int) (h00 : (List Int)) (s : yH) : Option (yH ⊕ JO) :=
 if s.t9 < (max 0 n1) then
 ((jI h00 s.h0_1 s.h0_2 s.t9).bind fun t15 =>
 (y6 s.out5 t15.r0 [s.t9]).bind fun t18 =>
 (addc s.t9 1).bind fun t19 =>
 some (.inl (⟨t19, t15.h0_1, t15.h0_2, t18⟩ : yH))) else
 (some (.inr (⟨s.h0_1, s.h0_2, s.out5⟩ : JO)))
def yM (h00 : (List Int)) (h01 : Int) (h02 : Int) (n1 : Int) : Option yp :=
 (iterM FU (q5 n1 h00) (⟨0, h01, h02, []⟩ : yH)).bind fun o =>
 some (⟨o.h0_1, o.h0_2, o.out5⟩ : yp)
theorem QG (h00 : (List Int)) (h01 : Int) (h02 : Int) (n1 : Int) (pb : Nat) (qa0 : Option Addr) (na0 ca0 : Nat) (w : World) (hw : HV w (keys [kc pb #[.slice qa0 na0 ca0, .int .i64 h01, .int .u32 h02] 199] []) [kc pb #[.slice qa0 na0 ca0, .int .i64 h01, .int .u32 h02] 199] [] [(aB qa0, aO qa0, RU8.enc h00)] w) (hna0 : h00.length = na0) (hqa0 : AOK na0 qa0) (hla0 : na0 ≤ ca0) {res : yp} (hm : yM h00 h01 h02 n1 = some res) :
    Calls Tryz.prog 69 #[ptr pb 0, .int .i64 n1] w (fun en w' => ∃ l : VL, en = .returned (sL l) ∧ (VOK 1 l.n l.cap (RI.enc res.r0) l.sp l.q) ∧ HV w (keys [kc pb #[.slice qa0 na0 ca0, .int .i64 h01, .int .u32 h02] 199] []) [kc pb #[.slice qa0 na0 ca0, .int .i64 res.h0_1, .int .u32 res.h0_2] 199] [vL 3 l (RI.enc res.r0)] [] w') := by
  unfold yM at hm
  refine yb func69 Y ntmps69 Y (e := [(0, _), (1, _)]) Y hw (js (jc Y Y Y (fun _ _ => qV Y) (k6 (jc Y Y Y (fun _ _ => qV Y) (jr (ji (js ?_)))))))
  refine jg Y Y (jc Y Y Y (fun _ _ => Ym Y Y) (jg Y Y (jr (qW 3 ?_))))
  obtain ⟨o, h2, h3⟩ := bindO hm
  refine ki (ι := VL) (fun l => VOK 1 l.n l.cap (RI.enc o.out5) l.sp l.q) (fun l => [(5, sL l)]) (fun l => [kc pb #[.slice qa0 na0 ca0, .int .i64 o.h0_1, .int .u32 o.h0_2] 199]) (fun l => [vL 3 l (RI.enc o.out5)]) ?_ ?_
  ·replace hm := h2
   refine jq ?_
   refine kC (ι := VL) hm (fun s l_1 => VOK 1 l_1.n l_1.cap (RI.enc s.out5) l_1.sp l_1.q) (fun s l_1 => [(0, ptr pb 0), (5, sL l_1), (8, .int .i64 (max 0 n1)), (9, .int .i64 s.t9)]) (fun s l_1 => [kc pb #[.slice qa0 na0 ca0, .int .i64 s.h0_1, .int .u32 s.h0_2] 199]) (fun s l_1 => [vL 3 l_1 (RI.enc s.out5)]) ⟨none, 0, 0, []⟩ (VOK.nil) (sE Y) (fun w hh => hh) (fun s l_1 r hpl hm h6 => ?_)
   have h5 := hpl
   unfold q5 at hm
   refine js (JC Y Y Y (jr (ji ?_)))
   refine jv Y (fun h7 => ?_) (fun h7 => ?_)
   ·replace hm := ifD h7 hm
    refine jx (jb (ji (jq (js (jg Y Y (jm Y Y (jr ?_)))))))
    refine je (jg Y Y (jg Y Y (jg Y Y ?_)))
    obtain ⟨t15, h8, hm⟩ := bindO hm
    refine jd [_] [] Y Y Y Y Y Y Y call146 (fun w hh => jV h00 s.h0_1 s.h0_2 s.t9 pb qa0 na0 ca0 w (HV.callee (S0 := [_]) (vs0 := []) hh (roR hh 0 Y roN)) hna0 hqa0 hla0 h8) (fun l_2 h9 => ?_)
    refine kF (S' := [_]) (vs' := [_]) [0] [0] 0 Y Y Y Y (jg Y Y ?_)
    refine qo RI [s.t9] (ps := [(0, _)]) (cells := [_]) (fun w => runUnderlying22 w) (fun w => sizeOf3 w) (fun w => zeroValue3 w) Y Y Y Y Y Y Y Y (fun L h10 => ?_)
    obtain ⟨t18, h11, hm⟩ := bindO hm
    refine kF (S' := [_]) (vs' := [_, _]) [0] [1, 0] 0 Y Y Y Y ?_
    refine jd [] [_, _] Y Y Y Y Y Y Y call149 (fun w hh => QM s.out5 t15.r0 [s.t9] ⟨l_1.q, l_1.n, l_1.cap, l_1.sp⟩ ⟨L.q, L.n, L.cap, L.sp⟩ w (HV.callee (S0 := []) (vs0 := [_, _]) hh roN) h5 h10 h11) (fun l_3 h12 => ?_)
    have h13 := h12
    refine kF (S' := [_]) (vs' := [_, _]) [0] [0, 1] 0 Y Y Y Y (jm Y Y (jt (jy (jb (je ?_)))))
    obtain ⟨t19, h14, hm⟩ := bindO hm
    refine JY h14 Y Y Y (jg Y Y (jt ?_))
    obtain rfl := sj hm
    refine jb ?_
    exact jR _ l_3 Y (h13) (sE Y) (hsE [0] [0] 0 Y Y Y Y)
   replace hm := ifE h7 hm
   refine kQ (jl (jl (jS ?_)))
   obtain rfl := sj hm
   have hbo := h6 _ Y
   subst hbo
   exact jj l_1 (h5) (sE Y) (fun w hh => hh)
  intro l hj
  have h4 := hj
  replace hm := h3
  refine jb (js (jg Y Y (jm Y Y (jr (jw ?_)))))
  obtain rfl := sj hm
  refine jk Y (fun w hh => (.tmp Y .nil)) (fun w hh => ⟨l, rfl, h4, hh.se [0] [0] 1 Y Y Y rfl⟩)
structure qt where
  r5 : Int
  t11 : Int
def qs (c0 : Channel) (cell1 : Int) (s : qt) : Option (qt ⊕ Int) :=
 if s.t11 < (c0.sands.length : Int) then
 (((ix c0.sands s.t11).bind fun t13 =>
 (if t13.span.lo ≤ cell1 then
 (some (decide (cell1 ≤ t13.span.hi))) else
 (some false)).bind fun o_2 =>
 if o_2 = true then
 (some (max s.r5 t13.reach)) else
 (some s.r5)).bind fun o_1 =>
 (addc s.t11 1).bind fun t31 =>
 some (.inl (⟨o_1, t31⟩ : qt))) else
 (some (.inr s.r5))
def qy (c0 : Channel) (cell1 : Int) : Option Int :=
 (iterM FU (qs c0 cell1) (⟨0, 0⟩ : qt)).bind fun o =>
 some o
theorem JL (c0 : Channel) (cell1 : Int) (qa0 : Option Addr) (na0 ca0 : Nat) (qa1 : Option Addr) (na1 ca1 : Nat) (qa2 : Option Addr) (na2 ca2 : Nat) (w : World) (hw : HV w (keys [] []) [] [] [(aB qa0, aO qa0, RI.enc c0.fords), (aB qa1, aO qa1, RSa.enc c0.sands), (aB qa2, aO qa2, RSi.enc c0.sights)] w) (hna0 : c0.fords.length = na0) (hqa0 : AOK na0 qa0) (hla0 : na0 ≤ ca0) (hna1 : c0.sands.length = na1) (hqa1 : AOK na1 qa1) (hla1 : na1 ≤ ca1) (hna2 : c0.sights.length = na2) (hqa2 : AOK na2 qa2) (hla2 : na2 ≤ ca2) {res : Int} (hm : qy c0 cell1 = some res) :
    Calls Tryz.prog 63 #[.agg #[.int .i64 c0.cells, .int .i64 c0.tides, .slice qa0 na0 ca0, .slice qa1 na1 ca1, .slice qa2 na2 ca2], .int .i64 cell1] w (fun en w' => ∃ l : Unit, en = .returned (.int .i64 res) ∧ (True) ∧ HV w (keys [] []) [] [] [] w') := by
  unfold qy at hm
  refine yb func63 Y ntmps63 Y (e := [(0, _), (1, _)]) Y hw (js ?_)
  refine jG Y Y (fun b h1 => ?_)
  refine jm Y Y (k6 (jm Y Y (jr (ji (js (qK 3 runUnderlying26 Y sizeOf23 Y Y (qu 0 isAgg23 Y Y Y Y ?_)))))))
  refine jc Y Y Y (fun w _ => k5 hna1 (runUnderlying23 w) Y) (jg Y Y (jr ?_))
  obtain ⟨o, h2, h3⟩ := bindO hm
  refine ki (ι := Unit) (fun l => True) (fun l => [(5, .int .i64 o)]) (fun l => [kc b #[.int .i64 c0.cells, .int .i64 c0.tides, .slice qa0 na0 ca0, .slice qa1 na1 ca1, .slice qa2 na2 ca2] 26]) (fun l => []) ?_ ?_
  ·replace hm := h2
   refine jq ?_
   refine kC (ι := Unit) hm (fun s l_1 => True) (fun s l_1 => [(1, .int .i64 cell1), (5, .int .i64 s.r5), (9, .slice qa1 na1 ca1), (10, .int .i64 (c0.sands.length : Int)), (11, .int .i64 s.t11)]) (fun s l_1 => [kc b #[.int .i64 c0.cells, .int .i64 c0.tides, .slice qa0 na0 ca0, .slice qa1 na1 ca1, .slice qa2 na2 ca2] 26]) (fun s l_1 => []) () (trivial) (sE Y) (fun w hh => hh) (fun s l_1 r hpl hm h4 => ?_)
   unfold qs at hm
   refine js (JC Y Y Y (jr (ji ?_)))
   refine jv Y (fun h5 => ?_) (fun h5 => ?_)
   ·replace hm := ifD h5 hm
    refine jx (jb (ji ?_))
    obtain ⟨o_1, h6, h7⟩ := bindO hm
    refine ki (ι := Unit) (fun l_2 => True) (fun l_2 => [(1, .int .i64 cell1), (5, .int .i64 o_1), (9, .slice qa1 na1 ca1), (10, .int .i64 (c0.sands.length : Int)), (11, .int .i64 s.t11)]) (fun l_2 => [kc b #[.int .i64 c0.cells, .int .i64 c0.tides, .slice qa0 na0 ca0, .slice qa1 na1 ca1, .slice qa2 na2 ca2] 26]) (fun l_2 => []) ?_ ?_
    ·replace hm := h6
     refine jq (js ?_)
     obtain ⟨t13, h8, hm⟩ := bindO hm
     refine jc Y Y Y (fun w _ => zN h8 (runUnderlying23 w) (sizeOf98 w) Y Y hna1 hqa1) ?_
     refine jc Y Y Y (fun w hh => Jw RSa 0 [.int .i64 t13.span.lo, .int .i64 t13.span.hi, .int .i64 t13.reach] h8 (isAgg98 w) (sizeOf98 w) Y (hh.seg 1 Y) Y (Nat.add_zero _).symm) ?_
     refine ju (fun w => zeroValue98 w) Y (fun b_1 h9 => ?_)
     refine j7 (us := #[_, _, _]) (cs' := [_, _, _]) (S' := [_, _]) 0 (fun w => sizeOf98 w) Y Y Y Y Y Y Y (jr (ji ?_))
     obtain ⟨o_2, h10, h11⟩ := bindO hm
     refine ki (ι := Unit) (fun l_3 => True) (fun l_3 => [(1, .int .i64 cell1), (5, .int .i64 s.r5), (7, ptr b_1 0), (9, .slice qa1 na1 ca1), (10, .int .i64 (c0.sands.length : Int)), (11, .int .i64 s.t11), (26, .bool o_2)]) (fun l_3 => [kc b_1 #[.int .i64 t13.span.lo, .int .i64 t13.span.hi, .int .i64 t13.reach] 98, kc b #[.int .i64 c0.cells, .int .i64 c0.tides, .slice qa0 na0 ca0, .slice qa1 na1 ca1, .slice qa2 na2 ca2] 26]) (fun l_3 => []) ?_ ?_
     ·replace hm := h10
      refine je (qK 0 runUnderlying98 Y sizeOf50 Y Y (qK 0 runUnderlying50 Y sizeOf3 Y Y (qu 0 isAgg3 Y Y Y Y (jg Y Y (jc Y Y Y (fun _ _ => YF Y Y) (jg Y Y ?_))))))
      refine jK 20 Y (fun h12 => ?_) (fun h12 => ?_)
      ·replace hm := ifD h12 hm
       refine ja Y Y (jg Y Y (ja Y Y (qK 0 runUnderlying98 Y sizeOf50 Y Y (ja Y Y (qK 1 runUnderlying50 Y sizeOf3 Y Y (ja Y Y (qu 0 isAgg3 Y Y Y Y ?_)))))))
       refine ja Y Y (jc Y Y Y (fun _ _ => YF Y Y) (qQ Y Y Y (jt ?_)))
       obtain rfl := sj hm
       exact jj () (trivial) (sE Y) (fun w hh => hh)
      replace hm := ifE h12 hm
      refine g_k Y Y Y Y (g_k Y Y Y Y (g_k Y Y Y Y (g_k Y Y Y Y (g_k Y Y Y Y (ye Y Y Y (jt ?_))))))
      obtain rfl := sj hm
      exact jj () (trivial) (sE Y) (fun w hh => hh)
     intro l_3 hj
     replace hm := h11
     refine jb ?_
     refine jv Y (fun h13 => ?_) (fun h13 => ?_)
     ·replace hm := ifT (h13) hm
      refine je (jg Y Y (qK 2 runUnderlying98 Y sizeOf3 Y Y (qu 0 isAgg3 Y Y Y Y (jc Y Y Y (fun _ _ => Ym Y Y) (jm Y Y (jt (jy ?_)))))))
      obtain rfl := sj hm
      exact jj () (trivial) (sE Y) (hsE [1] [] 0 Y Y Y Y)
     replace hm := ifN h13 hm
     refine jx (jy ?_)
     obtain rfl := sj hm
     exact jj () (trivial) (sE Y) (hsE [1] [] 0 Y Y Y Y)
    intro l_2 hj
    replace hm := h7
    refine jb (je ?_)
    obtain ⟨t31, h14, hm⟩ := bindO hm
    refine JY h14 Y Y Y (jg Y Y (jt ?_))
    obtain rfl := sj hm
    refine jb ?_
    exact jR _ () Y (trivial) (sE Y) (fun w hh => hh)
   replace hm := ifE h5 hm
   refine kQ (jl (jl (jS ?_)))
   obtain rfl := sj hm
   have hbo := h4 _ Y
   subst hbo
   exact jj () (trivial) (sE Y) (fun w hh => hh)
  intro l hj
  replace hm := h3
  refine jb (js (jg Y Y (jm Y Y (jr (jw ?_)))))
  obtain rfl := sj hm
  refine jk Y (fun w hh => (.tmp Y .nil)) (fun w hh => ⟨(), rfl, trivial, hh.se [] [] 3 Y Y Y rfl⟩)
structure yB where
  b0_1 : Int
  b0_2 : Int
  r0 : (List (List Int))
structure zz where
  b0_1 : Int
  b0_2 : Int
  out5 : (List (List Int))
structure qC where
  t17 : Int
  b0_1 : Int
  b0_2 : Int
  out5 : (List (List Int))
structure zx where
  b0_1 : Int
  b0_2 : Int
  r0 : (List Int)
structure qD where
  t33 : Int
  b0_1 : Int
  b0_2 : Int
  r0 : (List Int)
structure zw where
  b0_1 : Int
  b0_2 : Int
  r0 : (List Int)
def kX (t31 : yp) (t27 : (List Int)) (c1 : Channel) (b00 : (List Int)) (s_1 : qD) : Option (qD ⊕ zx) :=
 if s_1.t33 < (t31.r0.length : Int) then
 (((ix t31.r0 s_1.t33).bind fun t35 =>
 (ix t27 t35).bind fun t39 =>
 (ix t27 t35).bind fun t45 =>
 (ix t27 t35).bind fun t52 =>
 (qy c1 t45).bind fun t47 =>
 (negc t47).bind fun t48 =>
 (qy c1 t52).bind fun t54 =>
 (q3 b00 s_1.b0_1 s_1.b0_2 t48 t54).bind fun t55 =>
 (addc t39 t55.r0).bind fun t56 =>
 (if 0 ≤ t56 then
 (if t56 < c1.cells then
 (if t35 = 0 then
 ((subc (s_1.r0.length : Int) 1).bind fun t82 =>
 if t35 = t82 then
 (some true) else
 ((addc t35 1).bind fun t88 =>
 (ix s_1.r0 t88).bind fun t89 =>
 some (decide (t56 < t89)))) else
 ((subc t35 1).bind fun t72 =>
 (ix s_1.r0 t72).bind fun t73 =>
 if t73 < t56 then
 ((subc (s_1.r0.length : Int) 1).bind fun t82_1 =>
 if t35 = t82_1 then
 (some true) else
 ((addc t35 1).bind fun t88_1 =>
 (ix s_1.r0 t88_1).bind fun t89_1 =>
 some (decide (t56 < t89_1)))) else
 (some false))) else
 (some false)) else
 (some false)).bind fun o_3 =>
 if o_3 = true then
 ((ix s_1.r0 t35).bind fun t97 =>
 (some (s_1.r0.set (Int.toNat t35) t56)).bind fun r0 =>
 some (⟨t55.h0_1, t55.h0_2, r0⟩ : zw)) else
 (some (⟨t55.h0_1, t55.h0_2, s_1.r0⟩ : zw))).bind fun o_2 =>
 (addc s_1.t33 1).bind fun t98 =>
 some (.inl (⟨t98, o_2.b0_1, o_2.b0_2, o_2.r0⟩ : qD))) else
 (some (.inr (⟨s_1.b0_1, s_1.b0_2, s_1.r0⟩ : zx)))
def kW (c1 : Channel) (b00 : (List Int)) (s : qC) : Option (qC ⊕ zz) :=
 if s.t17 < c1.tides then
 ((subc (s.out5.length : Int) 1).bind fun t22 =>
 (ix s.out5 t22).bind fun t23 =>
 (zJ t23).bind fun t25 =>
 (zJ t25).bind fun t27 =>
 (yM b00 s.b0_1 s.b0_2 (t25.length : Int)).bind fun t31 =>
 (iterM FU (kX t31 t27 c1 b00) (⟨0, t31.h0_1, t31.h0_2, t25⟩ : qD)).bind fun o_1 =>
 (appc 24 s.out5 [o_1.r0]).bind fun t102 =>
 (addc s.t17 1).bind fun t103 =>
 some (.inl (⟨t103, o_1.b0_1, o_1.b0_2, t102⟩ : qC))) else
 (some (.inr (⟨s.b0_1, s.b0_2, s.out5⟩ : zz)))
def qr (b00 : (List Int)) (b01 : Int) (b02 : Int) (c1 : Channel) : Option yB :=
 (zJ c1.fords).bind fun t13 =>
 (iterM FU (kW c1 b00) (⟨0, b01, b02, [t13]⟩ : qC)).bind fun o =>
 some (⟨o.b0_1, o.b0_2, o.out5⟩ : yB)
theorem KO (b00 : (List Int)) (b01 : Int) (b02 : Int) (c1 : Channel) (pb : Nat) (qa0 : Option Addr) (na0 ca0 : Nat) (qa1 : Option Addr) (na1 ca1 : Nat) (qa2 : Option Addr) (na2 ca2 : Nat) (qa3 : Option Addr) (na3 ca3 : Nat) (w : World) (hw : HV w (keys [kc pb #[.slice qa0 na0 ca0, .int .i64 b01, .int .u32 b02] 199] []) [kc pb #[.slice qa0 na0 ca0, .int .i64 b01, .int .u32 b02] 199] [] [(aB qa0, aO qa0, RU8.enc b00), (aB qa1, aO qa1, RI.enc c1.fords), (aB qa2, aO qa2, RSa.enc c1.sands), (aB qa3, aO qa3, RSi.enc c1.sights)] w) (hna0 : b00.length = na0) (hqa0 : AOK na0 qa0) (hla0 : na0 ≤ ca0) (hna1 : c1.fords.length = na1) (hqa1 : AOK na1 qa1) (hla1 : na1 ≤ ca1) (hna2 : c1.sands.length = na2) (hqa2 : AOK na2 qa2) (hla2 : na2 ≤ ca2) (hna3 : c1.sights.length = na3) (hqa3 : AOK na3 qa3) (hla3 : na3 ≤ ca3) {res : yB} (hm : qr b00 b01 b02 c1 = some res) :
    Calls Tryz.prog 78 #[ptr pb 0, .agg #[.int .i64 c1.cells, .int .i64 c1.tides, .slice qa1 na1 ca1, .slice qa2 na2 ca2, .slice qa3 na3 ca3]] w (fun en w' => ∃ l : DL, en = .returned (sL l.v) ∧ (VOK 1 l.v.n l.v.cap (RwH.enc l.rs) l.v.sp l.v.q ∧ DOK RI res.r0 l.rs) ∧ HV w (keys [kc pb #[.slice qa0 na0 ca0, .int .i64 b01, .int .u32 b02] 199] []) [kc pb #[.slice qa0 na0 ca0, .int .i64 res.b0_1, .int .u32 res.b0_2] 199] [⟨22, RwH.enc l.rs, l.v.sp, l.v.q, dbl 3 RI res.r0 l.rs⟩] [] w') := by
  unfold qr at hm
  refine yb func78 Y ntmps78 Y (e := [(0, _), (1, _)]) Y hw (js ?_)
  refine jG Y Y (fun b h3 => ?_)
  refine jc Y Y Y (fun _ _ => qV Y) (k6 (qK 2 runUnderlying26 Y sizeOf22 Y Y (qu 0 isAgg22 Y Y Y Y ?_)))
  obtain ⟨t13, h4, hm⟩ := bindO hm
  refine jd [] [] Y Y Y Y Y Y Y call46 (fun w hh => Qg c1.fords qa1 na1 ca1 w (HV.callee (S0 := []) (vs0 := []) hh (roR hh 1 Y roN)) hna1 hqa1 hla1 h4) (fun l h5 => ?_)
  have h6 := h5
  refine kF (S' := [_, _]) (vs' := [_]) [0, 1] [0] 0 Y Y Y Y ?_
  refine qo RwH [(⟨l.q, l.n, l.cap, l.sp⟩ : VL)] (ps := [(0, _)]) (cells := [_]) (fun w => runUnderlying41 w) (fun w => sizeOf22 w) (fun w => zeroValue22 w) Y Y Y Y Y Y Y Y (fun L h7 => ?_)
  refine Q9 (E2 := 3) RI 1 (Y : _ = ([[]] : List (List Int))) (fun h8 => ?_)
  refine kF (S' := [_, _]) (vs' := [_, _]) [0, 1] [0, 1] 0 Y Y Y Y ?_
  refine Ya RI (l' := [t13]) 0 l.n l.cap h8 h6 Y Y (fun h9 => ?_)
  have h10 : DOK RI [t13] [(⟨l.q, l.n, l.cap, l.sp⟩ : VL)] := h9
  refine YS (S' := [_, _]) (vs' := [⟨22, RwH.enc [(⟨l.q, l.n, l.cap, l.sp⟩ : VL)], L.sp, L.q, dbl 3 RI [t13] [(⟨l.q, l.n, l.cap, l.sp⟩ : VL)]⟩]) [0, 1] [0] 0 (by decide) (by decide) Y Y Y ?_
  refine jm Y Y (jr (ji (js (qK 1 runUnderlying26 Y sizeOf3 Y Y (qu 0 isAgg3 Y Y Y Y (jg Y Y (jr ?_)))))))
  obtain ⟨o, h11, h12⟩ := bindO hm
  refine ki (ι := DL) (fun l_1 => VOK 1 l_1.v.n l_1.v.cap (RwH.enc l_1.rs) l_1.v.sp l_1.v.q ∧ DOK RI o.out5 l_1.rs) (fun l_1 => [(5, sL l_1.v)]) (fun l_1 => [kc b #[.int .i64 c1.cells, .int .i64 c1.tides, .slice qa1 na1 ca1, .slice qa2 na2 ca2, .slice qa3 na3 ca3] 26, kc pb #[.slice qa0 na0 ca0, .int .i64 o.b0_1, .int .u32 o.b0_2] 199]) (fun l_1 => [⟨22, RwH.enc l_1.rs, l_1.v.sp, l_1.v.q, dbl 3 RI o.out5 l_1.rs⟩]) ?_ ?_
  ·replace hm := h11
   refine jq ?_
   refine kC (ι := DL) hm (fun s l_2 => VOK 1 l_2.v.n l_2.v.cap (RwH.enc l_2.rs) l_2.v.sp l_2.v.q ∧ DOK RI s.out5 l_2.rs) (fun s l_2 => [(0, ptr pb 0), (3, ptr b 0), (5, sL l_2.v), (16, .int .i64 c1.tides), (17, .int .i64 s.t17)]) (fun s l_2 => [kc b #[.int .i64 c1.cells, .int .i64 c1.tides, .slice qa1 na1 ca1, .slice qa2 na2 ca2, .slice qa3 na3 ca3] 26, kc pb #[.slice qa0 na0 ca0, .int .i64 s.b0_1, .int .u32 s.b0_2] 199]) (fun s l_2 => [⟨22, RwH.enc l_2.rs, l_2.v.sp, l_2.v.q, dbl 3 RI s.out5 l_2.rs⟩]) (⟨⟨L.q, L.n, L.cap, L.sp⟩, [(⟨l.q, l.n, l.cap, l.sp⟩ : VL)]⟩) (⟨h7, h10⟩) (sE Y) (fun w hh => hh) (fun s l_2 r hpl hm h17 => ?_)
   obtain ⟨h15, h16⟩ := hpl
   unfold kW at hm
   refine js (JC Y Y Y (jr (ji ?_)))
   refine jv Y (fun h18 => ?_) (fun h18 => ?_)
   ·replace hm := ifD h18 hm
    refine jx (jb (ji (jq (js (jg Y Y (jg Y Y (jc Y Y Y (fun w _ => J8 (Eq.trans (h16).len (vlen RwH h15 Y)) (runUnderlying41 w) Y) ?_)))))))
    obtain ⟨t22, h19, hm⟩ := bindO hm
    refine jc Y Y Y (fun _ _ => yE h19 Y Y) ?_
    obtain ⟨t23, h20, hm⟩ := bindO hm
    obtain ⟨L_1, h21, h22⟩ := (h16).row h20
    refine jc Y Y Y (fun w _ => J3 h21 (runUnderlying41 w) (sizeOf22 w) Y Y (vlen RwH h15 Y) (vne h15)) (jc Y Y Y (fun w hh => zh RwH 0 h21 (isAgg22 w) Y (hh.vseg 0 Y h15) Y (Nat.add_zero _).symm) ?_)
    obtain ⟨t25, h23, hm⟩ := bindO hm
    refine jd [] [] Y Y Y Y Y Y Y call46 (fun w hh => Qg t23 (qA L_1.q) L_1.n L_1.cap w (HV.callee (S0 := []) (vs0 := []) hh (roC (hh.dsepA (S0 := []) (vs0 := []) 0 Y h20 h21 h22) roN)) (vlen RI h22 Y) (AOK.q (vne h22)) (h22).hle h23) (fun l_3 h24 => ?_)
    have h25 := h24
    refine kF (S' := [_, _]) (vs' := [_, _]) [0, 1] [0, 1] 0 Y Y Y Y (jm Y Y (k6 (jg Y Y ?_)))
    obtain ⟨t27, h26, hm⟩ := bindO hm
    refine jd [] [] Y Y Y Y Y Y Y call46 (fun w hh => Qg t25 (qA l_3.q) l_3.n l_3.cap w (HV.callee (S0 := []) (vs0 := []) hh (roC (hh.vsepA 0 Y h25) roN)) (vlen RI h25 Y) (AOK.q (vne h25)) (h25).hle h26) (fun l_4 h27 => ?_)
    have h28 := h27
    refine kF (S' := [_, _]) (vs' := [_, _, _]) [0, 1] [0, 1, 2] 0 Y Y Y Y (jm Y Y (jr (ji (js (jg Y Y (jg Y Y (jc Y Y Y (fun w _ => J8 (vlen RI h25 Y) (runUnderlying22 w) Y) ?_)))))))
    obtain ⟨t31, h29, hm⟩ := bindO hm
    refine kF (S' := [_, _]) (vs' := [_, _, _]) [1, 0] [0, 1, 2] 0 Y Y Y Y ?_
    refine jd [_] [] Y Y Y Y Y Y Y call69 (fun w hh => QG b00 s.b0_1 s.b0_2 (t25.length : Int) pb qa0 na0 ca0 w (HV.callee (S0 := [_]) (vs0 := []) hh (roR hh 0 Y roN)) hna0 hqa0 hla0 h29) (fun l_5 h30 => ?_)
    have h31 := h30
    refine kF (S' := [_, _]) (vs' := [_, _, _, _]) [0, 1] [0, 1, 2, 3] 0 Y Y Y Y (jc Y Y Y (fun w _ => J8 (vlen RI h31 Y) (runUnderlying22 w) Y) (jg Y Y (jr ?_)))
    obtain ⟨o_1, h32, h33⟩ := bindO hm
    refine ki (ι := Unit) (fun l_6 => VOK 1 l_3.n l_3.cap (RI.enc o_1.r0) l_3.sp l_3.q) (fun l_6 => [(0, ptr pb 0), (3, ptr b 0), (5, sL l_2.v), (6, sL l_3), (16, .int .i64 c1.tides), (17, .int .i64 s.t17)]) (fun l_6 => [kc pb #[.slice qa0 na0 ca0, .int .i64 o_1.b0_1, .int .u32 o_1.b0_2] 199, kc b #[.int .i64 c1.cells, .int .i64 c1.tides, .slice qa1 na1 ca1, .slice qa2 na2 ca2, .slice qa3 na3 ca3] 26]) (fun l_6 => [⟨22, RwH.enc l_2.rs, l_2.v.sp, l_2.v.q, dbl 3 RI s.out5 l_2.rs⟩, vL 3 l_3 (RI.enc o_1.r0)]) ?_ ?_
    ·replace hm := h32
     refine jq ?_
     refine kC (ι := Unit) hm (fun s_1 l_7 => VOK 1 l_3.n l_3.cap (RI.enc s_1.r0) l_3.sp l_3.q) (fun s_1 l_7 => [(0, ptr pb 0), (3, ptr b 0), (5, sL l_2.v), (6, sL l_3), (7, sL l_4), (16, .int .i64 c1.tides), (17, .int .i64 s.t17), (31, sL l_5), (32, .int .i64 (t31.r0.length : Int)), (33, .int .i64 s_1.t33)]) (fun s_1 l_7 => [kc pb #[.slice qa0 na0 ca0, .int .i64 s_1.b0_1, .int .u32 s_1.b0_2] 199, kc b #[.int .i64 c1.cells, .int .i64 c1.tides, .slice qa1 na1 ca1, .slice qa2 na2 ca2, .slice qa3 na3 ca3] 26]) (fun s_1 l_7 => [⟨22, RwH.enc l_2.rs, l_2.v.sp, l_2.v.q, dbl 3 RI s.out5 l_2.rs⟩, vL 3 l_3 (RI.enc s_1.r0), vL 3 l_4 (RI.enc t27), vL 3 l_5 (RI.enc t31.r0)]) () (h25) (sE Y) (hsE [0, 1] [3, 2, 1, 0] 0 Y Y Y Y) (fun s_1 l_7 r_1 hpl hm h36 => ?_)
     have h35 := hpl
     unfold kX at hm
     refine js (JC Y Y Y (jr (ji ?_)))
     refine jv Y (fun h37 => ?_) (fun h37 => ?_)
     ·replace hm := ifD h37 hm
      refine jx (jb (ji ?_))
      obtain ⟨o_2, h38, h39⟩ := bindO hm
      refine ki (ι := Unit) (fun l_8 => VOK 1 l_3.n l_3.cap (RI.enc o_2.r0) l_3.sp l_3.q) (fun l_8 => [(0, ptr pb 0), (3, ptr b 0), (5, sL l_2.v), (6, sL l_3), (7, sL l_4), (16, .int .i64 c1.tides), (17, .int .i64 s.t17), (31, sL l_5), (32, .int .i64 (t31.r0.length : Int)), (33, .int .i64 s_1.t33)]) (fun l_8 => [kc pb #[.slice qa0 na0 ca0, .int .i64 o_2.b0_1, .int .u32 o_2.b0_2] 199, kc b #[.int .i64 c1.cells, .int .i64 c1.tides, .slice qa1 na1 ca1, .slice qa2 na2 ca2, .slice qa3 na3 ca3] 26]) (fun l_8 => [⟨22, RwH.enc l_2.rs, l_2.v.sp, l_2.v.q, dbl 3 RI s.out5 l_2.rs⟩, vL 3 l_3 (RI.enc o_2.r0), vL 3 l_4 (RI.enc t27), vL 3 l_5 (RI.enc t31.r0)]) ?_ ?_
      ·replace hm := h38
       refine jq (js ?_)
       obtain ⟨t35, h41, hm⟩ := bindO hm
       refine jc Y Y Y (fun w _ => J3 h41 (runUnderlying22 w) (sizeOf3 w) Y Y (vlen RI h31 Y) (vne h31)) (jc Y Y Y (fun w hh => zh RI 0 h41 (isAgg3 w) Y (hh.vseg 3 Y h31) Y (Nat.add_zero _).symm) (jm Y Y (jr (ji ?_))))
       refine k8 none (.free 0 (.free 1 (.free 2 (.hoist 3 (.free 4 (.hoist 5 (.free 6 (.free 7 (.free 8 (.hoist 9 (.hoist 12 (.free 13 (.free 14 (.free 15 (.hoist 16 (.one 10 (.free 11 (.one 17 (.one 18 (.free 19 (.free 20 .done))))))))))))))))))))) (HV _ _ [kc b #[.int .i64 c1.cells, .int .i64 c1.tides, .slice qa1 na1 ca1, .slice qa2 na2 ca2, .slice qa3 na3 ca3] 26] [⟨22, RwH.enc l_2.rs, l_2.v.sp, l_2.v.q, dbl 3 RI s.out5 l_2.rs⟩, vL 3 l_3 (RI.enc s_1.r0), vL 3 l_4 (RI.enc t27), vL 3 l_5 (RI.enc t31.r0)] _) Y (by decide +kernel) (fun w k hh => hh.draw k) (hsE [1] [0, 1, 2, 3] 0 Y Y Y Y) ?_
       refine zd Y Y Y (zd Y Y Y ?_)
       obtain ⟨t39, h42, hm⟩ := bindO hm
       refine jp Y Y Y Y (fun w _ => J3 h42 (runUnderlying22 w) (sizeOf3 w) Y Y (vlen RI h28 Y) (vne h28)) (jz Y Y Y Y (fun w hh => zh RI 0 h42 (isAgg3 w) Y (hh.vseg 2 Y h28) Y (Nat.add_zero _).symm) (zd Y Y Y (jz Y Y Y Y (fun w hh => jJ (vs := [_, _, _, _, _]) (isAgg26 w) (sizeOf26 w) Y (hh.cells 0 Y Y)) (zd Y Y Y (zd Y Y Y ?_)))))
       obtain ⟨t45, h43, hm⟩ := bindO hm
       refine jp Y Y Y Y (fun w _ => J3 h43 (runUnderlying22 w) (sizeOf3 w) Y Y (vlen RI h28 Y) (vne h28)) (jz Y Y Y Y (fun w hh => zh RI 0 h43 (isAgg3 w) Y (hh.vseg 2 Y h28) Y (Nat.add_zero _).symm) (jz Y Y Y Y (fun w hh => jJ (vs := [_, _, _, _, _]) (isAgg26 w) (sizeOf26 w) Y (hh.cells 0 Y Y)) (zd Y Y Y (zd Y Y Y ?_))))
       obtain ⟨t52, h44, hm⟩ := bindO hm
       refine jp Y Y Y Y (fun w _ => J3 h44 (runUnderlying22 w) (sizeOf3 w) Y Y (vlen RI h28 Y) (vne h28)) (jz Y Y Y Y (fun w hh => zh RI 0 h44 (isAgg3 w) Y (hh.vseg 2 Y h28) Y (Nat.add_zero _).symm) (jF Y ?_))
       obtain ⟨t47, h45, hm⟩ := bindO hm
       refine jd [] [] Y Y Y Y Y Y Y call63 (fun w hh => JL c1 t45 qa1 na1 ca1 qa2 na2 ca2 qa3 na3 ca3 w (HV.callee (S0 := []) (vs0 := []) hh (roR hh 1 Y (roR hh 2 Y (roR hh 3 Y roN)))) hna1 hqa1 hla1 hna2 hqa2 hla2 hna3 hqa3 hla3 h45) (fun l_9 h46 => ?_)
       refine jo (hsE [1] [0, 1, 2, 3] 0 Y Y Y Y) ?_
       obtain ⟨t48, h47, hm⟩ := bindO hm
       refine jp Y Y Y Y (fun _ _ => ZK h47 Y) (jF Y ?_)
       obtain ⟨t54, h48, hm⟩ := bindO hm
       refine jd [] [] Y Y Y Y Y Y Y call63 (fun w hh => JL c1 t52 qa1 na1 ca1 qa2 na2 ca2 qa3 na3 ca3 w (HV.callee (S0 := []) (vs0 := []) hh (roR hh 1 Y (roR hh 2 Y (roR hh 3 Y roN)))) hna1 hqa1 hla1 hna2 hqa2 hla2 hna3 hqa3 hla3 h48) (fun l_10 h49 => ?_)
       refine jo (hsE [1] [0, 1, 2, 3] 0 Y Y Y Y) (jF Y ?_)
       obtain ⟨t55, h50, hm⟩ := bindO hm
       refine jd [_] [] Y Y Y Y Y Y Y call145 (fun w hh => JS b00 s_1.b0_1 s_1.b0_2 t48 t54 pb qa0 na0 ca0 w (HV.callee (S0 := [_]) (vs0 := []) hh (roR hh 0 Y roN)) hna0 hqa0 hla0 h50) (fun l_11 h51 => ?_)
       refine kF (S' := [_, _]) (vs' := [_, _, _, _]) [0, 1] [0, 1, 2, 3] 0 Y Y Y Y (jo (hsE [1] [0, 1, 2, 3] 0 Y Y Y Y) ?_)
       obtain ⟨t56, h52, hm⟩ := bindO hm
       refine jp Y Y Y Y (fun _ _ => JV h52 Y Y) (jp Y Y Y Y (fun _ _ => kx Y) (kb (jb (ji ?_))))
       obtain ⟨o_3, h53, h54⟩ := bindO hm
       refine ki (ι := Unit) (fun l_12 => True) (fun l_12 => [(0, ptr pb 0), (3, ptr b 0), (5, sL l_2.v), (6, sL l_3), (7, sL l_4), (9, .int .i64 t35), (10, .int .i64 t56), (16, .int .i64 c1.tides), (17, .int .i64 s.t17), (31, sL l_5), (32, .int .i64 (t31.r0.length : Int)), (33, .int .i64 s_1.t33), (93, .bool o_3)]) (fun l_12 => [kc pb #[.slice qa0 na0 ca0, .int .i64 t55.h0_1, .int .u32 t55.h0_2] 199, kc b #[.int .i64 c1.cells, .int .i64 c1.tides, .slice qa1 na1 ca1, .slice qa2 na2 ca2, .slice qa3 na3 ca3] 26]) (fun l_12 => [⟨22, RwH.enc l_2.rs, l_2.v.sp, l_2.v.q, dbl 3 RI s.out5 l_2.rs⟩, vL 3 l_3 (RI.enc s_1.r0), vL 3 l_4 (RI.enc t27), vL 3 l_5 (RI.enc t31.r0)]) ?_ ?_
       ·replace hm := h53
        refine je (jg Y Y (jc Y Y Y (fun _ _ => Qk Y Y) (jg Y Y ?_)))
        refine jK 59 Y (fun h55 => ?_) (fun h55 => ?_)
        ·replace hm := ifD h55 hm
         refine ja Y Y (jg Y Y (ja Y Y (qK 0 runUnderlying26 Y sizeOf3 Y Y (ja Y Y (qu 1 isAgg3 Y Y Y Y (ja Y Y (JC Y Y Y ?_)))))))
         refine qQ Y Y Y (jg Y Y ?_)
         refine jK 65 Y (fun h56 => ?_) (fun h56 => ?_)
         ·replace hm := ifD h56 hm
          refine ja Y Y (jg Y Y (ja Y Y (jc Y Y Y (fun _ _ => zi Y Y) (ja Y Y (jg Y Y ?_)))))
          refine jK 68 Y (fun h57 => ?_) (fun h57 => ?_)
          ·replace hm := ifD h57 hm
           refine g_k Y Y Y Y (g_k Y Y Y Y (g_k Y Y Y Y (g_k Y Y Y Y (g_k Y Y Y Y (g_k Y Y Y Y (g_k Y Y Y Y (ja Y Y ?_)))))))
           refine qQ Y Y Y (qQ Y Y Y (jg Y Y (ja Y Y (jg Y Y (ja Y Y (jg Y Y (ja Y Y ?_)))))))
           refine jc Y Y Y (fun w _ => J8 (vlen RI h35 Y) (runUnderlying22 w) Y) (ja Y Y ?_)
           obtain ⟨t82, h58, hm⟩ := bindO hm
           refine jc Y Y Y (fun _ _ => yE h58 Y Y) (ja Y Y (jc Y Y Y (fun _ _ => zi Y Y) (ja Y Y (jg Y Y ?_))))
           refine jK 84 Y (fun h59 => ?_) (fun h59 => ?_)
           ·replace hm := ifD h59 hm
            refine g_k Y Y Y Y (g_k Y Y Y Y (g_k Y Y Y Y (g_k Y Y Y Y (g_k Y Y Y Y (g_k Y Y Y Y (g_k Y Y Y Y (ja Y Y ?_)))))))
            refine qQ Y Y Y (qQ Y Y Y (jt ?_))
            obtain rfl := sj hm
            exact jj () (trivial) (sE Y) (fun w hh => hh)
           replace hm := ifE h59 hm
           refine ja Y Y (jg Y Y (ja Y Y (jg Y Y (ja Y Y (jg Y Y (ja Y Y ?_))))))
           obtain ⟨t88, h60, hm⟩ := bindO hm
           refine JY h60 Y Y Y (ja Y Y ?_)
           obtain ⟨t89, h61, hm⟩ := bindO hm
           refine jc Y Y Y (fun w _ => J3 h61 (runUnderlying22 w) (sizeOf3 w) Y Y (vlen RI h35 Y) (vne h35)) (ja Y Y (jc Y Y Y (fun w hh => zh RI 0 h61 (isAgg3 w) Y (hh.vseg 1 Y h35) Y (Nat.add_zero _).symm) (ja Y Y (JC Y Y Y (ja Y Y (ye Y Y Y (qQ Y Y Y ?_)))))))
           refine jt ?_
           obtain rfl := sj hm
           exact jj () (trivial) (sE Y) (fun w hh => hh)
          replace hm := ifE h57 hm
          refine ja Y Y (jg Y Y (ja Y Y (jg Y Y (ja Y Y (jg Y Y (ja Y Y ?_))))))
          obtain ⟨t72, h62, hm⟩ := bindO hm
          refine jc Y Y Y (fun _ _ => yE h62 Y Y) (ja Y Y ?_)
          obtain ⟨t73, h63, hm⟩ := bindO hm
          refine jc Y Y Y (fun w _ => J3 h63 (runUnderlying22 w) (sizeOf3 w) Y Y (vlen RI h35 Y) (vne h35)) (ja Y Y (jc Y Y Y (fun w hh => zh RI 0 h63 (isAgg3 w) Y (hh.vseg 1 Y h35) Y (Nat.add_zero _).symm) (ja Y Y (jc Y Y Y (fun _ _ => YH Y Y) (ja Y Y (ye Y Y Y (qQ Y Y Y ?_)))))))
          refine jg Y Y ?_
          refine jK 78 Y (fun h64 => ?_) (fun h64 => ?_)
          ·replace hm := ifD h64 hm
           refine ja Y Y (jg Y Y (ja Y Y (jg Y Y (ja Y Y (jc Y Y Y (fun w _ => J8 (vlen RI h35 Y) (runUnderlying22 w) Y) (ja Y Y ?_))))))
           obtain ⟨t82_1, h65, hm⟩ := bindO hm
           refine jc Y Y Y (fun _ _ => yE h65 Y Y) (ja Y Y (jc Y Y Y (fun _ _ => zi Y Y) (ja Y Y (jg Y Y ?_))))
           refine jK 84 Y (fun h66 => ?_) (fun h66 => ?_)
           ·replace hm := ifD h66 hm
            refine g_k Y Y Y Y (g_k Y Y Y Y (g_k Y Y Y Y (g_k Y Y Y Y (g_k Y Y Y Y (g_k Y Y Y Y (g_k Y Y Y Y (ja Y Y ?_)))))))
            refine qQ Y Y Y (qQ Y Y Y (jt ?_))
            obtain rfl := sj hm
            exact jj () (trivial) (sE Y) (fun w hh => hh)
           replace hm := ifE h66 hm
           refine ja Y Y (jg Y Y (ja Y Y (jg Y Y (ja Y Y (jg Y Y (ja Y Y ?_))))))
           obtain ⟨t88_1, h67, hm⟩ := bindO hm
           refine JY h67 Y Y Y (ja Y Y ?_)
           obtain ⟨t89_1, h68, hm⟩ := bindO hm
           refine jc Y Y Y (fun w _ => J3 h68 (runUnderlying22 w) (sizeOf3 w) Y Y (vlen RI h35 Y) (vne h35)) (ja Y Y (jc Y Y Y (fun w hh => zh RI 0 h68 (isAgg3 w) Y (hh.vseg 1 Y h35) Y (Nat.add_zero _).symm) (ja Y Y (JC Y Y Y (ja Y Y (ye Y Y Y (qQ Y Y Y ?_)))))))
           refine jt ?_
           obtain rfl := sj hm
           exact jj () (trivial) (sE Y) (fun w hh => hh)
          replace hm := ifE h64 hm
          refine g_k Y Y Y Y (g_k Y Y Y Y (g_k Y Y Y Y (g_k Y Y Y Y (g_k Y Y Y Y (g_k Y Y Y Y ?_)))))
          refine jn Y Y Y Y Y ?_
          refine jn Y Y Y Y Y ?_
          refine jn Y Y Y Y Y ?_
          refine jn Y Y Y Y Y ?_
          refine jn Y Y Y Y Y ?_
          refine jn Y Y Y Y Y ?_
          refine jn Y Y Y Y Y ?_
          refine g_k Y Y Y Y (ye Y Y Y (jt ?_))
          obtain rfl := sj hm
          exact jj () (trivial) (sE Y) (fun w hh => hh)
         replace hm := ifE h56 hm
         refine g_k Y Y Y Y (g_k Y Y Y Y (g_k Y Y Y Y ?_))
         refine jn Y Y Y Y Y ?_
         refine jn Y Y Y Y Y ?_
         refine jn Y Y Y Y Y ?_
         refine jn Y Y Y Y Y ?_
         refine jn Y Y Y Y Y ?_
         refine jn Y Y Y Y Y ?_
         refine jn Y Y Y Y Y ?_
         refine g_k Y Y Y Y (ye Y Y Y (jg Y Y (g_k Y Y Y Y (g_k Y Y Y Y (g_k Y Y Y Y (g_k Y Y Y Y (g_k Y Y Y Y ?_)))))))
         refine g_k Y Y Y Y ?_
         refine jn Y Y Y Y Y ?_
         refine jn Y Y Y Y Y ?_
         refine jn Y Y Y Y Y ?_
         refine jn Y Y Y Y Y ?_
         refine jn Y Y Y Y Y ?_
         refine jn Y Y Y Y Y ?_
         refine jn Y Y Y Y Y ?_
         refine g_k Y Y Y Y (ye Y Y Y (jt ?_))
         obtain rfl := sj hm
         exact jj () (trivial) (sE Y) (fun w hh => hh)
        replace hm := ifE h55 hm
        refine g_k Y Y Y Y (g_k Y Y Y Y (g_k Y Y Y Y (g_k Y Y Y Y (ye Y Y Y (jg Y Y (g_k Y Y Y Y (g_k Y Y Y Y ?_)))))))
        refine g_k Y Y Y Y ?_
        refine jn Y Y Y Y Y ?_
        refine jn Y Y Y Y Y ?_
        refine jn Y Y Y Y Y ?_
        refine jn Y Y Y Y Y ?_
        refine jn Y Y Y Y Y ?_
        refine jn Y Y Y Y Y ?_
        refine jn Y Y Y Y Y ?_
        refine g_k Y Y Y Y (ye Y Y Y (jg Y Y (g_k Y Y Y Y (g_k Y Y Y Y (g_k Y Y Y Y (g_k Y Y Y Y (g_k Y Y Y Y ?_)))))))
        refine g_k Y Y Y Y ?_
        refine jn Y Y Y Y Y ?_
        refine jn Y Y Y Y Y ?_
        refine jn Y Y Y Y Y ?_
        refine jn Y Y Y Y Y ?_
        refine jn Y Y Y Y Y ?_
        refine jn Y Y Y Y Y ?_
        refine jn Y Y Y Y Y ?_
        refine g_k Y Y Y Y (ye Y Y Y (jt ?_))
        obtain rfl := sj hm
        exact jj () (trivial) (sE Y) (fun w hh => hh)
       intro l_12 hj
       replace hm := h54
       refine jb ?_
       refine jv Y (fun h69 => ?_) (fun h69 => ?_)
       ·replace hm := ifT (h69) hm
        refine je (jg Y Y (jg Y Y (jg Y Y ?_)))
        obtain ⟨t97, h70, hm⟩ := bindO hm
        refine jc Y Y Y (fun w _ => J3 h70 (runUnderlying22 w) (sizeOf3 w) Y Y (vlen RI h35 Y) (vne h35)) ?_
        obtain ⟨r0, hr0, hm⟩ := bindO hm
        refine ZN RI 1 0 t56 (fun w => sizeOf3 w) Y Y Y Y h35 Y (Nat.add_zero _).symm Y h70 Y Y (Option.some.inj hr0) (fun h71 => ?_)
        refine kF (S' := [_, _]) (vs' := [_, _, _, _]) [0, 1] [0, 1, 2, 3] 0 Y Y Y Y (jt (jy ?_))
        obtain rfl := sj hm
        exact jj () (h71) (sE Y) (fun w hh => hh)
       replace hm := ifN h69 hm
       refine jx (jy ?_)
       obtain rfl := sj hm
       exact jj () (h35) (sE Y) (fun w hh => hh)
      intro l_8 hj
      have h40 := hj
      replace hm := h39
      refine jb (je ?_)
      obtain ⟨t98, h72, hm⟩ := bindO hm
      refine JY h72 Y Y Y (jg Y Y (jt ?_))
      obtain rfl := sj hm
      refine jb ?_
      exact jR _ () Y (h40) (sE Y) (fun w hh => hh)
     replace hm := ifE h37 hm
     refine kQ (jl (jl (jS ?_)))
     obtain rfl := sj hm
     have hbo := h36 _ Y
     subst hbo
     exact jj () (h35) (sE Y) (hsE [0, 1] [0, 1] 0 Y Y Y Y)
    intro l_6 hj
    have h34 := hj
    replace hm := h33
    refine jb (je (jg Y Y (jg Y Y ?_)))
    refine qo RwH [(⟨l_3.q, l_3.n, l_3.cap, l_3.sp⟩ : VL)] (ps := [(0, _)]) (cells := [_]) (fun w => runUnderlying41 w) (fun w => sizeOf22 w) (fun w => zeroValue22 w) Y Y Y Y Y Y Y Y (fun L_2 h73 => ?_)
    refine Q9 (E2 := 3) RI 1 (Y : _ = ([[]] : List (List Int))) (fun h74 => ?_)
    refine kF (S' := [_, _]) (vs' := [_, _, _]) [0, 1] [0, 2, 1] 0 Y Y Y Y ?_
    refine Ya RI (l' := [o_1.r0]) 0 l_3.n l_3.cap h74 h34 Y Y (fun h75 => ?_)
    have h76 : DOK RI [o_1.r0] [(⟨l_3.q, l_3.n, l_3.cap, l_3.sp⟩ : VL)] := h75
    refine YS (S' := [_, _]) (vs' := [⟨22, RwH.enc [(⟨l_3.q, l_3.n, l_3.cap, l_3.sp⟩ : VL)], L_2.sp, L_2.q, dbl 3 RI [o_1.r0] [(⟨l_3.q, l_3.n, l_3.cap, l_3.sp⟩ : VL)]⟩, ⟨22, RwH.enc l_2.rs, l_2.v.sp, l_2.v.q, dbl 3 RI s.out5 l_2.rs⟩]) [0, 1] [0, 1] 0 (by decide) (by decide) Y Y Y ?_
    obtain ⟨t102, h77, hm⟩ := bindO hm
    refine zR RwH 1 (appcL h77 (h16).len (h76).len) underlying41 Za Y Y Y Y Y h15 Y Y (vlen RwH h73 Y) (AOK.q (vne h73)) (fun w hh => (hh.vsegA 0 Y h73)) Y (fun L_3 h78 _ => ?_)
    refine kF (S' := [_, _]) (vs' := [_, _]) [0, 1] [0, 1] 0 Y Y Y Y (kF (S' := [_, _]) (vs' := [_, _]) [0, 1] [1, 0] 0 Y Y Y Y ?_)
    refine YE RI h16 h76 (appcO h77).1.symm (fun h79 => ?_)
    refine jm Y Y (jt (jy (jb (je ?_))))
    obtain ⟨t103, h80, hm⟩ := bindO hm
    refine JY h80 Y Y Y (jg Y Y (jt ?_))
    obtain rfl := sj hm
    refine jb ?_
    exact jR _ (⟨⟨L_3.q, L_3.n, L_3.cap, L_3.sp⟩, (l_2.rs ++ [(⟨l_3.q, l_3.n, l_3.cap, l_3.sp⟩ : VL)])⟩) Y (⟨h78, h79⟩) (sE Y) (hsE [1, 0] [0] 0 Y Y Y Y)
   replace hm := ifE h18 hm
   refine kQ (jl (jl (jS ?_)))
   obtain rfl := sj hm
   have hbo := h17 _ Y
   subst hbo
   exact jj l_2 (⟨h15, h16⟩) (sE Y) (fun w hh => hh)
  intro l_1 hj
  obtain ⟨h13, h14⟩ := hj
  replace hm := h12
  refine jb (js (jg Y Y (jm Y Y (jr (jw ?_)))))
  obtain rfl := sj hm
  refine jk Y (fun w hh => (.tmp Y .nil)) (fun w hh => ⟨l_1, rfl, ⟨h13, h14⟩, hh.se [1] [0] 4 Y Y Y rfl⟩)
structure ya where
  r0 : Channel
  b0_1 : Int
  b0_2 : Int
  r1 : (List (List Int))
structure qR where
  b0_1 : Int
  b0_2 : Int
  c10_fords : (List Int)
structure jQ where
  t22 : Int
  b0_1 : Int
  b0_2 : Int
  c10_fords : (List Int)
structure qS where
  b0_1 : Int
  b0_2 : Int
  c10_fords : (List Int)
structure qU where
  t46 : Bool
  b0_1 : Int
  b0_2 : Int
def qk (t15 : qw) (fords2 : Int) (b00 : (List Int)) (s : jQ) : Option (jQ ⊕ qR) :=
 if s.t22 < t15.r0 then
 (((if (s.c10_fords.length : Int) < fords2 then
 ((yy b00 s.b0_1 s.b0_2 3).bind fun t32 =>
 if t32.r0 = true then
 (some (⟨true, t32.h0_1, t32.h0_2⟩ : qU)) else
 ((subc t15.r0 1).bind fun t37 =>
 if s.t22 = t37 then
 (some (⟨(decide ((s.c10_fords.length : Int) = 0)), t32.h0_1, t32.h0_2⟩ : qU)) else
 (some (⟨false, t32.h0_1, t32.h0_2⟩ : qU)))) else
 (some (⟨false, s.b0_1, s.b0_2⟩ : qU))).bind fun o_2 =>
 if o_2.t46 = true then
 ((appc 8 s.c10_fords [s.t22]).bind fun t51 =>
 some (⟨o_2.b0_1, o_2.b0_2, t51⟩ : qS)) else
 (some (⟨o_2.b0_1, o_2.b0_2, s.c10_fords⟩ : qS))).bind fun o_1 =>
 (addc s.t22 1).bind fun t53 =>
 some (.inl (⟨t53, o_1.b0_1, o_1.b0_2, o_1.c10_fords⟩ : jQ))) else
 (some (.inr (⟨s.b0_1, s.b0_2, s.c10_fords⟩ : qR)))
structure zY where
  b0_1 : Int
  b0_2 : Int
  c10_sands : (List Sand)
structure qT where
  t56 : Int
  b0_1 : Int
  b0_2 : Int
  c10_sands : (List Sand)
structure KB where
  b0_1 : Int
  b0_2 : Int
  c10_sands : (List Sand)
def qe (t55 : qZ) (t15 : qw) (b00 : (List Int)) (s_1 : qT) : Option (qT ⊕ zY) :=
 if s_1.t56 < t55.r0 then
 ((subc t15.r0 1).bind fun t61 =>
 (jI b00 s_1.b0_1 s_1.b0_2 t61).bind fun t62 =>
 ((subc t15.r0 1).bind fun t68 =>
 (jI b00 t62.h0_1 t62.h0_2 4).bind fun t71 =>
 (addc t62.r0 t71.r0).bind fun t72 =>
 (q3 b00 t71.h0_1 t71.h0_2 1 2).bind fun t76 =>
 (appc 24 s_1.c10_sands [(⟨(⟨t62.r0, (min t68 t72)⟩ : Span), t76.r0⟩ : Sand)]).bind fun t79 =>
 some (⟨t76.h0_1, t76.h0_2, t79⟩ : KB)).bind fun o_4 =>
 (addc s_1.t56 1).bind fun t81 =>
 some (.inl (⟨t81, o_4.b0_1, o_4.b0_2, o_4.c10_sands⟩ : qT))) else
 (some (.inr (⟨s_1.b0_1, s_1.b0_2, s_1.c10_sands⟩ : zY)))
def ql (b00 : (List Int)) (b01 : Int) (b02 : Int) (cells1 : Int) (fords2 : Int) (tides3 : Int) : Option ya :=
 (q3 b00 b01 b02 3 cells1).bind fun t15 =>
 (jI b00 t15.h0_1 t15.h0_2 tides3).bind fun t18 =>
 (iterM FU (qk t15 fords2 b00) (⟨0, t18.h0_1, t18.h0_2, []⟩ : jQ)).bind fun o =>
 (jI b00 o.b0_1 o.b0_2 4).bind fun t55 =>
 (iterM FU (qe t55 t15 b00) (⟨0, t55.h0_1, t55.h0_2, []⟩ : qT)).bind fun o_3 =>
 (qr b00 o_3.b0_1 o_3.b0_2 (⟨t15.r0, t18.r0, o.c10_fords, o_3.c10_sands, []⟩ : Channel)).bind fun t85 =>
 some (⟨(⟨t15.r0, t18.r0, o.c10_fords, o_3.c10_sands, []⟩ : Channel), t85.b0_1, t85.b0_2, t85.r0⟩ : ya)
theorem K3 (b00 : (List Int)) (b01 : Int) (b02 : Int) (cells1 : Int) (fords2 : Int) (tides3 : Int) (pb : Nat) (qa0 : Option Addr) (na0 ca0 : Nat) (w : World) (hw : HV w (keys [kc pb #[.slice qa0 na0 ca0, .int .i64 b01, .int .u32 b02] 199] []) [kc pb #[.slice qa0 na0 ca0, .int .i64 b01, .int .u32 b02] 199] [] [(aB qa0, aO qa0, RU8.enc b00)] w) (hna0 : b00.length = na0) (hqa0 : AOK na0 qa0) (hla0 : na0 ≤ ca0) {res : ya} (hm : ql b00 b01 b02 cells1 fords2 tides3 = some res) :
    Calls Tryz.prog 61 #[ptr pb 0, .int .i64 cells1, .int .i64 fords2, .int .i64 tides3] w (fun en w' => ∃ l : VL × VL × VL × DL, en = .returned (.tuple #[.agg #[.int .i64 res.r0.cells, .int .i64 res.r0.tides, sL l.1, sL l.2.1, sL l.2.2.1], sL l.2.2.2.v]) ∧ (VOK 1 l.1.n l.1.cap (RI.enc res.r0.fords) l.1.sp l.1.q ∧ VOK 3 l.2.1.n l.2.1.cap (RSa.enc res.r0.sands) l.2.1.sp l.2.1.q ∧ VOK 3 l.2.2.1.n l.2.2.1.cap (RSi.enc res.r0.sights) l.2.2.1.sp l.2.2.1.q ∧ VOK 1 l.2.2.2.v.n l.2.2.2.v.cap (RwH.enc l.2.2.2.rs) l.2.2.2.v.sp l.2.2.2.v.q ∧ DOK RI res.r1 l.2.2.2.rs) ∧ HV w (keys [kc pb #[.slice qa0 na0 ca0, .int .i64 b01, .int .u32 b02] 199] []) [kc pb #[.slice qa0 na0 ca0, .int .i64 res.b0_1, .int .u32 res.b0_2] 199] [vL 3 l.1 (RI.enc res.r0.fords), vL 98 l.2.1 (RSa.enc res.r0.sands), vL 55 l.2.2.1 (RSi.enc res.r0.sights), ⟨22, RwH.enc l.2.2.2.rs, l.2.2.2.v.sp, l.2.2.2.v.q, dbl 3 RI res.r1 l.2.2.2.rs⟩] [] w') := by
  unfold ql at hm
  refine yb func61 Y ntmps61 Y (e := [(0, _), (1, _), (2, _), (3, _)]) Y hw (js ?_)
  refine ju (fun w => zeroValue26 w) Y (fun b h6 => ?_)
  refine jc Y Y Y (fun _ _ => qV Y) (k6 (jg Y Y (jg Y Y ?_)))
  obtain ⟨t15, h7, hm⟩ := bindO hm
  refine kF (S' := [_, _]) (vs' := []) [1, 0] [] 0 Y Y Y Y ?_
  refine jd [_] [] Y Y Y Y Y Y Y call145 (fun w hh => JS b00 b01 b02 3 cells1 pb qa0 na0 ca0 w (HV.callee (S0 := [_]) (vs0 := []) hh (roR hh 0 Y roN)) hna0 hqa0 hla0 h7) (fun l h8 => ?_)
  refine kF (S' := [_, _]) (vs' := []) [0, 1] [] 0 Y Y Y Y (jg Y Y (jg Y Y ?_))
  obtain ⟨t18, h9, hm⟩ := bindO hm
  refine jd [_] [] Y Y Y Y Y Y Y call146 (fun w hh => jV b00 t15.h0_1 t15.h0_2 tides3 pb qa0 na0 ca0 w (HV.callee (S0 := [_]) (vs0 := []) hh (roR hh 0 Y roN)) hna0 hqa0 hla0 h9) (fun l_1 h10 => ?_)
  refine kF (S' := [_, _]) (vs' := []) [0, 1] [] 0 Y Y Y Y (jc Y Y Y (fun _ _ => kk (vs := [(0, _), (1, _)]) (cells := [_, _, _, _, _]) Y Y) ?_)
  refine ju (fun w => zeroValue26 w) Y (fun b_1 h11 => ?_)
  refine j7 (us := #[_, _, _, _, _]) (cs' := [_, _, _, _, _]) (S' := [_, _, _]) 0 (fun w => sizeOf26 w) Y Y Y Y Y Y Y (jr (ji (js (qK 0 runUnderlying26 Y sizeOf3 Y Y (qu 0 isAgg3 Y Y Y Y (jg Y Y (jr ?_)))))))
  refine qW 3 ?_
  obtain ⟨o, h12, h13⟩ := bindO hm
  refine ki (ι := VL) (fun l_2 => VOK 1 l_2.n l_2.cap (RI.enc o.c10_fords) l_2.sp l_2.q) (fun l_2 => [(0, ptr pb 0), (8, ptr b 0), (10, ptr b_1 0)]) (fun l_2 => [kc b_1 #[.int .i64 t15.r0, .int .i64 t18.r0, sL l_2, slv none 0 0, slv none 0 0] 26, kc pb #[.slice qa0 na0 ca0, .int .i64 o.b0_1, .int .u32 o.b0_2] 199, kc b #[.int .i64 0, .int .i64 0, slv none 0 0, slv none 0 0, slv none 0 0] 26]) (fun l_2 => [vL 3 l_2 (RI.enc o.c10_fords)]) ?_ ?_
  ·replace hm := h12
   refine jq ?_
   refine kC (ι := VL) hm (fun s l_3 => VOK 1 l_3.n l_3.cap (RI.enc s.c10_fords) l_3.sp l_3.q) (fun s l_3 => [(0, ptr pb 0), (2, .int .i64 fords2), (8, ptr b 0), (10, ptr b_1 0), (21, .int .i64 t15.r0), (22, .int .i64 s.t22)]) (fun s l_3 => [kc b_1 #[.int .i64 t15.r0, .int .i64 t18.r0, sL l_3, slv none 0 0, slv none 0 0] 26, kc pb #[.slice qa0 na0 ca0, .int .i64 s.b0_1, .int .u32 s.b0_2] 199, kc b #[.int .i64 0, .int .i64 0, slv none 0 0, slv none 0 0, slv none 0 0] 26]) (fun s l_3 => [vL 3 l_3 (RI.enc s.c10_fords)]) ⟨none, 0, 0, []⟩ (VOK.nil) (sE Y) (fun w hh => hh) (fun s l_3 r hpl hm h16 => ?_)
   have h15 := hpl
   unfold qk at hm
   refine js (JC Y Y Y (jr (ji ?_)))
   refine jv Y (fun h17 => ?_) (fun h17 => ?_)
   ·replace hm := ifD h17 hm
    refine jx (jb (ji ?_))
    obtain ⟨o_1, h18, h19⟩ := bindO hm
    refine ki (ι := VL) (fun l_4 => VOK 1 l_4.n l_4.cap (RI.enc o_1.c10_fords) l_4.sp l_4.q) (fun l_4 => [(0, ptr pb 0), (2, .int .i64 fords2), (8, ptr b 0), (10, ptr b_1 0), (21, .int .i64 t15.r0), (22, .int .i64 s.t22)]) (fun l_4 => [kc b_1 #[.int .i64 t15.r0, .int .i64 t18.r0, sL l_4, slv none 0 0, slv none 0 0] 26, kc pb #[.slice qa0 na0 ca0, .int .i64 o_1.b0_1, .int .u32 o_1.b0_2] 199, kc b #[.int .i64 0, .int .i64 0, slv none 0 0, slv none 0 0, slv none 0 0] 26]) (fun l_4 => [vL 3 l_4 (RI.enc o_1.c10_fords)]) ?_ ?_
    ·replace hm := h18
     refine jq (js (jg Y Y (jm Y Y (jr (ji ?_)))))
     obtain ⟨o_2, h21, h22⟩ := bindO hm
     refine ki (ι := Unit) (fun l_5 => True) (fun l_5 => [(0, ptr pb 0), (2, .int .i64 fords2), (8, ptr b 0), (10, ptr b_1 0), (11, .int .i64 s.t22), (21, .int .i64 t15.r0), (22, .int .i64 s.t22), (46, .bool o_2.t46)]) (fun l_5 => [kc b_1 #[.int .i64 t15.r0, .int .i64 t18.r0, sL l_3, slv none 0 0, slv none 0 0] 26, kc pb #[.slice qa0 na0 ca0, .int .i64 o_2.b0_1, .int .u32 o_2.b0_2] 199, kc b #[.int .i64 0, .int .i64 0, slv none 0 0, slv none 0 0, slv none 0 0] 26]) (fun l_5 => [vL 3 l_3 (RI.enc s.c10_fords)]) ?_ ?_
     ·replace hm := h21
      refine je (qK 2 runUnderlying26 Y sizeOf22 Y Y (qu 0 isAgg22 Y Y Y Y (jc Y Y Y (fun w _ => J8 (vlen RI h15 Y) (runUnderlying22 w) Y) (jg Y Y (JC Y Y Y (jg Y Y ?_))))))
      refine jK 30 Y (fun h23 => ?_) (fun h23 => ?_)
      ·replace hm := ifD h23 hm
       refine ja Y Y (jg Y Y (ja Y Y ?_))
       obtain ⟨t32, h24, hm⟩ := bindO hm
       refine kF (S' := [_, _, _]) (vs' := [_]) [1, 0, 2] [0] 0 Y Y Y Y ?_
       refine jd [_] [] Y Y Y Y Y Y Y call68 (fun w hh => KV b00 s.b0_1 s.b0_2 3 pb qa0 na0 ca0 w (HV.callee (S0 := [_]) (vs0 := []) hh (roR hh 0 Y roN)) hna0 hqa0 hla0 h24) (fun l_6 h25 => ?_)
       refine kF (S' := [_, _, _]) (vs' := [_]) [0, 1, 2] [0] 0 Y Y Y Y (ja Y Y (jg Y Y ?_))
       refine jK 33 Y (fun h26 => ?_) (fun h26 => ?_)
       ·replace hm := ifT (h26) hm
        refine g_k Y Y Y Y (g_k Y Y Y Y (g_k Y Y Y Y (g_k Y Y Y Y (g_k Y Y Y Y (g_k Y Y Y Y ?_)))))
        refine jn Y Y Y Y Y ?_
        refine jn Y Y Y Y Y ?_
        refine jn Y Y Y Y Y ?_
        refine jn Y Y Y Y Y ?_
        refine g_k Y Y Y Y (ja Y Y (qQ Y Y Y (qQ Y Y Y (jt ?_))))
        obtain rfl := sj hm
        exact jj () (trivial) (sE Y) (hsE [1, 0, 2] [0] 0 Y Y Y Y)
       replace hm := ifN h26 hm
       refine ja Y Y (jg Y Y (ja Y Y (qK 0 runUnderlying26 Y sizeOf3 Y Y (ja Y Y (qu 1 isAgg3 Y Y Y Y (ja Y Y ?_))))))
       obtain ⟨t37, h27, hm⟩ := bindO hm
       refine jc Y Y Y (fun _ _ => yE h27 Y Y) (ja Y Y (jc Y Y Y (fun _ _ => zi Y Y) (ja Y Y (jg Y Y ?_))))
       refine jK 39 Y (fun h28 => ?_) (fun h28 => ?_)
       ·replace hm := ifD h28 hm
        refine ja Y Y (qK 2 runUnderlying26 Y sizeOf22 Y Y (ja Y Y (qu 1 isAgg22 Y Y Y Y (ja Y Y (jc Y Y Y (fun w _ => J8 (vlen RI h15 Y) (runUnderlying22 w) Y) (ja Y Y (jc Y Y Y (fun _ _ => zi Y Y) ?_)))))))
        refine ja Y Y (qQ Y Y Y (ja Y Y (ye Y Y Y (qQ Y Y Y (jt ?_)))))
        obtain rfl := sj hm
        exact jj () (trivial) (sE Y) (hsE [1, 0, 2] [0] 0 Y Y Y Y)
       replace hm := ifE h28 hm
       refine g_k Y Y Y Y (g_k Y Y Y Y (g_k Y Y Y Y (g_k Y Y Y Y (ja Y Y (ye Y Y Y (ja Y Y (ye Y Y Y ?_)))))))
       refine qQ Y Y Y (jt ?_)
       obtain rfl := sj hm
       exact jj () (trivial) (sE Y) (hsE [1, 0, 2] [0] 0 Y Y Y Y)
      replace hm := ifE h23 hm
      refine g_k Y Y Y Y (g_k Y Y Y Y (g_k Y Y Y Y ?_))
      refine jn Y Y Y Y Y ?_
      refine jn Y Y Y Y Y ?_
      refine jn Y Y Y Y Y ?_
      refine jn Y Y Y Y Y ?_
      refine jn Y Y Y Y Y ?_
      refine jn Y Y Y Y Y ?_
      refine jn Y Y Y Y Y ?_
      refine jn Y Y Y Y Y ?_
      refine jn Y Y Y Y Y ?_
      refine jn Y Y Y Y Y ?_
      refine jn Y Y Y Y Y ?_
      refine g_k Y Y Y Y (ye Y Y Y (jt ?_))
      obtain rfl := sj hm
      exact jj () (trivial) (sE Y) (fun w hh => hh)
     intro l_5 hj
     replace hm := h22
     refine jb ?_
     refine jv Y (fun h29 => ?_) (fun h29 => ?_)
     ·replace hm := ifT (h29) hm
      refine je (qK 2 runUnderlying26 Y sizeOf22 Y Y (qu 0 isAgg22 Y Y Y Y (jg Y Y ?_)))
      refine qo RI [s.t22] (ps := [(0, _)]) (cells := [_]) (fun w => runUnderlying22 w) (fun w => sizeOf3 w) (fun w => zeroValue3 w) Y Y Y Y Y Y Y Y (fun L h30 => ?_)
      obtain ⟨t51, h31, hm⟩ := bindO hm
      refine zR RI 1 h31 underlying22 Qa Y Y Y Y Y h15 Y Y (vlen RI h30 Y) (AOK.q (vne h30)) (fun w hh => (hh.vsegA 0 Y h30)) Y (fun L_1 h32 h32n => ?_)
      refine kF (S' := [_, _, _]) (vs' := [_, _]) [0, 1, 2] [0, 1] 0 Y Y Y Y (qK 2 runUnderlying26 Y sizeOf22 Y Y (yc (cs' := #[_, _, _, _, _]) (S' := [_, _, _]) 0 (fun w => sizeOf22 w) Y Y Y Y Y Y Y (jt (jy ?_))))
      obtain rfl := sj hm
      exact jj L_1 (h32) (sE Y) (hsE [0, 1, 2] [1] 0 Y Y Y Y)
     replace hm := ifN h29 hm
     refine jx (jy ?_)
     obtain rfl := sj hm
     exact jj l_3 (h15) (sE Y) (fun w hh => hh)
    intro l_4 hj
    have h20 := hj
    replace hm := h19
    refine jb (je ?_)
    obtain ⟨t53, h33, hm⟩ := bindO hm
    refine JY h33 Y Y Y (jg Y Y (jt ?_))
    obtain rfl := sj hm
    refine jb ?_
    exact jR _ l_4 Y (h20) (sE Y) (fun w hh => hh)
   replace hm := ifE h17 hm
   refine kQ (jl (jl (jS ?_)))
   obtain rfl := sj hm
   have hbo := h16 _ Y
   subst hbo
   exact jj l_3 (h15) (sE Y) (fun w hh => hh)
  intro l_2 hj
  have h14 := hj
  replace hm := h13
  refine jb (ji (js (jg Y Y ?_)))
  obtain ⟨t55, h34, hm⟩ := bindO hm
  refine kF (S' := [_, _, _]) (vs' := [_]) [1, 0, 2] [0] 0 Y Y Y Y ?_
  refine jd [_] [] Y Y Y Y Y Y Y call146 (fun w hh => jV b00 o.b0_1 o.b0_2 4 pb qa0 na0 ca0 w (HV.callee (S0 := [_]) (vs0 := []) hh (roR hh 0 Y roN)) hna0 hqa0 hla0 h34) (fun l_7 h35 => ?_)
  refine kF (S' := [_, _, _]) (vs' := [_]) [0, 1, 2] [0] 0 Y Y Y Y (jg Y Y (jr (qW 98 ?_)))
  obtain ⟨o_3, h36, h37⟩ := bindO hm
  refine ki (ι := VL) (fun l_8 => VOK 3 l_8.n l_8.cap (RSa.enc o_3.c10_sands) l_8.sp l_8.q) (fun l_8 => [(0, ptr pb 0), (8, ptr b 0), (10, ptr b_1 0)]) (fun l_8 => [kc pb #[.slice qa0 na0 ca0, .int .i64 o_3.b0_1, .int .u32 o_3.b0_2] 199, kc b_1 #[.int .i64 t15.r0, .int .i64 t18.r0, sL l_2, sL l_8, slv none 0 0] 26, kc b #[.int .i64 0, .int .i64 0, slv none 0 0, slv none 0 0, slv none 0 0] 26]) (fun l_8 => [vL 3 l_2 (RI.enc o.c10_fords), vL 98 l_8 (RSa.enc o_3.c10_sands)]) ?_ ?_
  ·replace hm := h36
   refine jq ?_
   refine kC (ι := VL) hm (fun s_1 l_9 => VOK 3 l_9.n l_9.cap (RSa.enc s_1.c10_sands) l_9.sp l_9.q) (fun s_1 l_9 => [(0, ptr pb 0), (8, ptr b 0), (10, ptr b_1 0), (55, .int .i64 t55.r0), (56, .int .i64 s_1.t56)]) (fun s_1 l_9 => [kc pb #[.slice qa0 na0 ca0, .int .i64 s_1.b0_1, .int .u32 s_1.b0_2] 199, kc b_1 #[.int .i64 t15.r0, .int .i64 t18.r0, sL l_2, sL l_9, slv none 0 0] 26, kc b #[.int .i64 0, .int .i64 0, slv none 0 0, slv none 0 0, slv none 0 0] 26]) (fun s_1 l_9 => [vL 3 l_2 (RI.enc o.c10_fords), vL 98 l_9 (RSa.enc s_1.c10_sands)]) ⟨none, 0, 0, []⟩ (VOK.nil) (sE Y) (hsE [0, 1, 2] [1, 0] 0 Y Y Y Y) (fun s_1 l_9 r_1 hpl hm h40 => ?_)
   have h39 := hpl
   unfold qe at hm
   refine js (JC Y Y Y (jr (ji ?_)))
   refine jv Y (fun h41 => ?_) (fun h41 => ?_)
   ·replace hm := ifD h41 hm
    refine jx (jb (ji (jq (js (jg Y Y (qK 0 runUnderlying26 Y sizeOf3 Y Y (qu 1 isAgg3 Y Y Y Y ?_)))))))
    obtain ⟨t61, h42, hm⟩ := bindO hm
    refine jc Y Y Y (fun _ _ => yE h42 Y Y) ?_
    obtain ⟨t62, h43, hm⟩ := bindO hm
    refine jd [_] [] Y Y Y Y Y Y Y call146 (fun w hh => jV b00 s_1.b0_1 s_1.b0_2 t61 pb qa0 na0 ca0 w (HV.callee (S0 := [_]) (vs0 := []) hh (roR hh 0 Y roN)) hna0 hqa0 hla0 h43) (fun l_10 h44 => ?_)
    refine kF (S' := [_, _, _]) (vs' := [_, _]) [0, 1, 2] [0, 1] 0 Y Y Y Y (jm Y Y (jr ?_))
    obtain ⟨o_4, h45, h46⟩ := bindO hm
    refine ki (ι := VL) (fun l_11 => VOK 3 l_11.n l_11.cap (RSa.enc o_4.c10_sands) l_11.sp l_11.q) (fun l_11 => [(0, ptr pb 0), (8, ptr b 0), (10, ptr b_1 0), (55, .int .i64 t55.r0), (56, .int .i64 s_1.t56)]) (fun l_11 => [kc pb #[.slice qa0 na0 ca0, .int .i64 o_4.b0_1, .int .u32 o_4.b0_2] 199, kc b_1 #[.int .i64 t15.r0, .int .i64 t18.r0, sL l_2, sL l_11, slv none 0 0] 26, kc b #[.int .i64 0, .int .i64 0, slv none 0 0, slv none 0 0, slv none 0 0] 26]) (fun l_11 => [vL 3 l_2 (RI.enc o.c10_fords), vL 98 l_11 (RSa.enc o_4.c10_sands)]) ?_ ?_
    ·replace hm := h45
     refine k8 (some 18) (.free 0 (.hoist 1 (.free 2 (.free 3 (.hoist 4 (.free 5 (.free 6 (.free 7 (.free 12 (.one 8 (.free 9 (.free 10 (.free 11 (.one 13 (.free 14 (.one 15 (.one 16 (.free 17 (.last 18 .done))))))))))))))))))) (HV _ _ [kc b_1 #[.int .i64 t15.r0, .int .i64 t18.r0, sL l_2, sL l_9, slv none 0 0] 26, kc b #[.int .i64 0, .int .i64 0, slv none 0 0, slv none 0 0, slv none 0 0] 26] [vL 3 l_2 (RI.enc o.c10_fords)] _) Y (by decide +kernel) (fun w k hh => hh.draw k) (hsE [1, 2] [0] 0 Y Y Y Y) ?_
     refine Kt 3 runUnderlying26 sizeOf23 Y Y Y Y (KP 0 isAgg23 Y Y Y Y Y (zd Y Y Y (Kt 0 runUnderlying26 sizeOf3 Y Y Y Y (KP 0 isAgg3 Y Y Y Y Y ?_))))
     obtain ⟨t68, h48, hm⟩ := bindO hm
     refine jp Y Y Y Y (fun _ _ => yE h48 Y Y) (zd Y Y Y (zd Y Y Y (zd Y Y Y (jF Y ?_))))
     obtain ⟨t71, h49, hm⟩ := bindO hm
     refine jd [_] [] Y Y Y Y Y Y Y call146 (fun w hh => jV b00 t62.h0_1 t62.h0_2 4 pb qa0 na0 ca0 w (HV.callee (S0 := [_]) (vs0 := []) hh (roR hh 0 Y roN)) hna0 hqa0 hla0 h49) (fun l_12 h50 => ?_)
     refine kF (S' := [_, _, _]) (vs' := [_, _]) [0, 1, 2] [0, 1] 0 Y Y Y Y (jo (hsE [1, 2] [0] 0 Y Y Y Y) ?_)
     obtain ⟨t72, h51, hm⟩ := bindO hm
     refine jp Y Y Y Y (fun _ _ => JV h51 Y Y) (jp Y Y Y Y (fun _ _ => ZO Y Y) (jp Y Y Y Y (fun _ _ => kk (vs := [(0, _), (1, _)]) (cells := [_, _]) Y Y) (jF Y ?_)))
     obtain ⟨t76, h52, hm⟩ := bindO hm
     refine jd [_] [] Y Y Y Y Y Y Y call145 (fun w hh => JS b00 t71.h0_1 t71.h0_2 1 2 pb qa0 na0 ca0 w (HV.callee (S0 := [_]) (vs0 := []) hh (roR hh 0 Y roN)) hna0 hqa0 hla0 h52) (fun l_13 h53 => ?_)
     refine kF (S' := [_, _, _]) (vs' := [_, _]) [0, 1, 2] [0, 1] 0 Y Y Y Y (jo (hsE [1, 2] [0] 0 Y Y Y Y) (jp Y Y Y Y (fun _ _ => kk (vs := [(0, _), (1, _)]) (cells := [_, _, _]) Y Y) (jF Y ?_)))
     refine qo RSa [(⟨(⟨t62.r0, (min t68 t72)⟩ : Span), t76.r0⟩ : Sand)] (ps := [(0, _)]) (cells := [_, _, _]) (fun w => runUnderlying23 w) (fun w => sizeOf98 w) (fun w => zeroValue98 w) Y Y Y Y Y Y Y Y (fun L_2 h54 => ?_)
     refine jo (hsE [1, 2] [1] 0 Y Y Y Y) (jF Y ?_)
     obtain ⟨t79, h55, hm⟩ := bindO hm
     refine zR RSa 2 h55 underlying23 Y6 Y Y Y Y Y h39 Y Y (vlen RSa h54 Y) (AOK.q (vne h54)) (fun w hh => (hh.vsegA 0 Y h54)) Y (fun L_3 h56 h56n => ?_)
     refine kF (S' := [_, _, _]) (vs' := [_, _, _]) [0, 1, 2] [0, 1, 2] 0 Y Y Y Y (jo (hsE [1, 2] [1] 0 Y Y Y Y) (Kt 3 runUnderlying26 sizeOf23 Y Y Y Y (Yf Y (yc (cs' := #[_, _, _, _, _]) (S' := [_, _, _]) 1 (fun w => sizeOf23 w) Y Y Y Y Y Y Y (QC (kb ?_))))))
     obtain rfl := sj hm
     exact jj L_3 (h56) (sE Y) (hsE [0, 1, 2] [1, 2] 0 Y Y Y Y)
    intro l_11 hj
    have h47 := hj
    replace hm := h46
    refine jy (jb (je ?_))
    obtain ⟨t81, h57, hm⟩ := bindO hm
    refine JY h57 Y Y Y (jg Y Y (jt ?_))
    obtain rfl := sj hm
    refine jb ?_
    exact jR _ l_11 Y (h47) (sE Y) (fun w hh => hh)
   replace hm := ifE h41 hm
   refine kQ (jl (jl (jS ?_)))
   obtain rfl := sj hm
   have hbo := h40 _ Y
   subst hbo
   exact jj l_9 (h39) (sE Y) (fun w hh => hh)
  intro l_8 hj
  have h38 := hj
  replace hm := h37
  refine jb (ji ?_)
  refine k8 none (.hoist 0 (.free 1 (.hoist 2 (.one 3 (.one 4 (.free 5 .done)))))) (HV _ _ [kc b_1 #[.int .i64 t15.r0, .int .i64 t18.r0, sL l_2, sL l_8, slv none 0 0] 26] [vL 3 l_2 (RI.enc o.c10_fords), vL 98 l_8 (RSa.enc o_3.c10_sands)] _) Y (by decide +kernel) (fun w k hh => hh.draw k) (hsE [1] [0, 1] 0 Y Y Y Y) ?_
  refine jz Y Y Y Y (fun w hh => jJ (vs := [_, _, _, _, _]) (isAgg26 w) (sizeOf26 w) Y (hh.cells 0 Y Y)) (zd Y Y Y (jz Y Y Y Y (fun w hh => jJ (vs := [_, _, _, _, _]) (isAgg26 w) (sizeOf26 w) Y (hh.cells 0 Y Y)) (jF Y ?_)))
  obtain ⟨t85, h58, hm⟩ := bindO hm
  refine jd [_] [] Y Y Y Y Y Y Y call78 (fun w hh => KO b00 o_3.b0_1 o_3.b0_2 (⟨t15.r0, t18.r0, o.c10_fords, o_3.c10_sands, []⟩ : Channel) pb qa0 na0 ca0 (qA l_2.q) l_2.n l_2.cap (qA l_8.q) l_8.n l_8.cap none 0 0 w (HV.callee (S0 := [_]) (vs0 := []) hh (roR hh 0 Y (roC (hh.vsepA 0 Y h14) (roC (hh.vsepA 1 Y h38) (roC ⟨segOK.nil, fun hx => absurd Y hx⟩ roN))))) hna0 hqa0 hla0 (vlen RI h14 Y) (AOK.q (vne h14)) (h14).hle (vlen RSa h38 Y) (AOK.q (vne h38)) (h38).hle Y AOK.nil (Nat.le_refl 0) h58) (fun l_14 h59 => ?_)
  obtain ⟨h60, h61⟩ := h59
  refine kF (S' := [_, _, _]) (vs' := [_, _, _]) [0, 1, 2] [0, 1, 2] 0 Y Y Y Y (jo (hsE [1] [1, 2] 0 Y Y Y Y) (jF Y (j7 (us := #[_, _, _, _, _]) (cs' := [_, _, _, _, _]) (S' := [_, _, _]) 2 (fun w => sizeOf26 w) Y Y Y Y Y Y Y (jo (hsE [1] [1, 2] 0 Y Y Y Y) (jp Y Y Y Y (fun _ _ => kx Y) (kb (jb ?_)))))))
  refine jw (qW 55 ?_)
  obtain rfl := sj hm
  refine jk Y (fun w hh => (.cell Y (loadVar_agg (vs := [_, _, _, _, _]) (isAgg26 _) (sizeOf26 _) (hh.cells 2 Y Y)) (.tmp Y .nil))) (fun w hh => ⟨(l_2, l_8, ⟨none, 0, 0, []⟩, l_14), rfl, ⟨h14, h38, VOK.nil, h60, h61⟩, hh.se [0] [2, 3, 0, 1] 1 Y Y Y rfl⟩)
structure q9 where
  b0_1 : Int
  b0_2 : Int
  r0 : (List Sight)
structure yJ where
  b0_1 : Int
  b0_2 : Int
  out9 : (List Sight)
structure kK where
  t14 : Int
  b0_1 : Int
  b0_2 : Int
  out9 : (List Sight)
structure KC where
  s10 : Sight
  b0_1 : Int
  b0_2 : Int
structure z7 where
  b0_1 : Int
  b0_2 : Int
  s10_cell : Int
def qd (t13 : qZ) (c1 : Channel) (b00 : (List Int)) (course2 : (List (List Int))) (s : kK) : Option (kK ⊕ yJ) :=
 if s.t14 < t13.r0 then
 (((subc c1.cells 1).bind fun t23 =>
 (jI b00 s.b0_1 s.b0_2 c1.tides).bind fun t19 =>
 (jI b00 t19.h0_1 t19.h0_2 t23).bind fun t24 =>
 some (⟨(⟨t19.r0, t24.r0, false⟩ : Sight), t24.h0_1, t24.h0_2⟩ : KC)).bind fun o_1 =>
 ((yy b00 o_1.b0_1 o_1.b0_2 2).bind fun t27 =>
 if t27.r0 = true then
 ((ix course2 o_1.s10.after).bind fun t31 =>
 (subc (c1.fords.length : Int) 1).bind fun t37 =>
 (jI b00 t27.h0_1 t27.h0_2 t37).bind fun t38 =>
 (ix t31 t38.r0).bind fun t39 =>
 some (⟨t38.h0_1, t38.h0_2, t39⟩ : z7)) else
 (some (⟨t27.h0_1, t27.h0_2, o_1.s10.cell⟩ : z7))).bind fun o_2 =>
 (ix course2 o_1.s10.after).bind fun t45 =>
 (j3 t45 o_2.s10_cell).bind fun t49 =>
 (appc 24 s.out9 [(⟨o_1.s10.after, o_2.s10_cell, t49⟩ : Sight)]).bind fun t54 =>
 (addc s.t14 1).bind fun t55 =>
 some (.inl (⟨t55, o_2.b0_1, o_2.b0_2, t54⟩ : kK))) else
 (some (.inr (⟨s.b0_1, s.b0_2, s.out9⟩ : yJ)))
def qm (b00 : (List Int)) (b01 : Int) (b02 : Int) (c1 : Channel) (course2 : (List (List Int))) (most3 : Int) : Option q9 :=
 (jI b00 b01 b02 most3).bind fun t13 =>
 (iterM FU (qd t13 c1 b00 course2) (⟨0, t13.h0_1, t13.h0_2, []⟩ : kK)).bind fun o =>
 some (⟨o.b0_1, o.b0_2, o.out9⟩ : q9)
theorem K5 (b00 : (List Int)) (b01 : Int) (b02 : Int) (c1 : Channel) (course2 : (List (List Int))) (most3 : Int) (pb : Nat) (qa0 : Option Addr) (na0 ca0 : Nat) (qa1 : Option Addr) (na1 ca1 : Nat) (qa2 : Option Addr) (na2 ca2 : Nat) (qa3 : Option Addr) (na3 ca3 : Nat) (qa4 : Option Addr) (na4 ca4 : Nat) (ar4 : List AL) (w : World) (hw : HV w (keys [kc pb #[.slice qa0 na0 ca0, .int .i64 b01, .int .u32 b02] 199] []) [kc pb #[.slice qa0 na0 ca0, .int .i64 b01, .int .u32 b02] 199] [] [(aB qa0, aO qa0, RU8.enc b00), (aB qa1, aO qa1, RI.enc c1.fords), (aB qa2, aO qa2, RSa.enc c1.sands), (aB qa3, aO qa3, RSi.enc c1.sights), (aB qa4, aO qa4, RwA.enc ar4)] w) (hna0 : b00.length = na0) (hqa0 : AOK na0 qa0) (hla0 : na0 ≤ ca0) (hna1 : c1.fords.length = na1) (hqa1 : AOK na1 qa1) (hla1 : na1 ≤ ca1) (hna2 : c1.sands.length = na2) (hqa2 : AOK na2 qa2) (hla2 : na2 ≤ ca2) (hna3 : c1.sights.length = na3) (hqa3 : AOK na3 qa3) (hla3 : na3 ≤ ca3) (hna4 : course2.length = na4) (hqa4 : AOK na4 qa4) (hla4 : na4 ≤ ca4) (hda4 : DRO course2 ar4) (hTa4 : ∀ t, t ∈ rsg RI course2 ar4 → segOK w t ∧ (t.2.2 ≠ [] → t.1 ∉ keys [kc pb #[.slice qa0 na0 ca0, .int .i64 b01, .int .u32 b02] 199] [])) {res : q9} (hm : qm b00 b01 b02 c1 course2 most3 = some res) :
    Calls Tryz.prog 67 #[ptr pb 0, .agg #[.int .i64 c1.cells, .int .i64 c1.tides, .slice qa1 na1 ca1, .slice qa2 na2 ca2, .slice qa3 na3 ca3], .slice qa4 na4 ca4, .int .i64 most3] w (fun en w' => ∃ l : VL, en = .returned (sL l) ∧ (VOK 3 l.n l.cap (RSi.enc res.r0) l.sp l.q) ∧ HV w (keys [kc pb #[.slice qa0 na0 ca0, .int .i64 b01, .int .u32 b02] 199] []) [kc pb #[.slice qa0 na0 ca0, .int .i64 res.b0_1, .int .u32 res.b0_2] 199] [vL 55 l (RSi.enc res.r0)] [] w') := by
  unfold qm at hm
  refine yb func67 Y ntmps67 Y (e := [(0, _), (1, _), (2, _), (3, _)]) Y hw (js ?_)
  refine jG Y Y (fun b h2 => ?_)
  refine jc Y Y Y (fun _ _ => qV Y) (k6 (jc Y Y Y (fun _ _ => qV Y) (jr (ji (js (jg Y Y (jg Y Y ?_)))))))
  obtain ⟨t13, h3, hm⟩ := bindO hm
  refine kF (S' := [_, _]) (vs' := []) [1, 0] [] 0 Y Y Y Y ?_
  refine jd [_] [] Y Y Y Y Y Y Y call146 (fun w hh => jV b00 b01 b02 most3 pb qa0 na0 ca0 w (HV.callee (S0 := [_]) (vs0 := []) hh (roR hh 0 Y roN)) hna0 hqa0 hla0 h3) (fun l h4 => ?_)
  refine kF (S' := [_, _]) (vs' := []) [0, 1] [] 0 Y Y Y Y (jg Y Y (jr (qW 55 ?_)))
  obtain ⟨o, h5, h6⟩ := bindO hm
  refine ki (ι := VL) (fun l_1 => VOK 3 l_1.n l_1.cap (RSi.enc o.out9) l_1.sp l_1.q) (fun l_1 => [(9, sL l_1)]) (fun l_1 => [kc pb #[.slice qa0 na0 ca0, .int .i64 o.b0_1, .int .u32 o.b0_2] 199, kc b #[.int .i64 c1.cells, .int .i64 c1.tides, .slice qa1 na1 ca1, .slice qa2 na2 ca2, .slice qa3 na3 ca3] 26]) (fun l_1 => [vL 55 l_1 (RSi.enc o.out9)]) ?_ ?_
  ·replace hm := h5
   refine jq ?_
   refine kC (ι := VL) hm (fun s l_2 => VOK 3 l_2.n l_2.cap (RSi.enc s.out9) l_2.sp l_2.q) (fun s l_2 => [(0, ptr pb 0), (2, .slice qa4 na4 ca4), (5, ptr b 0), (9, sL l_2), (13, .int .i64 t13.r0), (14, .int .i64 s.t14)]) (fun s l_2 => [kc pb #[.slice qa0 na0 ca0, .int .i64 s.b0_1, .int .u32 s.b0_2] 199, kc b #[.int .i64 c1.cells, .int .i64 c1.tides, .slice qa1 na1 ca1, .slice qa2 na2 ca2, .slice qa3 na3 ca3] 26]) (fun s l_2 => [vL 55 l_2 (RSi.enc s.out9)]) ⟨none, 0, 0, []⟩ (VOK.nil) (sE Y) (fun w hh => hh) (fun s l_2 r hpl hm h9 => ?_)
   have h8 := hpl
   unfold qd at hm
   refine js (JC Y Y Y (jr (ji ?_)))
   refine jv Y (fun h10 => ?_) (fun h10 => ?_)
   ·replace hm := ifD h10 hm
    refine jx (jb (ji (jq (ji ?_))))
    obtain ⟨o_1, h11, h12⟩ := bindO hm
    refine ki (ι := Nat) (fun l_3 => True) (fun l_3 => [(0, ptr pb 0), (2, .slice qa4 na4 ca4), (5, ptr b 0), (9, sL l_2), (10, ptr l_3 0), (13, .int .i64 t13.r0), (14, .int .i64 s.t14)]) (fun l_3 => [kc pb #[.slice qa0 na0 ca0, .int .i64 o_1.b0_1, .int .u32 o_1.b0_2] 199, kc b #[.int .i64 c1.cells, .int .i64 c1.tides, .slice qa1 na1 ca1, .slice qa2 na2 ca2, .slice qa3 na3 ca3] 26, kc l_3 #[.int .i64 o_1.s10.after, .int .i64 o_1.s10.cell, .bool o_1.s10.upright] 55]) (fun l_3 => [vL 55 l_2 (RSi.enc s.out9)]) ?_ ?_
    ·replace hm := h11
     obtain ⟨t23, h13, hm⟩ := bindO hm
     obtain ⟨t19, h14, hm⟩ := bindO hm
     obtain ⟨t24, h15, hm⟩ := bindO hm
     refine k8 none (.free 0 (.free 1 (.hoist 2 (.free 4 (.free 5 (.hoist 6 (.free 7 (.br (.alt 3 (.br (.alt 8 (.free 9 (.one 10 (.one 11 .done))) (.alt 10 (.one 8 (.free 9 (.one 11 .done))) .nil))) (.alt 10 (.one 3 (.one 8 (.free 9 (.one 11 .done)))) .nil)))))))))) (HV _ _ [kc b #[.int .i64 c1.cells, .int .i64 c1.tides, .slice qa1 na1 ca1, .slice qa2 na2 ca2, .slice qa3 na3 ca3] 26] [vL 55 l_2 (RSi.enc s.out9)] _) Y (by decide +kernel) (fun w k hh => hh.draw k) (hsE [1] [0] 0 Y Y Y Y) ?_
     refine zd Y Y Y (Kt 1 runUnderlying26 sizeOf3 Y Y Y Y (KP 0 isAgg3 Y Y Y Y Y (zd Y Y Y (Kt 0 runUnderlying26 sizeOf3 Y Y Y Y (KP 0 isAgg3 Y Y Y Y Y (jp Y Y Y Y (fun _ _ => yE h13 Y Y) (Ys ?_)))))))
     refine yX Y ?_ ?_
     ·refine jd [_] [] Y Y Y Y Y Y Y call146 (fun w hh => jV b00 s.b0_1 s.b0_2 c1.tides pb qa0 na0 ca0 w (HV.callee (S0 := [_]) (vs0 := []) hh (roR hh 0 Y roN)) hna0 hqa0 hla0 h14) (fun l_4 h16 => ?_)
      refine kF (S' := [_, _]) (vs' := [_]) [0, 1] [0] 0 Y Y Y Y (jo (hsE [1] [0] 0 Y Y Y Y) (Ys ?_))
      refine yX Y ?_ ?_
      ·refine jd [_] [] Y Y Y Y Y Y Y call146 (fun w hh => jV b00 t19.h0_1 t19.h0_2 t23 pb qa0 na0 ca0 w (HV.callee (S0 := [_]) (vs0 := []) hh (roR hh 0 Y roN)) hna0 hqa0 hla0 h15) (fun l_5 h17 => ?_)
       refine kF (S' := [_, _]) (vs' := [_]) [0, 1] [0] 0 Y Y Y Y (jo (hsE [1] [0] 0 Y Y Y Y) (jp Y Y Y Y (fun _ _ => kk (vs := [(0, _), (1, _)]) (cells := [_, _, _]) Y Y) (jF Y ?_)))
       refine ju (fun w => zeroValue55 w) Y (fun b_1 h18 => ?_)
       refine jo (hsE [2] [0] 0 Y Y Y Y) (jF Y (j7 (us := #[_, _, _]) (cs' := [_, _, _]) (S' := [_, _, _]) 0 (fun w => sizeOf55 w) Y Y Y Y Y Y Y (jo (hsE [2] [0] 0 Y Y Y Y) (kb ?_))))
       obtain rfl := sj hm
       exact jj b_1 (trivial) (sE Y) (hsE [1, 2, 0] [0] 0 Y Y Y Y)
      refine yX Y ?_ ?_
      refine ju (fun w => zeroValue55 w) Y (fun b_2 h19 => ?_)
      refine jo (hsE [2] [0] 0 Y Y Y Y) (jF Y (kF (S' := [_, _, _]) (vs' := [_]) [1, 0, 2] [0] 0 Y Y Y Y ?_))
      refine jd [_] [] Y Y Y Y Y Y Y call146 (fun w hh => jV b00 t19.h0_1 t19.h0_2 t23 pb qa0 na0 ca0 w (HV.callee (S0 := [_]) (vs0 := []) hh (roR hh 0 Y roN)) hna0 hqa0 hla0 h15) (fun l_6 h20 => ?_)
      refine kF (S' := [_, _, _]) (vs' := [_]) [0, 1, 2] [0] 0 Y Y Y Y (jo (hsE [2] [0] 0 Y Y Y Y) (jp Y Y Y Y (fun _ _ => kk (vs := [(0, _), (1, _)]) (cells := [_, _, _]) Y Y) (jF Y (j7 (us := #[_, _, _]) (cs' := [_, _, _]) (S' := [_, _, _]) 1 (fun w => sizeOf55 w) Y Y Y Y Y Y Y (jo (hsE [2] [0] 0 Y Y Y Y) (kb ?_))))))
      obtain rfl := sj hm
      exact jj b_2 (trivial) (sE Y) (hsE [0, 2, 1] [0] 0 Y Y Y Y)
      exact KQ
     refine yX Y ?_ ?_
     refine ju (fun w => zeroValue55 w) Y (fun b_3 h21 => ?_)
     refine jo (hsE [2] [0] 0 Y Y Y Y) (jF Y (kF (S' := [_, _, _]) (vs' := [_]) [1, 0, 2] [0] 0 Y Y Y Y ?_))
     refine jd [_] [] Y Y Y Y Y Y Y call146 (fun w hh => jV b00 s.b0_1 s.b0_2 c1.tides pb qa0 na0 ca0 w (HV.callee (S0 := [_]) (vs0 := []) hh (roR hh 0 Y roN)) hna0 hqa0 hla0 h14) (fun l_7 h22 => ?_)
     refine kF (S' := [_, _, _]) (vs' := [_]) [0, 1, 2] [0] 0 Y Y Y Y (jo (hsE [2] [0] 0 Y Y Y Y) (jF Y ?_))
     refine jd [_] [] Y Y Y Y Y Y Y call146 (fun w hh => jV b00 t19.h0_1 t19.h0_2 t23 pb qa0 na0 ca0 w (HV.callee (S0 := [_]) (vs0 := []) hh (roR hh 0 Y roN)) hna0 hqa0 hla0 h15) (fun l_8 h23 => ?_)
     refine kF (S' := [_, _, _]) (vs' := [_]) [0, 1, 2] [0] 0 Y Y Y Y (jo (hsE [2] [0] 0 Y Y Y Y) (jp Y Y Y Y (fun _ _ => kk (vs := [(0, _), (1, _)]) (cells := [_, _, _]) Y Y) (jF Y (j7 (us := #[_, _, _]) (cs' := [_, _, _]) (S' := [_, _, _]) 1 (fun w => sizeOf55 w) Y Y Y Y Y Y Y (jo (hsE [2] [0] 0 Y Y Y Y) (kb ?_))))))
     obtain rfl := sj hm
     exact jj b_3 (trivial) (sE Y) (hsE [0, 2, 1] [0] 0 Y Y Y Y)
     exact KQ
    intro l_3 hj
    replace hm := h12
    refine jb (ji ?_)
    obtain ⟨o_2, h24, h25⟩ := bindO hm
    refine ki (ι := Unit) (fun l_9 => True) (fun l_9 => [(0, ptr pb 0), (2, .slice qa4 na4 ca4), (5, ptr b 0), (9, sL l_2), (10, ptr l_3 0), (13, .int .i64 t13.r0), (14, .int .i64 s.t14)]) (fun l_9 => [kc pb #[.slice qa0 na0 ca0, .int .i64 o_2.b0_1, .int .u32 o_2.b0_2] 199, kc b #[.int .i64 c1.cells, .int .i64 c1.tides, .slice qa1 na1 ca1, .slice qa2 na2 ca2, .slice qa3 na3 ca3] 26, kc l_3 #[.int .i64 o_1.s10.after, .int .i64 o_2.s10_cell, .bool o_1.s10.upright] 55]) (fun l_9 => [vL 55 l_2 (RSi.enc s.out9)]) ?_ ?_
    ·replace hm := h24
     refine js (jg Y Y ?_)
     obtain ⟨t27, h26, hm⟩ := bindO hm
     refine jd [_] [] Y Y Y Y Y Y Y call68 (fun w hh => KV b00 o_1.b0_1 o_1.b0_2 2 pb qa0 na0 ca0 w (HV.callee (S0 := [_]) (vs0 := []) hh (roR hh 0 Y roN)) hna0 hqa0 hla0 h26) (fun l_10 h27 => ?_)
     refine kF (S' := [_, _, _]) (vs' := [_]) [0, 1, 2] [0] 0 Y Y Y Y (jr ?_)
     refine jv Y (fun h28 => ?_) (fun h28 => ?_)
     ·replace hm := ifT (h28) hm
      refine k8 (some 14) (.free 0 (.free 1 (.hoist 2 (.free 3 (.hoist 4 (.free 5 (.free 6 (.hoist 7 (.free 8 (.free 9 (.one 10 (.free 11 (.hoist 12 (.free 13 (.last 14 .done))))))))))))))) (HV _ _ [kc b #[.int .i64 c1.cells, .int .i64 c1.tides, .slice qa1 na1 ca1, .slice qa2 na2 ca2, .slice qa3 na3 ca3] 26, kc l_3 #[.int .i64 o_1.s10.after, .int .i64 o_1.s10.cell, .bool o_1.s10.upright] 55] [vL 55 l_2 (RSi.enc s.out9)] _) Y (by decide +kernel) (fun w k hh => hh.draw k) (hsE [1, 2] [0] 0 Y Y Y Y) ?_
      refine zd Y Y Y (Kt 0 runUnderlying55 sizeOf3 Y Y Y Y (KP 1 isAgg3 Y Y Y Y Y ?_))
      obtain ⟨t31, h29, hm⟩ := bindO hm
      obtain ⟨A, h30, h31, h32, h33⟩ := (hda4).row h29
      refine jp Y Y Y Y (fun w _ => zN h30 (runUnderlying41 w) (sizeOf22 w) Y Y (Eq.trans (hda4).len.symm hna4) hqa4) (jz Y Y Y Y (fun w hh => zh RwA 0 h30 (isAgg22 w) Y (hh.seg 4 Y) Y (Nat.add_zero _).symm) (zd Y Y Y (Kt 2 runUnderlying26 sizeOf22 Y Y Y Y (KP 0 isAgg22 Y Y Y Y Y (jp Y Y Y Y (fun w _ => k5 hna1 (runUnderlying22 w) Y) ?_)))))
      obtain ⟨t37, h34, hm⟩ := bindO hm
      refine jp Y Y Y Y (fun _ _ => yE h34 Y Y) (jF Y ?_)
      obtain ⟨t38, h35, hm⟩ := bindO hm
      refine jd [_] [] Y Y Y Y Y Y Y call146 (fun w hh => jV b00 t27.h0_1 t27.h0_2 t37 pb qa0 na0 ca0 w (HV.callee (S0 := [_]) (vs0 := []) hh (roR hh 0 Y roN)) hna0 hqa0 hla0 h35) (fun l_11 h36 => ?_)
      refine kF (S' := [_, _, _]) (vs' := [_]) [0, 1, 2] [0] 0 Y Y Y Y (jo (hsE [1, 2] [0] 0 Y Y Y Y) ?_)
      obtain ⟨t39, h37, hm⟩ := bindO hm
      refine jp Y Y Y Y (fun w _ => zN h37 (runUnderlying22 w) (sizeOf3 w) Y Y h31 h32) (jz Y Y Y Y (fun w hh => zh RI 0 h37 (isAgg3 w) Y (hh.oldseg (hTa4 _ (rsg_ix h29 h30))) Y (Nat.add_zero _).symm) (Kt 1 runUnderlying55 sizeOf3 Y Y Y Y (Yf Y (yc (cs' := #[_, _, _]) (S' := [_, _, _]) 2 (fun w => sizeOf3 w) Y Y Y Y Y Y Y (QC (kb ?_))))))
      obtain rfl := sj hm
      exact jj () (trivial) (sE Y) (fun w hh => hh)
     replace hm := ifN h28 hm
     refine jx ?_
     obtain rfl := sj hm
     exact jj () (trivial) (sE Y) (fun w hh => hh)
    intro l_9 hj
    replace hm := h25
    refine jb (ji ?_)
    refine k8 (some 9) (.free 0 (.free 1 (.hoist 2 (.free 3 (.hoist 4 (.free 5 (.hoist 6 (.one 7 (.free 8 (.last 9 .done)))))))))) _ Y (by decide +kernel) (fun w k hh => hh.draw k) (fun w hh => hh) ?_
    refine zd Y Y Y (Kt 0 runUnderlying55 sizeOf3 Y Y Y Y (KP 2 isAgg3 Y Y Y Y Y ?_))
    obtain ⟨t45, h38, hm⟩ := bindO hm
    obtain ⟨A_1, h39, h40, h41, h42⟩ := (hda4).row h38
    refine jp Y Y Y Y (fun w _ => zN h39 (runUnderlying41 w) (sizeOf22 w) Y Y (Eq.trans (hda4).len.symm hna4) hqa4) (jz Y Y Y Y (fun w hh => zh RwA 0 h39 (isAgg22 w) Y (hh.seg 4 Y) Y (Nat.add_zero _).symm) (Kt 1 runUnderlying55 sizeOf3 Y Y Y Y (KP 2 isAgg3 Y Y Y Y Y (jF Y ?_))))
    obtain ⟨t49, h43, hm⟩ := bindO hm
    refine jd [] [] Y Y Y Y Y Y Y call64 (fun w hh => yu t45 o_2.s10_cell A_1.a A_1.n A_1.cap w (HV.callee (S0 := []) (vs0 := []) hh (roC (hh.oldsep (S0 := []) (vs0 := []) (hTa4 _ (rsg_ix h38 h39))) roN)) h40 h41 h42 h43) (fun l_12 h44 => ?_)
    refine jo (fun w hh => hh) (Kt 2 runUnderlying55 sizeOf4 Y Y Y Y (Yf Y (yc (cs' := #[_, _, _]) (S' := [_, _, _]) 2 (fun w => sizeOf4 w) Y Y Y Y Y Y Y (QC (kb (jb (je ?_)))))))
    refine jg Y Y (zM [_, _, _] 2 isAgg55 sizeOf55 Y Y Y Y ?_)
    refine qo RSi [(⟨o_1.s10.after, o_2.s10_cell, t49⟩ : Sight)] (ps := [(0, _)]) (cells := [_, _, _]) (fun w => runUnderlying24 w) (fun w => sizeOf55 w) (fun w => zeroValue55 w) Y Y Y Y Y Y Y Y (fun L h45 => ?_)
    obtain ⟨t54, h46, hm⟩ := bindO hm
    refine zR RSi 1 h46 underlying24 YG Y Y Y Y Y h8 Y Y (vlen RSi h45 Y) (AOK.q (vne h45)) (fun w hh => (hh.vsegA 0 Y h45)) Y (fun L_1 h47 h47n => ?_)
    refine kF (S' := [_, _, _]) (vs' := [_, _]) [0, 1, 2] [0, 1] 0 Y Y Y Y (jm Y Y (jt (jy (jb (je ?_)))))
    obtain ⟨t55, h48, hm⟩ := bindO hm
    refine JY h48 Y Y Y (jg Y Y (jt ?_))
    obtain rfl := sj hm
    refine jb ?_
    exact jR _ L_1 Y (h47) (sE Y) (hsE [0, 1] [1] 0 Y Y Y Y)
   replace hm := ifE h10 hm
   refine kQ (jl (jl (jS ?_)))
   obtain rfl := sj hm
   have hbo := h9 _ Y
   subst hbo
   exact jj l_2 (h8) (sE Y) (fun w hh => hh)
  intro l_1 hj
  have h7 := hj
  replace hm := h6
  refine jb (js (jg Y Y (jm Y Y (jr (jw ?_)))))
  obtain rfl := sj hm
  refine jk Y (fun w hh => (.tmp Y .nil)) (fun w hh => ⟨l_1, rfl, h7, hh.se [0] [0] 5 Y Y Y rfl⟩)
end Go.Proofs.Wb

namespace Go.Proofs.Wb
set_option maxHeartbeats 4000000
set_option maxRecDepth 100000
open Go Go.Fw Go.Gx Go.Sb
open Tryz
set_option linter.unusedVariables false
def ks (t21 : ya) (t27 : q9) (t31 : yl) (t36 : yq) (s : Int) : Option (Int ⊕ (Unit ⊕ Bool)) :=
 if s < t21.r0.cells then
 ((zf (⟨t21.r0.cells, t21.r0.tides, t21.r0.fords, t21.r0.sands, t27.r0⟩ : Channel) (⟨t21.r0.tides, s, true⟩ : Sight)).bind fun t97 =>
 (k9 t97.r0).bind fun t102 =>
 (subc t31.r0 t102.r0).bind fun t108 =>
 (if t97.r1 = 0 then
 (if t102.r1 = 0 then
 (if (max t102.r0 t108) < t36.r1 then
 (some true) else
 (if s = t36.r0.cell then
 (if (max t102.r0 t108) = t36.r1 then
 (if (max t102.r0 t108) = t36.r1 then
 (some (decide (s < t36.r0.cell))) else
 (some false)) else
 (some true)) else
 (if (max t102.r0 t108) = t36.r1 then
 (some (decide (s < t36.r0.cell))) else
 (some false)))) else
 (some true)) else
 (some true)).bind fun o_3 =>
 if o_3 = true then
 (some (.inr (.inr false))) else
 ((addc s 1).bind fun t143 =>
 some (.inl t143))) else
 (some (.inr (.inl ())))
def qE (numbers0 : (List Int)) : Option Bool :=
 (QO numbers0).bind fun t18 =>
 (ql numbers0 t18.t5_1 t18.t5_2 9 2 3).bind fun t21 =>
 (qm numbers0 t21.b0_1 t21.b0_2 t21.r0 t21.r1 4).bind fun t27 =>
 (k9 (⟨t21.r0.cells, t21.r0.tides, t21.r0.fords, t21.r0.sands, t27.r0⟩ : Channel)).bind fun t31 =>
 (yF (⟨t21.r0.cells, t21.r0.tides, t21.r0.fords, t21.r0.sands, t27.r0⟩ : Channel)).bind fun t36 =>
 (if t31.r1 = 0 then
 (if t31.r0 < 1 then
 (some true) else
 (if (!((decide (t36.r2 = 6)) == (decide (t31.r0 = 1)))) = true then
 (some true) else
 (if t36.r2 = 0 then
 (some false) else
 (some (!decide (t36.r2 = 6)))))) else
 (some true)).bind fun o =>
 if o = true then
 (some false) else
 (if t36.r2 = 0 then
 ((if t36.r0.after = t21.r0.tides then
 (if (!t36.r0.upright) = true then
 (some true) else
 (if t36.r0.cell < 0 then
 (some true) else
 (some (decide (t21.r0.cells ≤ t36.r0.cell))))) else
 (some true)).bind fun o_1 =>
 if o_1 = true then
 (some false) else
 ((iterM FU (ks t21 t27 t31 t36) 0).bind fun o_2 =>
 oc o_2 (fun j => (q8).bind fun t144 =>
 some t144) (fun r_1 => some r_1))) else
 ((q8).bind fun t63 =>
 some t63))
theorem Ki (numbers0 : (List Int)) (qa0 : Option Addr) (na0 ca0 : Nat) (w : World) (hw : HV w (keys [] []) [] [] [(aB qa0, aO qa0, RU8.enc numbers0)] w) (hna0 : numbers0.length = na0) (hqa0 : AOK na0 qa0) (hla0 : na0 ≤ ca0) {res : Bool} (hm : qE numbers0 = some res) :
    Calls Tryz.prog 9 #[.slice qa0 na0 ca0] w (fun en w' => ∃ l : Unit, en = .returned (.bool res) ∧ (True) ∧ HV w (keys [] []) [] [] [] w') := by
  unfold qE at hm
  refine yb func9 Y ntmps9 Y (e := [(0, _)]) Y hw (js (jm Y Y (k6 (jg Y Y ?_))))
  obtain ⟨t18, h1, hm⟩ := bindO hm
  refine jd [] [] Y Y Y Y Y Y Y call62 (fun w hh => Zl numbers0 qa0 na0 ca0 w (HV.callee (S0 := []) (vs0 := []) hh (roR hh 0 Y roN)) hna0 hqa0 hla0 h1) (fun l h2 => ?_)
  refine kF (S' := [_]) (vs' := []) [0] [] 0 Y Y Y Y (jm Y Y (k6 (jg Y Y ?_)))
  obtain ⟨t21, h3, hm⟩ := bindO hm
  refine jd [_] [] Y Y Y Y Y Y Y call61 (fun w hh => K3 numbers0 t18.t5_1 t18.t5_2 9 2 3 l qa0 na0 ca0 w (HV.callee (S0 := [_]) (vs0 := []) hh (roR hh 0 Y roN)) hna0 hqa0 hla0 h3) (fun l_1 h4 => ?_)
  obtain ⟨h5, h6, h7, h8, h9⟩ := h4
  refine kF (S' := [_]) (vs' := [_, _, _, _]) [0] [0, 1, 2, 3] 0 Y Y Y Y (jg Y Y (za Y Y Y (za Y Y Y ?_)))
  refine ju (fun w => zeroValue26 w) Y (fun b h10 => ?_)
  refine j7 (us := #[_, _, _, _, _]) (cs' := [_, _, _, _, _]) (S' := [_, _]) 0 (fun w => sizeOf26 w) Y Y Y Y Y Y Y (jm Y Y (k6 (jg Y Y (zM [_, _, _, _, _] 0 isAgg26 sizeOf26 Y Y Y Y (jg Y Y ?_)))))
  obtain ⟨t27, h11, hm⟩ := bindO hm
  refine kF (S' := [_, _]) (vs' := [_, _, _, _]) [1, 0] [0, 1, 2, 3] 0 Y Y Y Y ?_
  refine jd [_] [] Y Y Y Y Y Y Y call67 (fun w hh => K5 numbers0 t21.b0_1 t21.b0_2 t21.r0 t21.r1 4 l qa0 na0 ca0 (qA l_1.1.q) l_1.1.n l_1.1.cap (qA l_1.2.1.q) l_1.2.1.n l_1.2.1.cap (qA l_1.2.2.1.q) l_1.2.2.1.n l_1.2.2.1.cap (qA l_1.2.2.2.v.q) l_1.2.2.2.v.n l_1.2.2.2.v.cap (toAL l_1.2.2.2.rs) w (HV.callee (S0 := [_]) (vs0 := []) hh (roR hh 0 Y (roC (hh.vsepA 0 Y h5) (roC (hh.vsepA 1 Y h6) (roC (hh.vsepA 2 Y h7) (roC (hh.vsepD 3 Y h8) roN)))))) hna0 hqa0 hla0 (vlen RI h5 Y) (AOK.q (vne h5)) (h5).hle (vlen RSa h6 Y) (AOK.q (vne h6)) (h6).hle (vlen RSi h7 Y) (AOK.q (vne h7)) (h7).hle (Eq.trans (h9).len (vlen RwH h8 Y)) (AOK.q (vne h8)) (h8).hle ((h9).toDRO Y) (hh.dsepT 3 Y h9) h11) (fun l_2 h12 => ?_)
  have h13 := h12
  refine kF (S' := [_, _]) (vs' := [_, _, _, _, _]) [0, 1] [0, 1, 2, 3, 4] 0 Y Y Y Y (qK 4 runUnderlying26 Y sizeOf24 Y Y (yc (cs' := #[_, _, _, _, _]) (S' := [_, _]) 1 (fun w => sizeOf24 w) Y Y Y Y Y Y Y (k6 (zM [_, _, _, _, _] 1 isAgg26 sizeOf26 Y Y Y Y ?_))))
  obtain ⟨t31, h14, hm⟩ := bindO hm
  refine jd [] [] Y Y Y Y Y Y Y call26 (fun w hh => Js (⟨t21.r0.cells, t21.r0.tides, t21.r0.fords, t21.r0.sands, t27.r0⟩ : Channel) (qA l_1.1.q) l_1.1.n l_1.1.cap (qA l_1.2.1.q) l_1.2.1.n l_1.2.1.cap (qA l_2.q) l_2.n l_2.cap w (HV.callee (S0 := []) (vs0 := []) hh (roC (hh.vsepA 1 Y h5) (roC (hh.vsepA 2 Y h6) (roC (hh.vsepA 0 Y h13) roN)))) (vlen RI h5 Y) (AOK.q (vne h5)) (h5).hle (vlen RSa h6 Y) (AOK.q (vne h6)) (h6).hle (vlen RSi h13 Y) (AOK.q (vne h13)) (h13).hle h14) (fun l_3 h15 => ?_)
  refine jg Y Y (za Y Y Y (za Y Y Y (jm Y Y (jm Y Y (k6 (zM [_, _, _, _, _] 1 isAgg26 sizeOf26 Y Y Y Y ?_))))))
  obtain ⟨t36, h16, hm⟩ := bindO hm
  refine jd [] [] Y Y Y Y Y Y Y call39 (fun w hh => QD (⟨t21.r0.cells, t21.r0.tides, t21.r0.fords, t21.r0.sands, t27.r0⟩ : Channel) (qA l_1.1.q) l_1.1.n l_1.1.cap (qA l_1.2.1.q) l_1.2.1.n l_1.2.1.cap (qA l_2.q) l_2.n l_2.cap w (HV.callee (S0 := []) (vs0 := []) hh (roC (hh.vsepA 1 Y h5) (roC (hh.vsepA 2 Y h6) (roC (hh.vsepA 0 Y h13) roN)))) (vlen RI h5 Y) (AOK.q (vne h5)) (h5).hle (vlen RSa h6 Y) (AOK.q (vne h6)) (h6).hle (vlen RSi h13 Y) (AOK.q (vne h13)) (h13).hle h16) (fun l_4 h17 => ?_)
  refine jg Y Y (za Y Y Y (za Y Y Y (za Y Y Y ?_)))
  refine ju (fun w => zeroValue55 w) Y (fun b_1 h18 => ?_)
  refine j7 (us := #[_, _, _]) (cs' := [_, _, _]) (S' := [_, _, _]) 0 (fun w => sizeOf55 w) Y Y Y Y Y Y Y (jm Y Y (jm Y Y (jr (ji (ji ?_)))))
  obtain ⟨o, h19, h20⟩ := bindO hm
  refine ki (ι := Unit) (fun l_5 => True) (fun l_5 => [(4, ptr b 0), (6, .int .i64 t31.r0), (8, ptr b_1 0), (9, .int .i64 t36.r1), (10, .int .i64 t36.r2), (60, .bool o)]) (fun l_5 => [kc b_1 #[.int .i64 t36.r0.after, .int .i64 t36.r0.cell, .bool t36.r0.upright] 55, kc l #[.slice qa0 na0 ca0, .int .i64 t27.b0_1, .int .u32 t27.b0_2] 199, kc b #[.int .i64 t21.r0.cells, .int .i64 t21.r0.tides, sL l_1.1, sL l_1.2.1, sL l_2] 26]) (fun l_5 => [vL 3 l_1.1 (RI.enc t21.r0.fords), vL 98 l_1.2.1 (RSa.enc t21.r0.sands), vL 55 l_2 (RSi.enc t27.r0)]) ?_ ?_
  ·replace hm := h19
   refine je (jg Y Y (jc Y Y Y (fun _ _ => zK Y Y) (jg Y Y ?_)))
   refine jK 42 Y (fun h21 => ?_) (fun h21 => ?_)
   ·replace hm := ifF (of_ndec_true h21) hm
    refine g_k Y Y Y Y (g_k Y Y Y Y (qQ Y Y Y (jg Y Y (g_k Y Y Y Y (g_k Y Y Y Y (g_k Y Y Y Y (g_k Y Y Y Y ?_)))))))
    refine g_k Y Y Y Y (qQ Y Y Y (jg Y Y (g_k Y Y Y Y (g_k Y Y Y Y (g_k Y Y Y Y ?_)))))
    refine jn Y Y Y Y Y ?_
    refine jn Y Y Y Y Y ?_
    refine g_k Y Y Y Y (qQ Y Y Y (jt ?_))
    obtain rfl := sj hm
    exact jj () (trivial) (sE Y) (hsE [0, 1, 2] [1, 2, 0] 0 Y Y Y Y)
   replace hm := ifT (of_ndec_false h21) hm
   refine ja Y Y (jg Y Y (ja Y Y (JC Y Y Y (ye Y Y Y (jg Y Y ?_)))))
   refine jK 46 Y (fun h22 => ?_) (fun h22 => ?_)
   ·replace hm := ifD h22 hm
    refine g_k Y Y Y Y (g_k Y Y Y Y (g_k Y Y Y Y (g_k Y Y Y Y (g_k Y Y Y Y (qQ Y Y Y (jg Y Y (g_k Y Y Y Y ?_)))))))
    refine g_k Y Y Y Y (g_k Y Y Y Y ?_)
    refine jn Y Y Y Y Y ?_
    refine jn Y Y Y Y Y ?_
    refine g_k Y Y Y Y (qQ Y Y Y (jt ?_))
    obtain rfl := sj hm
    exact jj () (trivial) (sE Y) (hsE [0, 1, 2] [1, 2, 0] 0 Y Y Y Y)
   replace hm := ifE h22 hm
   refine ja Y Y (jg Y Y (ja Y Y (jc Y Y Y (fun _ _ => zi Y Y) (ja Y Y (jg Y Y (ja Y Y (jc Y Y Y (fun _ _ => zi Y Y) ?_)))))))
   refine ja Y Y (jc Y Y Y (fun w _ => QX (runUnderlying4 w) Y Y) (ye Y Y Y (jg Y Y ?_)))
   refine jK 53 Y (fun h23 => ?_) (fun h23 => ?_)
   ·replace hm := ifT (h23) hm
    refine g_k Y Y Y Y (g_k Y Y Y Y (g_k Y Y Y Y ?_))
    refine jn Y Y Y Y Y ?_
    refine jn Y Y Y Y Y ?_
    refine g_k Y Y Y Y (qQ Y Y Y (jt ?_))
    obtain rfl := sj hm
    exact jj () (trivial) (sE Y) (hsE [0, 1, 2] [1, 2, 0] 0 Y Y Y Y)
   replace hm := ifN h23 hm
   refine ja Y Y (jg Y Y (ja Y Y (jc Y Y Y (fun _ _ => zK Y Y) (ja Y Y (jg Y Y ?_)))))
   refine jK 56 Y (fun h24 => ?_) (fun h24 => ?_)
   ·replace hm := ifF (of_ndec_true h24) hm
    refine ja Y Y (jg Y Y (ja Y Y (jc Y Y Y (fun _ _ => zK Y Y) (ja Y Y (qQ Y Y Y (ye Y Y Y (jt ?_)))))))
    obtain rfl := sj hm
    exact jj () (trivial) (sE Y) (hsE [0, 1, 2] [1, 2, 0] 0 Y Y Y Y)
   replace hm := ifT (of_ndec_false h24) hm
   refine g_k Y Y Y Y (g_k Y Y Y Y (ja Y Y (ye Y Y Y (ye Y Y Y (jt ?_)))))
   obtain rfl := sj hm
   exact jj () (trivial) (sE Y) (hsE [0, 1, 2] [1, 2, 0] 0 Y Y Y Y)
  intro l_5 hj
  replace hm := h20
  refine jb ?_
  refine jv Y (fun h25 => ?_) (fun h25 => ?_)
  ·replace hm := ifT (h25) hm
   refine js (jm Y Y (jr (jw (jh ?_))))
   obtain rfl := sj hm
   refine jk Y (fun w hh => (.tmp Y .nil)) (fun w hh => ⟨(), rfl, trivial, hh.se [] [] 1 Y Y Y rfl⟩)
  replace hm := ifN h25 hm
  refine jx (jb (ji (js (jg Y Y (jc Y Y Y (fun _ _ => zK Y Y) (jr ?_))))))
  refine jv Y (fun h26 => ?_) (fun h26 => ?_)
  ·replace hm := ifF (of_ndec_true h26) hm
   refine js ?_
   obtain ⟨t63, h27, hm⟩ := bindO hm
   refine jd [] [] Y Y Y Y Y Y Y call19 (fun w hh => JN  w (HV.callee (S0 := []) (vs0 := []) hh roN)  h27) (fun l_6 h28 => ?_)
   refine jm Y Y (jr (jw (jh ?_)))
   obtain rfl := sj hm
   refine jk Y (fun w hh => (.tmp Y .nil)) (fun w hh => ⟨(), rfl, trivial, hh.se [] [] 1 Y Y Y rfl⟩)
  replace hm := ifT (of_ndec_false h26) hm
  refine jx (jb (ji (ji ?_)))
  obtain ⟨o_1, h29, h30⟩ := bindO hm
  refine ki (ι := Unit) (fun l_7 => True) (fun l_7 => [(4, ptr b 0), (6, .int .i64 t31.r0), (8, ptr b_1 0), (9, .int .i64 t36.r1), (85, .bool o_1)]) (fun l_7 => [kc b_1 #[.int .i64 t36.r0.after, .int .i64 t36.r0.cell, .bool t36.r0.upright] 55, kc l #[.slice qa0 na0 ca0, .int .i64 t27.b0_1, .int .u32 t27.b0_2] 199, kc b #[.int .i64 t21.r0.cells, .int .i64 t21.r0.tides, sL l_1.1, sL l_1.2.1, sL l_2] 26]) (fun l_7 => [vL 3 l_1.1 (RI.enc t21.r0.fords), vL 98 l_1.2.1 (RSa.enc t21.r0.sands), vL 55 l_2 (RSi.enc t27.r0)]) ?_ ?_
  ·replace hm := h29
   refine je (qK 0 runUnderlying55 Y sizeOf3 Y Y (qu 0 isAgg3 Y Y Y Y (qK 1 runUnderlying26 Y sizeOf3 Y Y (qu 2 isAgg3 Y Y Y Y (jc Y Y Y (fun _ _ => zK Y Y) (jg Y Y ?_))))))
   refine jK 69 Y (fun h31 => ?_) (fun h31 => ?_)
   ·replace hm := ifF (of_ndec_true h31) hm
    refine g_k Y Y Y Y (g_k Y Y Y Y (g_k Y Y Y Y (qQ Y Y Y (jg Y Y (g_k Y Y Y Y (g_k Y Y Y Y (g_k Y Y Y Y ?_)))))))
    refine qQ Y Y Y (jg Y Y (g_k Y Y Y Y (g_k Y Y Y Y (g_k Y Y Y Y (g_k Y Y Y Y (g_k Y Y Y Y (qQ Y Y Y ?_)))))))
    refine jt ?_
    obtain rfl := sj hm
    exact jj () (trivial) (sE Y) (fun w hh => hh)
   replace hm := ifT (of_ndec_false h31) hm
   refine ja Y Y (qK 2 runUnderlying55 Y sizeOf4 Y Y (ja Y Y (qu 0 isAgg4 Y Y Y Y (ja Y Y (jc Y Y Y (fun _ _ => yK Y) (ye Y Y Y (jg Y Y ?_)))))))
   refine jK 74 Y (fun h32 => ?_) (fun h32 => ?_)
   ·replace hm := ifT (h32) hm
    refine g_k Y Y Y Y (g_k Y Y Y Y (g_k Y Y Y Y (qQ Y Y Y (jg Y Y (g_k Y Y Y Y (g_k Y Y Y Y (g_k Y Y Y Y ?_)))))))
    refine g_k Y Y Y Y (g_k Y Y Y Y (qQ Y Y Y (jt ?_)))
    obtain rfl := sj hm
    exact jj () (trivial) (sE Y) (fun w hh => hh)
   replace hm := ifN h32 hm
   refine ja Y Y (qK 1 runUnderlying55 Y sizeOf3 Y Y (ja Y Y (qu 0 isAgg3 Y Y Y Y (ja Y Y (JC Y Y Y (ye Y Y Y (jg Y Y ?_)))))))
   refine jK 79 Y (fun h33 => ?_) (fun h33 => ?_)
   ·replace hm := ifD h33 hm
    refine g_k Y Y Y Y (g_k Y Y Y Y (g_k Y Y Y Y (g_k Y Y Y Y (g_k Y Y Y Y (qQ Y Y Y (jt ?_))))))
    obtain rfl := sj hm
    exact jj () (trivial) (sE Y) (fun w hh => hh)
   replace hm := ifE h33 hm
   refine ja Y Y (qK 1 runUnderlying55 Y sizeOf3 Y Y (ja Y Y (qu 0 isAgg3 Y Y Y Y (ja Y Y (qK 0 runUnderlying26 Y sizeOf3 Y Y (ja Y Y (qu 2 isAgg3 Y Y Y Y ?_)))))))
   refine ja Y Y (jc Y Y Y (fun _ _ => Qk Y Y) (ye Y Y Y (jt ?_)))
   obtain rfl := sj hm
   exact jj () (trivial) (sE Y) (fun w hh => hh)
  intro l_7 hj
  replace hm := h30
  refine jb ?_
  refine jv Y (fun h34 => ?_) (fun h34 => ?_)
  ·replace hm := ifT (h34) hm
   refine js (jm Y Y (jr (jw (jh ?_))))
   obtain rfl := sj hm
   refine jk Y (fun w hh => (.tmp Y .nil)) (fun w hh => ⟨(), rfl, trivial, hh.se [] [] 1 Y Y Y rfl⟩)
  replace hm := ifN h34 hm
  refine jx (jb (ji (js (qK 0 runUnderlying26 Y sizeOf3 Y Y (qu 2 isAgg3 Y Y Y Y (jg Y Y (jr ?_)))))))
  obtain ⟨o_2, h35, h36⟩ := bindO hm
  refine ki (ι := Unit) (fun j => o_2 = .inl j) (fun j => []) (fun j => [kc b_1 #[.int .i64 t36.r0.after, .int .i64 t36.r0.cell, .bool t36.r0.upright] 55, kc l #[.slice qa0 na0 ca0, .int .i64 t27.b0_1, .int .u32 t27.b0_2] 199, kc b #[.int .i64 t21.r0.cells, .int .i64 t21.r0.tides, sL l_1.1, sL l_1.2.1, sL l_2] 26]) (fun j => [vL 3 l_1.1 (RI.enc t21.r0.fords), vL 98 l_1.2.1 (RSa.enc t21.r0.sands), vL 55 l_2 (RSi.enc t27.r0)]) ?_ ?_
  ·replace hm := h35
   refine jq ?_
   refine kC (ι := Unit) hm (fun s l_8 => True) (fun s l_8 => [(4, ptr b 0), (6, .int .i64 t31.r0), (8, ptr b_1 0), (9, .int .i64 t36.r1), (87, .int .i64 t21.r0.cells), (88, .int .i64 s)]) (fun s l_8 => [kc b_1 #[.int .i64 t36.r0.after, .int .i64 t36.r0.cell, .bool t36.r0.upright] 55, kc l #[.slice qa0 na0 ca0, .int .i64 t27.b0_1, .int .u32 t27.b0_2] 199, kc b #[.int .i64 t21.r0.cells, .int .i64 t21.r0.tides, sL l_1.1, sL l_1.2.1, sL l_2] 26]) (fun s l_8 => [vL 3 l_1.1 (RI.enc t21.r0.fords), vL 98 l_1.2.1 (RSa.enc t21.r0.sands), vL 55 l_2 (RSi.enc t27.r0)]) () (trivial) (sE Y) (fun w hh => hh) (fun s l_8 r hpl hm h37 => ?_)
   unfold ks at hm
   refine js (JC Y Y Y (jr (ji ?_)))
   refine jv Y (fun h38 => ?_) (fun h38 => ?_)
   ·replace hm := ifD h38 hm
    refine jx (jb (ji (jq (js (jg Y Y (jm Y Y (k6 ?_)))))))
    refine zM [_, _, _, _, _] 2 isAgg26 sizeOf26 Y Y Y Y (qK 1 runUnderlying26 Y sizeOf3 Y Y (qu 2 isAgg3 Y Y Y Y (jg Y Y (jc Y Y Y (fun _ _ => kk (vs := [(0, _), (1, _), (2, _)]) (cells := [_, _, _]) Y Y) ?_))))
    obtain ⟨t97, h39, hm⟩ := bindO hm
    refine jd [] [] Y Y Y Y Y Y Y call59 (fun w hh => Yp (⟨t21.r0.cells, t21.r0.tides, t21.r0.fords, t21.r0.sands, t27.r0⟩ : Channel) (⟨t21.r0.tides, s, true⟩ : Sight) (qA l_1.1.q) l_1.1.n l_1.1.cap (qA l_1.2.1.q) l_1.2.1.n l_1.2.1.cap (qA l_2.q) l_2.n l_2.cap w (HV.callee (S0 := []) (vs0 := []) hh (roC (hh.vsepA 0 Y h5) (roC (hh.vsepA 1 Y h6) (roC (hh.vsepA 2 Y h13) roN)))) (vlen RI h5 Y) (AOK.q (vne h5)) (h5).hle (vlen RSa h6 Y) (AOK.q (vne h6)) (h6).hle (vlen RSi h13 Y) (AOK.q (vne h13)) (h13).hle h39) (fun l_9 h40 => ?_)
    obtain ⟨h41, h42, h43⟩ := h40
    refine kF (S' := [_, _, _]) (vs' := [_, _, _, _, _, _]) [0, 1, 2] [0, 1, 2, 3, 4, 5] 0 Y Y Y Y (jg Y Y (za Y Y Y (za Y Y Y ?_)))
    refine ju (fun w => zeroValue26 w) Y (fun b_2 h44 => ?_)
    refine j7 (us := #[_, _, _, _, _]) (cs' := [_, _, _, _, _]) (S' := [_, _, _, _]) 0 (fun w => sizeOf26 w) Y Y Y Y Y Y Y (jm Y Y (k6 (zM [_, _, _, _, _] 0 isAgg26 sizeOf26 Y Y Y Y ?_)))
    obtain ⟨t102, h45, hm⟩ := bindO hm
    refine jd [] [] Y Y Y Y Y Y Y call26 (fun w hh => Js t97.r0 (qA l_9.1.q) l_9.1.n l_9.1.cap (qA l_9.2.1.q) l_9.2.1.n l_9.2.1.cap (qA l_9.2.2.q) l_9.2.2.n l_9.2.2.cap w (HV.callee (S0 := []) (vs0 := []) hh (roC (hh.vsepA 0 Y h41) (roC (hh.vsepA 1 Y h42) (roC (hh.vsepA 2 Y h43) roN)))) (vlen RI h41 Y) (AOK.q (vne h41)) (h41).hle (vlen RSa h42 Y) (AOK.q (vne h42)) (h42).hle (vlen RSi h43 Y) (AOK.q (vne h43)) (h43).hle h45) (fun l_10 h46 => ?_)
    refine jg Y Y (za Y Y Y (za Y Y Y (jm Y Y (jm Y Y (k6 (jg Y Y (jg Y Y ?_)))))))
    refine jg Y Y ?_
    obtain ⟨t108, h47, hm⟩ := bindO hm
    refine jc Y Y Y (fun _ _ => yE h47 Y Y) (jc Y Y Y (fun _ _ => Ym Y Y) (jm Y Y (jr (ji ?_))))
    obtain ⟨o_3, h48, h49⟩ := bindO hm
    refine ki (ι := Unit) (fun l_11 => True) (fun l_11 => [(4, ptr b 0), (6, .int .i64 t31.r0), (8, ptr b_1 0), (9, .int .i64 t36.r1), (87, .int .i64 t21.r0.cells), (88, .int .i64 s), (142, .bool o_3)]) (fun l_11 => [kc b_2 #[.int .i64 t97.r0.cells, .int .i64 t97.r0.tides, sL l_9.1, sL l_9.2.1, sL l_9.2.2] 26, kc b_1 #[.int .i64 t36.r0.after, .int .i64 t36.r0.cell, .bool t36.r0.upright] 55, kc l #[.slice qa0 na0 ca0, .int .i64 t27.b0_1, .int .u32 t27.b0_2] 199, kc b #[.int .i64 t21.r0.cells, .int .i64 t21.r0.tides, sL l_1.1, sL l_1.2.1, sL l_2] 26]) (fun l_11 => [vL 3 l_9.1 (RI.enc t97.r0.fords), vL 98 l_9.2.1 (RSa.enc t97.r0.sands), vL 55 l_9.2.2 (RSi.enc t97.r0.sights), vL 3 l_1.1 (RI.enc t21.r0.fords), vL 98 l_1.2.1 (RSa.enc t21.r0.sands), vL 55 l_2 (RSi.enc t27.r0)]) ?_ ?_
    ·replace hm := h48
     refine je (jg Y Y (jc Y Y Y (fun _ _ => zK Y Y) (jg Y Y ?_)))
     refine jK 112 Y (fun h50 => ?_) (fun h50 => ?_)
     ·replace hm := ifF (of_ndec_true h50) hm
      refine g_k Y Y Y Y (g_k Y Y Y Y (qQ Y Y Y (jg Y Y (g_k Y Y Y Y (g_k Y Y Y Y (g_k Y Y Y Y (qQ Y Y Y ?_)))))))
      refine jg Y Y (g_k Y Y Y Y (g_k Y Y Y Y (g_k Y Y Y Y (g_k Y Y Y Y (g_k Y Y Y Y ?_)))))
      refine jn Y Y Y Y Y ?_
      refine jn Y Y Y Y Y ?_
      refine jn Y Y Y Y Y ?_
      refine g_k Y Y Y Y (qQ Y Y Y (jg Y Y (g_k Y Y Y Y (g_k Y Y Y Y (g_k Y Y Y Y (g_k Y Y Y Y ?_))))))
      refine jn Y Y Y Y Y ?_
      refine jn Y Y Y Y Y ?_
      refine jn Y Y Y Y Y ?_
      refine jn Y Y Y Y Y ?_
      refine g_k Y Y Y Y (qQ Y Y Y (jt ?_))
      obtain rfl := sj hm
      exact jj () (trivial) (sE Y) (fun w hh => hh)
     replace hm := ifT (of_ndec_false h50) hm
     refine ja Y Y (jg Y Y (ja Y Y (jc Y Y Y (fun _ _ => zK Y Y) (ye Y Y Y (jg Y Y ?_)))))
     refine jK 116 Y (fun h51 => ?_) (fun h51 => ?_)
     ·replace hm := ifF (of_ndec_true h51) hm
      refine g_k Y Y Y Y (g_k Y Y Y Y (g_k Y Y Y Y (qQ Y Y Y (jg Y Y (g_k Y Y Y Y (g_k Y Y Y Y (g_k Y Y Y Y ?_)))))))
      refine g_k Y Y Y Y (g_k Y Y Y Y ?_)
      refine jn Y Y Y Y Y ?_
      refine jn Y Y Y Y Y ?_
      refine jn Y Y Y Y Y ?_
      refine g_k Y Y Y Y (qQ Y Y Y (jg Y Y (g_k Y Y Y Y (g_k Y Y Y Y (g_k Y Y Y Y (g_k Y Y Y Y ?_))))))
      refine jn Y Y Y Y Y ?_
      refine jn Y Y Y Y Y ?_
      refine jn Y Y Y Y Y ?_
      refine jn Y Y Y Y Y ?_
      refine g_k Y Y Y Y (qQ Y Y Y (jt ?_))
      obtain rfl := sj hm
      exact jj () (trivial) (sE Y) (fun w hh => hh)
     replace hm := ifT (of_ndec_false h51) hm
     refine ja Y Y (jg Y Y (ja Y Y (jg Y Y (ja Y Y (JC Y Y Y (ye Y Y Y (jg Y Y ?_)))))))
     refine jK 121 Y (fun h52 => ?_) (fun h52 => ?_)
     ·replace hm := ifD h52 hm
      refine g_k Y Y Y Y (g_k Y Y Y Y (g_k Y Y Y Y (g_k Y Y Y Y (g_k Y Y Y Y ?_))))
      refine jn Y Y Y Y Y ?_
      refine jn Y Y Y Y Y ?_
      refine jn Y Y Y Y Y ?_
      refine g_k Y Y Y Y (qQ Y Y Y (jg Y Y (g_k Y Y Y Y (g_k Y Y Y Y (g_k Y Y Y Y (g_k Y Y Y Y ?_))))))
      refine jn Y Y Y Y Y ?_
      refine jn Y Y Y Y Y ?_
      refine jn Y Y Y Y Y ?_
      refine jn Y Y Y Y Y ?_
      refine g_k Y Y Y Y (qQ Y Y Y (jt ?_))
      obtain rfl := sj hm
      exact jj () (trivial) (sE Y) (fun w hh => hh)
     replace hm := ifE h52 hm
     refine ja Y Y (jg Y Y (ja Y Y (qK 1 runUnderlying55 Y sizeOf3 Y Y (ja Y Y (qu 1 isAgg3 Y Y Y Y (ja Y Y (jc Y Y Y (fun _ _ => zi Y Y) ?_)))))))
     refine ja Y Y (jg Y Y ?_)
     refine jK 126 Y (fun h53 => ?_) (fun h53 => ?_)
     ·replace hm := ifD h53 hm
      refine ja Y Y (jg Y Y (ja Y Y (jg Y Y (ja Y Y (jc Y Y Y (fun _ _ => zK Y Y) (ja Y Y (qQ Y Y Y ?_)))))))
      refine ye Y Y Y (jg Y Y ?_)
      refine jK 132 Y (fun h54 => ?_) (fun h54 => ?_)
      ·replace hm := ifF (of_ndec_true h54) hm
       refine g_k Y Y Y Y (g_k Y Y Y Y (g_k Y Y Y Y (g_k Y Y Y Y ?_)))
       refine jn Y Y Y Y Y ?_
       refine jn Y Y Y Y Y ?_
       refine jn Y Y Y Y Y ?_
       refine jn Y Y Y Y Y ?_
       refine g_k Y Y Y Y (qQ Y Y Y (jt ?_))
       obtain rfl := sj hm
       exact jj () (trivial) (sE Y) (fun w hh => hh)
      replace hm := ifT (of_ndec_false h54) hm
      refine ja Y Y (jg Y Y (ja Y Y (jg Y Y (ja Y Y (jc Y Y Y (fun _ _ => zi Y Y) (ja Y Y (jg Y Y ?_)))))))
      refine jK 136 Y (fun h55 => ?_) (fun h55 => ?_)
      ·replace hm := ifD h55 hm
       refine ja Y Y (jg Y Y (ja Y Y (qK 1 runUnderlying55 Y sizeOf3 Y Y (ja Y Y (qu 1 isAgg3 Y Y Y Y (ja Y Y (JC Y Y Y ?_)))))))
       refine ja Y Y (qQ Y Y Y (ye Y Y Y (jt ?_)))
       obtain rfl := sj hm
       exact jj () (trivial) (sE Y) (fun w hh => hh)
      replace hm := ifE h55 hm
      refine g_k Y Y Y Y (g_k Y Y Y Y (g_k Y Y Y Y (g_k Y Y Y Y (ja Y Y (ye Y Y Y (ye Y Y Y (jt ?_)))))))
      obtain rfl := sj hm
      exact jj () (trivial) (sE Y) (fun w hh => hh)
     replace hm := ifE h53 hm
     refine g_k Y Y Y Y (g_k Y Y Y Y (g_k Y Y Y Y (ja Y Y (ye Y Y Y (ye Y Y Y (jg Y Y (ja Y Y ?_)))))))
     refine jg Y Y (ja Y Y (jg Y Y (ja Y Y (jc Y Y Y (fun _ _ => zi Y Y) (ja Y Y (jg Y Y ?_))))))
     refine jK 136 Y (fun h56 => ?_) (fun h56 => ?_)
     ·replace hm := ifD h56 hm
      refine ja Y Y (jg Y Y (ja Y Y (qK 1 runUnderlying55 Y sizeOf3 Y Y (ja Y Y (qu 1 isAgg3 Y Y Y Y (ja Y Y (JC Y Y Y ?_)))))))
      refine ja Y Y (qQ Y Y Y (ye Y Y Y (jt ?_)))
      obtain rfl := sj hm
      exact jj () (trivial) (sE Y) (fun w hh => hh)
     replace hm := ifE h56 hm
     refine g_k Y Y Y Y (g_k Y Y Y Y (g_k Y Y Y Y (g_k Y Y Y Y (ja Y Y (ye Y Y Y (ye Y Y Y (jt ?_)))))))
     obtain rfl := sj hm
     exact jj () (trivial) (sE Y) (fun w hh => hh)
    intro l_11 hj
    replace hm := h49
    refine jb ?_
    refine jv Y (fun h57 => ?_) (fun h57 => ?_)
    ·replace hm := ifT (h57) hm
     refine js (jm Y Y (jr (jw (jD (jh (jh (jD ?_)))))))
     obtain rfl := sj hm
     have hbo := h37 _ Y
     subst hbo
     refine jh ?_
     replace hm := ocR h36
     refine jh ?_
     obtain rfl := sj hm
     refine jk Y (fun w hh => (.tmp Y .nil)) (fun w hh => ⟨(), rfl, trivial, hh.se [] [] 1 Y Y Y rfl⟩)
    replace hm := ifN h57 hm
    refine jx (jy (jb (je ?_)))
    obtain ⟨t143, h58, hm⟩ := bindO hm
    refine JY h58 Y Y Y (jg Y Y (jt ?_))
    obtain rfl := sj hm
    refine jb ?_
    exact jR _ () Y (trivial) (sE Y) (hsE [1, 2, 3] [3, 4, 5] 0 Y Y Y Y)
   replace hm := ifE h38 hm
   refine kQ (jl (jl (jS ?_)))
   obtain rfl := sj hm
   have hbo := h37 _ Y
   subst hbo
   exact jj () (Y) (.nil) (fun w hh => hh)
  intro j hj
  have h59 := hj
  subst h59
  replace hm := ocL h36
  refine jb (js ?_)
  obtain ⟨t144, h60, hm⟩ := bindO hm
  refine jd [] [] Y Y Y Y Y Y Y call19 (fun w hh => JN  w (HV.callee (S0 := []) (vs0 := []) hh roN)  h60) (fun l_12 h61 => ?_)
  refine jm Y Y (jr (jw ?_))
  obtain rfl := sj hm
  refine jk Y (fun w hh => (.tmp Y .nil)) (fun w hh => ⟨(), rfl, trivial, hh.se [] [] 1 Y Y Y rfl⟩)
end Go.Proofs.Wb

namespace Go.Proofs.Wb
open Go Go.Fw Go.Gx Go.Sb
set_option linter.unusedVariables false
set_option maxRecDepth 100000
def E0 (n : Nat) : List (List Int) := (List.range (n + 1)).flatMap fun k => incL n k 0
theorem canB_self {c : Channel} (r : Right c) (l : List Int) : canB c.sands l l = true := by
  unfold canB
  rw [List.all_eq_true]
  intro i _
  rw [inb_iff]
  have := rchC_bounds (x := l.getD i (-1)) r.reach
  omega
end Go.Proofs.Wb

namespace Go.Proofs.Wb
open Go Go.Fw Go.Gx Go.Sb
set_option linter.unusedVariables false
set_option maxRecDepth 100000
def rk (x : List Int) : Nat := (E0 5).idxOf x
end Go.Proofs.Wb

namespace Go.Proofs.Wb
open Go Go.Fw Go.Gx Go.Sb
set_option linter.unusedVariables false
set_option maxRecDepth 100000
def HOK (l : List Int) (p : Int) : Prop := 0 ≤ p ∧ (p < (l.length : Int) ∨ p = 0)
theorem pick_ok {l : List Int} {p r : Int} (hl : l.length ≤ 9223372036854775807) (hp : HOK l p) : ∃ x, y4 l p r = some x ∧ (0 ≤ x.r0 ∧ x.r0 ≤ 32767) ∧ HOK l x.h0_1 := by
  obtain ⟨h0, h1⟩ := hp
  unfold y4
  have e1 : addc p 1 = some (p + 1) := addc_eq (by omega)
  by_cases hlt : p < (l.length : Int)
  · rw [if_pos hlt, ix_eq 0 h0 hlt, e1]
    simp only [Option.bind_some]
    by_cases hge : (l.length : Int) ≤ p + 1
    · rw [if_pos hge]
      exact ⟨_, rfl, Go.Fw.and_bound _ _ rfl, Int.le_refl _, .inr rfl⟩
    · rw [if_neg hge]
      exact ⟨_, rfl, Go.Fw.and_bound _ _ rfl, by simp only; omega, .inl (by simp only; omega)⟩
  · rw [if_neg hlt, e1]
    simp only [Option.bind_some]
    by_cases hge : (l.length : Int) ≤ p + 1
    · rw [if_pos hge]
      exact ⟨_, rfl, Go.Fw.and_bound _ _ rfl, Int.le_refl _, .inr rfl⟩
    · rw [if_neg hge]
      exact ⟨_, rfl, Go.Fw.and_bound _ _ rfl, by simp only; omega, .inl (by simp only; omega)⟩
theorem upto_ok {l : List Int} {p r n : Int} (hl : l.length ≤ 9223372036854775807) (hp : HOK l p) (hn : -1000000 ≤ n ∧ n ≤ 1000000) : ∃ x, jI l p r n = some x ∧ (0 ≤ x.r0 ∧ x.r0 ≤ max 0 n) ∧ HOK l x.h0_1 := by
  obtain ⟨x, hx, hb, hk⟩ := pick_ok (r := r) hl hp
  unfold jI
  rw [hx, Option.bind_some, addc_eq (by omega), Option.bind_some, remc_eq (by omega), Option.bind_some]
  refine ⟨_, rfl, ?_, hk⟩
  have h1 := Int.tmod_nonneg (max 1 (n + 1)) hb.1
  have h2 := Int.tmod_lt_of_pos x.r0 (show 0 < max 1 (n + 1) by omega)
  simp only
  omega
theorem from_ok {l : List Int} {p r lo hi : Int} (hl : l.length ≤ 9223372036854775807) (hp : HOK l p) (hn : (-400000 ≤ lo ∧ lo ≤ 400000) ∧ -400000 ≤ hi ∧ hi ≤ 400000) : ∃ x, q3 l p r lo hi = some x ∧ (lo ≤ x.r0 ∧ x.r0 ≤ max lo hi) ∧ HOK l x.h0_1 := by
  unfold q3
  rw [subc_eq (by omega), Option.bind_some]
  obtain ⟨x, hx, hb, hk⟩ := upto_ok (r := r) (n := hi - lo) hl hp (by omega)
  rw [hx, Option.bind_some, addc_eq (by omega), Option.bind_some]
  exact ⟨_, rfl, by simp only; omega, hk⟩
theorem once_ok {l : List Int} {p r n : Int} (hl : l.length ≤ 9223372036854775807) (hp : HOK l p) (hn : -400000 ≤ n ∧ n ≤ 400000) : ∃ x, yy l p r n = some x ∧ HOK l x.h0_1 := by
  unfold yy
  rw [subc_eq (by omega), Option.bind_some]
  obtain ⟨x, hx, hb, hk⟩ := upto_ok (r := r) (n := n - 1) hl hp (by omega)
  rw [hx, Option.bind_some]
  exact ⟨_, rfl, hk⟩
def IsOrd (n : Nat) (l : List Int) : Prop := l.Perm ((List.range n).map fun k : Nat => (k : Int))
theorem ins_ok {l : List Int} {i v : Int} (h0 : 0 ≤ i) (h1 : i ≤ (l.length : Int)) (hl : l.length ≤ 1000) : y6 l i [v] = some (l.take i.toNat ++ [v] ++ l.drop i.toNat) := by
  unfold y6
  rw [if_pos ⟨h0, h1, by simp, by simp; omega⟩]
theorem IsOrd.len {n : Nat} {l : List Int} (h : IsOrd n l) : l.length = n := by
  have := List.Perm.length_eq h
  simpa using this
theorem IsOrd.ins {n : Nat} {l : List Int} (h : IsOrd n l) (i : Nat) : IsOrd (n + 1) (l.take i ++ [(n : Int)] ++ l.drop i) := by
  unfold IsOrd
  rw [List.range_succ, List.map_append]
  have e : l.take i ++ [(n : Int)] ++ l.drop i = l.take i ++ (n : Int) :: l.drop i := by simp
  rw [e]
  refine List.perm_middle.trans ?_
  rw [List.take_append_drop]
  refine (List.Perm.cons _ h).trans ?_
  exact (List.perm_append_singleton _ _).symm
theorem order_ok {l : List Int} (hl : l.length ≤ 9223372036854775807) {p r : Int} {n : Nat} (hp : HOK l p) (hn : n ≤ 900) : ∃ x, yM l p r (n : Int) = some x ∧ HOK l x.h0_1 ∧ IsOrd n x.r0 := by
  unfold yM
  have key : ∃ o, iterM FU (q5 (n : Int) l) ⟨0, p, r, []⟩ = some o ∧ HOK l o.h0_1 ∧ IsOrd n o.out5 := by
    refine iterM_inv (f := q5 (n : Int) l) (fun s => ∃ j : Nat, s.t9 = (j : Int) ∧ j ≤ n ∧ HOK l s.h0_1 ∧ IsOrd j s.out5) (fun s => ((n : Int) - s.t9).toNat) _ (fun s hs => ?_) FU _ (FU_lt (by simp only; omega)) ⟨0, rfl, by omega, hp, List.Perm.refl _⟩
    obtain ⟨j, hj, hjn, hk, ho⟩ := hs
    unfold q5
    rw [hj]
    by_cases hlt : j < n
    · left
      obtain ⟨x, hx, hb, hk2⟩ := upto_ok (r := s.h0_2) (n := (j : Int)) hl hk (by omega)
      have hlen := ho.len
      rw [if_pos (by omega), hx, Option.bind_some, ins_ok hb.1 (by omega) (by omega), Option.bind_some, addc_eq (by omega), Option.bind_some]
      exact ⟨_, rfl, ⟨j + 1, by push_cast; rfl, hlt, hk2, ho.ins _⟩, by simp only; omega⟩
    · right
      rw [if_neg (by omega)]
      have : j = n := by omega
      subst this
      exact ⟨_, rfl, hk, ho⟩
  obtain ⟨o, h1, h2, h3⟩ := key
  rw [h1, Option.bind_some]
  exact ⟨_, rfl, h2, h3⟩
theorem chk_right {c : Channel} (r : Right c) (h8 : c.sights.length ≤ 8) : chk c = 0 := by
  unfold chk
  have h1 : okMany c = true := okMany_iff.2 ⟨r.cells, r.tides, r.fords, r.sands, h8⟩
  have h2 : okLimit c = true := by
    simp only [okLimit, Bool.and_eq_true, List.all_eq_true, inb_iff]
    exact ⟨r.reach, r.after⟩
  have h3 : okMiss c = true := by
    simp only [okMiss, Bool.and_eq_true, List.all_eq_true, inb_iff]
    refine ⟨⟨fun x hx => ?_, fun s hs => ?_⟩, fun s hs => ?_⟩
    · have := r.fcell x hx; omega
    · have := r.span s hs; omega
    · have := r.scell s hs; omega
  have h4 : okOrder c = true := by
    simp only [okOrder, Bool.and_eq_true, List.all_eq_true, decide_eq_true_eq]
    exact ⟨r.up, fun s hs => (r.span s hs).2.2⟩
  rw [if_pos h1, if_pos h2, if_pos h3, if_pos h4]
theorem lawReach_eq {c : Channel} (h : c.sands.length ≤ 100) (x : Int) : qy c x = some (rchC c.sands x) := by
  unfold qy
  have key := iterM_run (f := qs c x) (fun j => ⟨rchC (c.sands.take j) x, (j : Int)⟩) c.sands.length (b := rchC c.sands x) (fun j hj => ?_) ?_ FU (FU_lt (by omega))
  · simp only [List.take_zero] at key
    rw [show (⟨0, 0⟩ : qt) = ⟨rchC [] x, ((0 : Nat) : Int)⟩ from rfl, key]
    rfl
  · have e : c.sands.take (j + 1) = c.sands.take j ++ [c.sands[j]] := by rw [List.take_append_getElem]
    have hx : c.sands.getD j default = c.sands[j] := by simp [List.getD_eq_getElem?_getD, hj]
    unfold qs
    simp only
    rw [if_pos (by omega), ix_nat default hj, Option.bind_some, hx, e, rchC_snoc, addc_eq (by omega)]
    unfold stepR
    by_cases h1 : c.sands[j].span.lo ≤ x
    · rw [if_pos h1, Option.bind_some]
      by_cases h2 : x ≤ c.sands[j].span.hi
      · rw [if_pos (decide_eq_true h2), if_pos ⟨h1, h2⟩]; rfl
      · rw [if_neg (by simpa using h2), if_neg (fun q => h2 q.2)]; rfl
    · rw [if_neg h1, Option.bind_some, if_neg (by decide), if_neg (fun q => h1 q.1)]; rfl
  · unfold qs
    simp only
    rw [if_neg (by omega), List.take_length]
def freeB (cells : Int) (r0 : List Int) (i : Nat) (v : Int) : Bool := decide (0 ≤ v) && (decide (v < cells) && ((decide (i = 0) || decide (r0.getD (i - 1) (-1) < v)) && (decide (i + 1 = r0.length) || decide (v < r0.getD (i + 1) (-1)))))
theorem cond_eq {v cells : Int} {i : Nat} {r0 : List Int} (hi : i < r0.length) (hn : r0.length ≤ 1000) : (if 0 ≤ v then
 (if v < cells then
 (if (i : Int) = 0 then
 ((subc (r0.length : Int) 1).bind fun t82 =>
 if (i : Int) = t82 then
 (some true) else
 ((addc (i : Int) 1).bind fun t88 =>
 (ix r0 t88).bind fun t89 =>
 some (decide (v < t89)))) else
 ((subc (i : Int) 1).bind fun t72 =>
 (ix r0 t72).bind fun t73 =>
 if t73 < v then
 ((subc (r0.length : Int) 1).bind fun t82_1 =>
 if (i : Int) = t82_1 then
 (some true) else
 ((addc (i : Int) 1).bind fun t88_1 =>
 (ix r0 t88_1).bind fun t89_1 =>
 some (decide (v < t89_1)))) else
 (some false))) else
 (some false)) else
 (some false) : Option Bool) = some (freeB cells r0 i v) := by
  have tail : ((subc (r0.length : Int) 1).bind fun t82 => if (i : Int) = t82 then (some true) else ((addc (i : Int) 1).bind fun t88 => (ix r0 t88).bind fun t89 => some (decide (v < t89)))) = some (decide (i + 1 = r0.length) || decide (v < r0.getD (i + 1) (-1))) := by
    rw [subc_eq (by omega), Option.bind_some]
    by_cases h : i + 1 = r0.length
    · rw [if_pos (by omega), decide_eq_true h, Bool.true_or]
    · rw [if_neg (by omega), addc_eq (by omega), Option.bind_some, show (i : Int) + 1 = ((i + 1 : Nat) : Int) by omega, ix_nat (-1) (by omega), Option.bind_some, decide_eq_false h, Bool.false_or]
  unfold freeB
  by_cases h1 : 0 ≤ v
  · rw [if_pos h1, decide_eq_true h1, Bool.true_and]
    by_cases h2 : v < cells
    · rw [if_pos h2, decide_eq_true h2, Bool.true_and, tail]
      by_cases h3 : i = 0
      · rw [if_pos (by omega), decide_eq_true h3, Bool.true_or, Bool.true_and]
      · rw [if_neg (by omega), subc_eq (by omega), Option.bind_some, show (i : Int) - 1 = ((i - 1 : Nat) : Int) by omega, ix_nat (-1) (by omega), Option.bind_some, decide_eq_false h3, Bool.false_or]
        by_cases h4 : r0.getD (i - 1) (-1) < v
        · rw [if_pos h4, decide_eq_true h4, Bool.true_and]
        · rw [if_neg h4, decide_eq_false h4, Bool.false_and]
    · rw [if_neg h2, decide_eq_false h2, Bool.false_and]
  · rw [if_neg h1, decide_eq_false h1, Bool.false_and]
theorem getD_set {l : List Int} {i j : Nat} {v d : Int} (hi : i < l.length) : (l.set i v).getD j d = if j = i then v else l.getD j d := by
  rw [List.getD_eq_getElem?_getD, List.getElem?_set, List.getD_eq_getElem?_getD]
  by_cases h : i = j
  · subst h; simp [hi]
  · rw [if_neg h, if_neg (fun e => h e.symm)]
theorem row_set {c : Channel} {a b : List Int} (hb : rowB c b = true) (hab : a.length = b.length) (hc : canB c.sands a b = true) {i : Nat} (hi : i < b.length) {v : Int} (hf : freeB c.cells b i v = true) (hv : a.getD i (-1) - rchC c.sands (a.getD i (-1)) ≤ v ∧ v ≤ a.getD i (-1) + rchC c.sands (a.getD i (-1))) : rowB c (b.set i v) = true ∧ canB c.sands a (b.set i v) = true := by
  unfold freeB at hf
  simp only [Bool.and_eq_true, Bool.or_eq_true, decide_eq_true_eq] at hf
  obtain ⟨f1, f2, f3, f4⟩ := hf
  obtain ⟨b1, b2, b3⟩ := rowB_iff.1 hb
  constructor
  · refine rowB_iff.2 ⟨by rw [List.length_set]; exact b1, upB_ix.2 fun j hj => ?_, fun x hx => ?_⟩
    · rw [List.length_set] at hj
      rw [getD_set hi, getD_set hi]
      have hb' := upB_ix.1 b2 j hj
      by_cases h1 : j = i
      · subst h1
        rw [if_pos rfl, if_neg (by omega)]
        rcases f4 with f4 | f4
        · omega
        · exact f4
      · rw [if_neg h1]
        by_cases h2 : j + 1 = i
        · rw [if_pos h2]
          rcases f3 with f3 | f3
          · omega
          · rw [← h2, Nat.add_sub_cancel] at f3; exact f3
        · rw [if_neg h2]; exact hb'
    · rcases List.mem_or_eq_of_mem_set hx with h | h
      · exact b3 x h
      · omega
  · unfold canB at hc ⊢
    rw [List.all_eq_true] at hc ⊢
    intro j hj
    have h0 := hc j hj
    rw [getD_set hi]
    by_cases h1 : j = i
    · subst h1
      rw [if_pos rfl, inb_iff]
      omega
    · rw [if_neg h1]; exact h0
theorem walk_L1 {l : List Int} (hl : l.length ≤ 9223372036854775807) {c : Channel} (r : Right c) {a : List Int} (ha : rowB c a = true) {t : yp} (ho : IsOrd a.length t.r0) {p q : Int} (hp : HOK l p) :
    ∃ o, iterM FU (kX t a c l) ⟨0, p, q, a⟩ = some o ∧ HOK l o.b0_1 ∧ rowB c o.r0 = true ∧ canB c.sands a o.r0 = true := by
  have hc := r.cells
  have hf := r.fords
  have hs := r.sands
  have hlen := ho.len
  obtain ⟨a1, a2, a3⟩ := rowB_iff.1 ha
  refine iterM_inv (f := kX t a c l) (fun s => (0 ≤ s.t33 ∧ s.t33 ≤ (t.r0.length : Int)) ∧ HOK l s.b0_1 ∧ rowB c s.r0 = true ∧ canB c.sands a s.r0 = true) (fun s => ((t.r0.length : Int) - s.t33).toNat) _ (fun s hs => ?_) FU _ (FU_lt (by simp only; omega)) ⟨by simp only; omega, hp, ha, canB_self r a⟩
  obtain ⟨h0, hk, hr, hcn⟩ := hs
  obtain ⟨b1, b2, b3⟩ := rowB_iff.1 hr
  unfold kX
  by_cases hlt : s.t33 < (t.r0.length : Int)
  · left
    have hm : t.r0.getD s.t33.toNat 0 ∈ t.r0 := getD_mem (by omega)
    obtain ⟨i, hi, he⟩ := List.mem_map.1 ((List.Perm.mem_iff ho).1 hm)
    have hi' : i < a.length := by simpa using hi
    have h1 := a3 _ (getD_mem (d := -1) hi')
    have h2 := rchC_bounds (x := a.getD i (-1)) r.reach
    obtain ⟨x, hx, hb, hk2⟩ := from_ok (r := s.b0_2) (lo := -rchC c.sands (a.getD i (-1))) (hi := rchC c.sands (a.getD i (-1))) hl hk (by omega)
    have hneg : negc (rchC c.sands (a.getD i (-1))) = some (-rchC c.sands (a.getD i (-1))) := negc_eq (by omega)
    rw [if_pos hlt, ix_eq 0 h0.1 hlt, Option.bind_some, ← he, ix_nat (-1) hi']
    simp only [Option.bind_some]
    rw [lawReach_eq (by omega)]
    simp only [Option.bind_some]
    rw [hneg]
    simp only [Option.bind_some]
    rw [hx]
    simp only [Option.bind_some]
    rw [addc_eq (by omega)]
    simp only [Option.bind_some]
    rw [cond_eq (by omega) (by omega), addc_eq (by omega)]
    simp only [Option.bind_some]
    by_cases hfr : freeB c.cells s.r0 i (a.getD i (-1) + x.r0) = true
    · rw [if_pos hfr, ix_nat (-1) (by omega)]
      simp only [Option.bind_some, Int.toNat_natCast]
      obtain ⟨g1, g2⟩ := row_set hr (by omega) hcn (by omega) hfr (by omega)
      exact ⟨_, rfl, ⟨by simp only; omega, hk2, g1, g2⟩, by simp only; omega⟩
    · rw [if_neg hfr]
      simp only [Option.bind_some]
      exact ⟨_, rfl, ⟨by simp only; omega, hk2, hr, hcn⟩, by simp only; omega⟩
  · right
    rw [if_neg hlt]
    exact ⟨_, rfl, hk, hr, hcn⟩
structure WalkC (c : Channel) (n : Nat) (crs : List (List Int)) : Prop where
  len : crs.length = n + 1
  fst : crs.getD 0 [] = c.fords
  row : ∀ k, k ≤ n → rowB c (crs.getD k []) = true
  can : ∀ k, k < n → canB c.sands (crs.getD k []) (crs.getD (k + 1) []) = true
theorem getD_snoc {α : Type} {l : List α} {x d : α} {k : Nat} : (l ++ [x]).getD k d = if k < l.length then l.getD k d else if k = l.length then x else d := by
  rw [List.getD_eq_getElem?_getD, List.getD_eq_getElem?_getD]
  by_cases h : k < l.length
  · rw [if_pos h, List.getElem?_append_left h]
  · rw [if_neg h]
    by_cases h2 : k = l.length
    · rw [if_pos h2]; subst h2; simp
    · rw [if_neg h2, List.getElem?_eq_none (by simp; omega)]; rfl
theorem WalkC.snoc {c : Channel} {n : Nat} {crs : List (List Int)} (h : WalkC c n crs) {b : List Int} (hb : rowB c b = true) (hc : canB c.sands (crs.getD n []) b = true) : WalkC c (n + 1) (crs ++ [b]) := by
  have hl := h.len
  refine ⟨by simp; omega, ?_, fun k hk => ?_, fun k hk => ?_⟩
  · rw [getD_snoc, if_pos (by omega)]; exact h.fst
  · rw [getD_snoc]
    by_cases h1 : k < crs.length
    · rw [if_pos h1]; exact h.row k (by omega)
    · rw [if_neg h1, if_pos (by omega)]; exact hb
  · rw [getD_snoc, getD_snoc, if_pos (by omega)]
    by_cases h1 : k + 1 < crs.length
    · rw [if_pos h1]; exact h.can k (by omega)
    · rw [if_neg h1, if_pos (by omega)]
      obtain rfl : k = n := by omega
      exact hc
theorem walked_ok {l : List Int} (hl : l.length ≤ 9223372036854775807) {c : Channel} (r : Right c) {p q : Int} (hp : HOK l p) : ∃ x, qr l p q c = some x ∧ HOK l x.b0_1 ∧ WalkC c c.tides.toNat x.r0 := by
  have ht := r.tides
  have hf := r.fords
  have hrow : rowB c c.fords = true := rowB_iff.2 ⟨rfl, r.up, r.fcell⟩
  unfold qr
  rw [Yj (by omega), Option.bind_some]
  have key : ∃ o, iterM FU (kW c l) ⟨0, p, q, [c.fords]⟩ = some o ∧ HOK l o.b0_1 ∧ WalkC c c.tides.toNat o.out5 := by
    refine iterM_inv (f := kW c l) (fun s => (0 ≤ s.t17 ∧ s.t17 ≤ c.tides) ∧ HOK l s.b0_1 ∧ WalkC c s.t17.toNat s.out5) (fun s => (c.tides - s.t17).toNat) _ (fun s hs => ?_) FU _ (FU_lt (by simp only; omega)) ⟨by simp only; omega, hp, ⟨rfl, rfl, fun k hk => ?_, fun k hk => ?_⟩⟩
    · obtain ⟨h0, hk, hw⟩ := hs
      unfold kW
      by_cases hlt : s.t17 < c.tides
      · left
        have hlen := hw.len
        have ha := hw.row s.t17.toNat (Nat.le_refl _)
        have ha' := (rowB_iff.1 ha).1
        rw [if_pos hlt, subc_eq (by omega), Option.bind_some, ix_eq [] (by omega) (by omega), Option.bind_some, show ((s.out5.length : Int) - 1).toNat = s.t17.toNat by omega, Yj (by omega), Option.bind_some, Yj (by omega), Option.bind_some]
        obtain ⟨t, h1, h2, h3⟩ := order_ok (r := s.b0_2) (n := (s.out5.getD s.t17.toNat []).length) hl hk (by omega)
        rw [h1, Option.bind_some]
        obtain ⟨o, g1, g2, g3, g4⟩ := walk_L1 (q := t.h0_2) hl r ha h3 h2
        rw [g1, Option.bind_some, appc_eq (by simp; omega), Option.bind_some, addc_eq (by omega), Option.bind_some]
        refine ⟨_, rfl, ⟨by simp only; omega, g2, ?_⟩, by simp only; omega⟩
        have := hw.snoc g3 g4
        simp only
        rw [show (s.t17 + 1).toNat = s.t17.toNat + 1 by omega]
        exact this
      · right
        rw [if_neg hlt]
        refine ⟨_, rfl, hk, ?_⟩
        rw [show c.tides.toNat = s.t17.toNat by omega]
        exact hw
    · have hk0 : k = 0 := by simpa using hk
      subst hk0
      exact hrow
    · simp at hk
  obtain ⟨o, h1, h2, h3⟩ := key
  rw [h1, Option.bind_some]
  exact ⟨_, rfl, h2, h3⟩
end Go.Proofs.Wb

namespace Go.Proofs.Wb
open Go Go.Fw Go.Gx Go.Sb
set_option linter.unusedVariables false
set_option maxRecDepth 100000
structure MadeC (c : Channel) (cells fords tides : Int) : Prop where
  right : Right c
  none : c.sights = []
  cells : 3 ≤ c.cells ∧ c.cells ≤ cells
  fords : (c.fords.length : Int) ≤ fords
  tides : c.tides ≤ tides
theorem upB_snoc {f : List Int} {v : Int} (h : upB f = true) (hv : ∀ x ∈ f, x < v) : upB (f ++ [v]) = true := by
  rw [upB_ix] at *
  intro i hi
  rw [List.length_append, List.length_singleton] at hi
  rw [getD_snoc, getD_snoc, if_pos (by omega)]
  by_cases h1 : i + 1 < f.length
  · rw [if_pos h1]; exact h i h1
  · rw [if_neg h1, if_pos (by omega)]
    exact hv _ (getD_mem (by omega))
theorem made_L0 {l : List Int} (hl : l.length ≤ 9223372036854775807) {t : qw} (ht : 3 ≤ t.r0 ∧ t.r0 ≤ 9) {f : Int} (hf : 1 ≤ f ∧ f ≤ 3) {p q : Int} (hp : HOK l p) :
    ∃ o, iterM FU (qk t f l) ⟨0, p, q, []⟩ = some o ∧ HOK l o.b0_1 ∧ upB o.c10_fords = true ∧ (∀ x ∈ o.c10_fords, 0 ≤ x ∧ x < t.r0) ∧ 1 ≤ o.c10_fords.length ∧ (o.c10_fords.length : Int) ≤ f := by
  refine iterM_inv (f := qk t f l) (fun s => (0 ≤ s.t22 ∧ s.t22 ≤ t.r0) ∧ HOK l s.b0_1 ∧ upB s.c10_fords = true ∧ (∀ x ∈ s.c10_fords, 0 ≤ x ∧ x < s.t22) ∧ (s.c10_fords.length : Int) ≤ f ∧ (s.t22 = t.r0 → 1 ≤ s.c10_fords.length)) (fun s => (t.r0 - s.t22).toNat) _ (fun s hs => ?_) FU _ (FU_lt (by simp only; omega)) ⟨by simp only; omega, hp, rfl, by simp, by simp only; simp; omega, fun h => by simp only at h; omega⟩
  obtain ⟨h0, hk, hu, hx, hlen, hne⟩ := hs
  unfold qk
  by_cases hlt : s.t22 < t.r0
  · left
    rw [if_pos hlt, addc_eq (by omega)]
    -- with this cell
    have yes : ∀ (b1 b2 : Int), HOK l b1 → (s.c10_fords.length : Int) < f → ∃ s', ((appc 8 s.c10_fords [s.t22]).bind fun t51 => some (⟨b1, b2, t51⟩ : qS)).bind (fun o_1 => (some (s.t22 + 1)).bind fun t53 => some (Sum.inl (⟨t53, o_1.b0_1, o_1.b0_2, o_1.c10_fords⟩ : jQ) : jQ ⊕ qR)) = some (.inl s') ∧ ((0 ≤ s'.t22 ∧ s'.t22 ≤ t.r0) ∧ HOK l s'.b0_1 ∧ upB s'.c10_fords = true ∧ (∀ x ∈ s'.c10_fords, 0 ≤ x ∧ x < s'.t22) ∧ (s'.c10_fords.length : Int) ≤ f ∧ (s'.t22 = t.r0 → 1 ≤ s'.c10_fords.length)) ∧ (t.r0 - s'.t22).toNat < (t.r0 - s.t22).toNat := by
      intro b1 b2 hb hff
      rw [appc_eq (by simp; omega)]
      simp only [Option.bind_some]
      refine ⟨_, rfl, ⟨by simp only; omega, hb, upB_snoc hu (fun x hx' => (hx x hx').2), fun x hx' => ?_, by simp; omega, fun _ => by simp⟩, by simp only; omega⟩
      simp only
      rcases List.mem_append.1 hx' with h | h
      · have := hx x h; omega
      · rw [List.mem_singleton] at h; omega
    have no : ∀ (b1 b2 : Int), HOK l b1 → (s.t22 + 1 = t.r0 → 1 ≤ s.c10_fords.length) → ∃ s', (some (⟨b1, b2, s.c10_fords⟩ : qS)).bind (fun o_1 => (some (s.t22 + 1)).bind fun t53 => some (Sum.inl (⟨t53, o_1.b0_1, o_1.b0_2, o_1.c10_fords⟩ : jQ) : jQ ⊕ qR)) = some (.inl s') ∧ ((0 ≤ s'.t22 ∧ s'.t22 ≤ t.r0) ∧ HOK l s'.b0_1 ∧ upB s'.c10_fords = true ∧ (∀ x ∈ s'.c10_fords, 0 ≤ x ∧ x < s'.t22) ∧ (s'.c10_fords.length : Int) ≤ f ∧ (s'.t22 = t.r0 → 1 ≤ s'.c10_fords.length)) ∧ (t.r0 - s'.t22).toNat < (t.r0 - s.t22).toNat := by
      intro b1 b2 hb hff
      simp only [Option.bind_some]
      exact ⟨_, rfl, ⟨by simp only; omega, hb, hu, fun x hx' => by have := hx x hx'; simp only; omega, hlen, hff⟩, by simp only; omega⟩
    by_cases h1 : (s.c10_fords.length : Int) < f
    · obtain ⟨x, hx', hk2⟩ := once_ok (r := s.b0_2) (n := 3) hl hk (by omega)
      rw [if_pos h1, hx', Option.bind_some]
      by_cases h2 : x.r0 = true
      · rw [if_pos h2, Option.bind_some, if_pos rfl]
        exact yes _ _ hk2 h1
      · rw [if_neg h2, subc_eq (by omega), Option.bind_some]
        by_cases h3 : s.t22 = t.r0 - 1
        · rw [if_pos h3, Option.bind_some]
          by_cases h4 : (s.c10_fords.length : Int) = 0
          · rw [if_pos (decide_eq_true h4)]
            exact yes _ _ hk2 h1
          · rw [if_neg (by simpa using h4)]
            exact no _ _ hk2 (fun _ => by omega)
        · rw [if_neg h3, Option.bind_some, if_neg Bool.false_ne_true]
          exact no _ _ hk2 (fun q => by omega)
    · rw [if_neg h1, Option.bind_some, if_neg Bool.false_ne_true]
      exact no _ _ hk (fun _ => by omega)
  · right
    rw [if_neg hlt]
    have : s.t22 = t.r0 := by omega
    exact ⟨_, rfl, hk, hu, fun x hx' => by have := hx x hx'; omega, hne this, hlen⟩
theorem made_L1 {l : List Int} (hl : l.length ≤ 9223372036854775807) {t : qw} (ht : 3 ≤ t.r0 ∧ t.r0 ≤ 9) {u : qZ} (hu : 0 ≤ u.r0 ∧ u.r0 ≤ 4) {p q : Int} (hp : HOK l p) :
    ∃ o, iterM FU (qe u t l) ⟨0, p, q, []⟩ = some o ∧ HOK l o.b0_1 ∧ o.c10_sands.length ≤ 4 ∧ ∀ s ∈ o.c10_sands, (1 ≤ s.reach ∧ s.reach ≤ 2) ∧ 0 ≤ s.span.lo ∧ s.span.hi < t.r0 ∧ s.span.lo ≤ s.span.hi := by
  refine iterM_inv (f := qe u t l) (fun s => (0 ≤ s.t56 ∧ s.t56 ≤ u.r0) ∧ HOK l s.b0_1 ∧ (s.c10_sands.length : Int) = s.t56 ∧ ∀ w ∈ s.c10_sands, (1 ≤ w.reach ∧ w.reach ≤ 2) ∧ 0 ≤ w.span.lo ∧ w.span.hi < t.r0 ∧ w.span.lo ≤ w.span.hi) (fun s => (u.r0 - s.t56).toNat) _ (fun s hs => ?_) FU _ (FU_lt (by simp only; omega)) ⟨by simp only; omega, hp, rfl, by simp⟩
  obtain ⟨h0, hk, hlen, hx⟩ := hs
  unfold qe
  by_cases hlt : s.t56 < u.r0
  · left
    rw [if_pos hlt, subc_eq (by omega), Option.bind_some]
    obtain ⟨x, hx1, hb1, hk1⟩ := upto_ok (r := s.b0_2) (n := t.r0 - 1) hl hk (by omega)
    rw [hx1, Option.bind_some, Option.bind_some]
    obtain ⟨y, hy1, hb2, hk2⟩ := upto_ok (r := x.h0_2) (n := 4) hl hk1 (by omega)
    rw [hy1, Option.bind_some, addc_eq (by omega), Option.bind_some]
    obtain ⟨z, hz1, hb3, hk3⟩ := from_ok (r := y.h0_2) (lo := 1) (hi := 2) hl hk2 (by omega)
    rw [hz1, Option.bind_some, appc_eq (by simp; omega), Option.bind_some, Option.bind_some, addc_eq (by omega), Option.bind_some]
    refine ⟨_, rfl, ⟨by simp only; omega, hk3, by simp; omega, fun w hw => ?_⟩, by simp only; omega⟩
    rcases List.mem_append.1 hw with h | h
    · exact hx w h
    · rw [List.mem_singleton] at h
      subst h
      simp only
      omega
  · right
    rw [if_neg hlt]
    exact ⟨_, rfl, hk, by simp only; omega, hx⟩
theorem made_ok {l : List Int} (hl : l.length ≤ 9223372036854775807) {p q cells fords tides : Int} (hp : HOK l p) (hc : 3 ≤ cells ∧ cells ≤ 9) (hf : 1 ≤ fords ∧ fords ≤ 3) (ht : 0 ≤ tides ∧ tides ≤ 4) : ∃ x, ql l p q cells fords tides = some x ∧ HOK l x.b0_1 ∧ MadeC x.r0 cells fords tides ∧ WalkC x.r0 x.r0.tides.toNat x.r1 := by
  unfold ql
  obtain ⟨x, hx, hb, hk⟩ := from_ok (r := q) (lo := 3) (hi := cells) hl hp (by omega)
  rw [hx, Option.bind_some]
  obtain ⟨y, hy, hb2, hk2⟩ := upto_ok (r := x.h0_2) (n := tides) hl hk (by omega)
  rw [hy, Option.bind_some]
  obtain ⟨o, ho, hk3, o1, o2, o3, o4⟩ := made_L0 (q := y.h0_2) (t := x) hl (by omega) hf hk2
  rw [ho, Option.bind_some]
  obtain ⟨u, hu, hb4, hk4⟩ := upto_ok (r := o.b0_2) (n := 4) hl hk3 (by omega)
  rw [hu, Option.bind_some]
  obtain ⟨v, hv, hk5, v1, v2⟩ := made_L1 (q := u.h0_2) (t := x) (u := u) hl (by omega) (by omega) hk4
  rw [hv, Option.bind_some]
  have r : Right ⟨x.r0, y.r0, o.c10_fords, v.c10_sands, []⟩ := ⟨by simp only; omega, by simp only; omega, by simp only; omega, v1, by simp, fun s hs => (v2 s hs).1, by simp, o2, fun s hs => (v2 s hs).2, by simp, o1⟩
  obtain ⟨w, hw, hk6, w1⟩ := walked_ok (q := v.b0_2) hl r hk5
  rw [hw, Option.bind_some]
  exact ⟨_, rfl, hk6, ⟨r, rfl, by simp only; omega, by simp only; omega, by simp only; omega⟩, w1⟩
structure SeenC (c : Channel) (crs : List (List Int)) (s : Sight) : Prop where
  after : 0 ≤ s.after ∧ s.after ≤ c.tides
  cell : 0 ≤ s.cell ∧ s.cell < c.cells
  up : s.upright = decide (s.cell ∈ crs.getD s.after.toNat [])
theorem seen_ok {l : List Int} (hl : l.length ≤ 9223372036854775807) {c : Channel} (r : Right c) {crs : List (List Int)} (hw : WalkC c c.tides.toNat crs) {p q most : Int} (hp : HOK l p) (hm : 0 ≤ most ∧ most ≤ 8) : ∃ x, qm l p q c crs most = some x ∧ HOK l x.b0_1 ∧ (x.r0.length : Int) ≤ most ∧ ∀ s ∈ x.r0, SeenC c crs s := by
  have hc := r.cells
  have hf := r.fords
  have ht := r.tides
  have hcl := hw.len
  unfold qm
  obtain ⟨u, hu, hb, hk⟩ := upto_ok (r := q) (n := most) hl hp (by omega)
  rw [hu, Option.bind_some]
  have key : ∃ o, iterM FU (qd u c l crs) ⟨0, u.h0_1, u.h0_2, []⟩ = some o ∧ HOK l o.b0_1 ∧ (o.out9.length : Int) = u.r0 ∧ ∀ s ∈ o.out9, SeenC c crs s := by
    refine iterM_inv (f := qd u c l crs) (fun s => (0 ≤ s.t14 ∧ s.t14 ≤ u.r0) ∧ HOK l s.b0_1 ∧ (s.out9.length : Int) = s.t14 ∧ ∀ w ∈ s.out9, SeenC c crs w) (fun s => (u.r0 - s.t14).toNat) _ (fun s hs => ?_) FU _ (FU_lt (by simp only; omega)) ⟨by simp only; omega, hk, rfl, by simp⟩
    obtain ⟨h0, hk0, hlen, hx⟩ := hs
    unfold qd
    by_cases hlt : s.t14 < u.r0
    · left
      rw [if_pos hlt, subc_eq (by omega), Option.bind_some]
      obtain ⟨x, hx1, hb1, hk1⟩ := upto_ok (r := s.b0_2) (n := c.tides) hl hk0 (by omega)
      rw [hx1, Option.bind_some]
      obtain ⟨y, hy1, hb2, hk2⟩ := upto_ok (r := x.h0_2) (n := c.cells - 1) hl hk1 (by omega)
      rw [hy1, Option.bind_some, Option.bind_some]
      obtain ⟨z, hz1, hk3⟩ := once_ok (r := y.h0_2) (n := 2) hl hk2 (by omega)
      have hrow := hw.row x.r0.toNat (by omega)
      obtain ⟨r1, r2, r3⟩ := rowB_iff.1 hrow
      have hixr : ix crs x.r0 = some (crs.getD x.r0.toNat []) := ix_eq [] (by omega) (by omega)
      have fin : ∀ (b1 b2 ce : Int), HOK l b1 → (0 ≤ ce ∧ ce < c.cells) → ∃ s', (ix crs x.r0).bind (fun t45 => (j3 t45 ce).bind fun t49 => (appc 24 s.out9 [(⟨x.r0, ce, t49⟩ : Sight)]).bind fun t54 => (addc s.t14 1).bind fun t55 => some (Sum.inl (⟨t55, b1, b2, t54⟩ : kK) : kK ⊕ yJ)) = some (.inl s') ∧ ((0 ≤ s'.t14 ∧ s'.t14 ≤ u.r0) ∧ HOK l s'.b0_1 ∧ (s'.out9.length : Int) = s'.t14 ∧ ∀ s ∈ s'.out9, SeenC c crs s) ∧ (u.r0 - s'.t14).toNat < (u.r0 - s.t14).toNat := by
        intro b1 b2 ce hb hce
        rw [hixr, Option.bind_some, Qo (by omega), Option.bind_some, appc_eq (by simp; omega), Option.bind_some, addc_eq (by omega), Option.bind_some]
        refine ⟨_, rfl, ⟨by simp only; omega, hb, by simp; omega, fun w hw' => ?_⟩, by simp only; omega⟩
        rcases List.mem_append.1 hw' with h | h
        · exact hx w h
        · rw [List.mem_singleton] at h
          subst h
          exact ⟨by simp only; omega, hce, rfl⟩
      rw [hz1, Option.bind_some]
      by_cases h2 : z.r0 = true
      · rw [if_pos h2]
        obtain ⟨v, hv1, hb4, hk4⟩ := upto_ok (r := z.h0_2) (n := (c.fords.length : Int) - 1) hl hk3 (by omega)
        have hce : ix (crs.getD x.r0.toNat []) v.r0 = some ((crs.getD x.r0.toNat []).getD v.r0.toNat 0) := ix_eq 0 (by omega) (by omega)
        have hm2 := r3 _ (getD_mem (d := 0) (l := crs.getD x.r0.toNat []) (i := v.r0.toNat) (by omega))
        simp only
        rw [hixr, Option.bind_some, subc_eq (by omega), Option.bind_some, hv1, Option.bind_some, hce, Option.bind_some, Option.bind_some, ← hixr]
        exact fin _ _ _ hk4 hm2
      · rw [if_neg h2, Option.bind_some]
        exact fin _ _ _ hk3 (by simp only; omega)
    · right
      rw [if_neg hlt]
      exact ⟨_, rfl, hk0, by simp only; omega, hx⟩
  obtain ⟨o, h1, h2, h3, h4⟩ := key
  rw [h1, Option.bind_some]
  exact ⟨_, rfl, h2, by simp only; omega, h4⟩
theorem right_sights {c : Channel} (r : Right c) {sg : List Sight} (hn : sg.length ≤ 8) (h : ∀ s ∈ sg, (0 ≤ s.after ∧ s.after ≤ c.tides) ∧ 0 ≤ s.cell ∧ s.cell < c.cells) : Right ⟨c.cells, c.tides, c.fords, c.sands, sg⟩ := ⟨r.cells, r.tides, r.fords, r.sands, by simp only; omega, r.reach, fun s hs => (h s hs).1, r.fcell, r.span, fun s hs => (h s hs).2, r.up⟩
theorem real_on {c : Channel} (r : Right c) {crs : List (List Int)} (hw : WalkC c c.tides.toNat crs) (hag : ∀ k : Nat, k ≤ c.tides.toNat → agP tt c.sights (k : Int) (crs.getD k []) = true) : ∀ k : Nat, k ≤ c.tides.toNat → onB c k (crs.getD k []) = true := by
  have hc := r.cells
  have hmem : ∀ k, k ≤ c.tides.toNat → crs.getD k [] ∈ LL c := fun k hk => (mem_LL (by omega)).2 (hw.row k hk)
  have fwd : ∀ k : Nat, k ≤ c.tides.toNat → 0 < FcL tt c k (crs.getD k []) := by
    intro k
    induction k with
    | zero => intro hk; rw [FcL, if_pos ⟨hag 0 hk, hw.fst⟩]; omega
    | succ k ih => intro hk; exact FcL_succ_pos.2 ⟨hag (k + 1) hk, _, hmem k (by omega), hw.can k (by omega), ih (by omega)⟩
  have bwd : ∀ j k : Nat, k + j = c.tides.toNat → 0 < R (nxS c) (agS tt c) j (stL k (crs.getD k [])) := by
    intro j
    induction j with
    | zero =>
      intro k hk
      rw [R, agS_stL r (hw.row k (by omega)), if_pos (hag k (by omega))]
      omega
    | succ j ih =>
      intro k hk
      refine R_succ_pos.2 ⟨?_, stL (k + 1) (crs.getD (k + 1) []), ?_, ih (k + 1) (by omega)⟩
      · rw [agS_stL r (hw.row k (by omega))]; exact hag k (by omega)
      · exact (mem_nx_stL r (hw.row k (by omega)) (hw.row (k + 1) (by omega))).2 (hw.can k (by omega))
  intro k hk
  unfold onB
  rw [decide_eq_true (fwd k hk), decide_eq_true (bwd _ k (by omega))]
  rfl
theorem on_cnt {c : Channel} (r : Right c) {l : List Int} (hl : l ∈ LL c) (h : onB c c.tides.toNat l = true) : 0 < cntS tt c := by
  unfold onB at h
  rw [Bool.and_eq_true, decide_eq_true_eq] at h
  rw [cntS_sum r]
  exact sumN_pos.2 ⟨l, hl, h.1⟩
theorem seen_ag {c : Channel} {crs : List (List Int)} {sg : List Sight} (h : ∀ s ∈ sg, SeenC c crs s) (k : Nat) : agP tt sg (k : Int) (crs.getD k []) = true := by
  rw [agP_iff]
  intro i hi _ ha
  have hm : sg.getD i default ∈ sg := by
    rw [List.getD_eq_getElem?_getD, List.getElem?_eq_getElem hi]
    exact List.getElem_mem hi
  have := (h _ hm).up
  rw [ha, Int.toNat_natCast] at this
  exact this.symm
theorem pile_eq (l : List Int) : QO l = some ⟨0, 0⟩ := rfl
theorem HOK_zero (l : List Int) : HOK l 0 := ⟨Int.le_refl _, .inr rfl⟩
end Go.Proofs.Wb

namespace Go.Proofs.Wb
open Go Go.Fw Go.Gx Go.Sb
set_option linter.unusedVariables false
set_option maxRecDepth 100000
theorem made_seen {l : List Int} (hl : l.length ≤ 9223372036854775807) {cells fords tides most : Int} (hc : 3 ≤ cells ∧ cells ≤ 9) (hf : 1 ≤ fords ∧ fords ≤ 3) (ht : 0 ≤ tides ∧ tides ≤ 4) (hm : 0 ≤ most ∧ most ≤ 8) : ∃ x y, ql l 0 0 cells fords tides = some x ∧ qm l x.b0_1 x.b0_2 x.r0 x.r1 most = some y ∧ MadeC x.r0 cells fords tides ∧ WalkC x.r0 x.r0.tides.toNat x.r1 ∧ HOK l y.b0_1 ∧ (y.r0.length : Int) ≤ most ∧ ∀ s ∈ y.r0, SeenC x.r0 x.r1 s := by
  obtain ⟨x, h1, h2, h3, h4⟩ := made_ok hl (q := 0) (HOK_zero l) hc hf ht
  obtain ⟨y, g1, g2, g3, g4⟩ := seen_ok (q := x.b0_2) hl h3.right h4 h2 hm
  exact ⟨x, y, h1, g1, h3, h4, g2, g3, g4⟩
def cS (c : Channel) (sg : List Sight) : Channel := ⟨c.cells, c.tides, c.fords, c.sands, sg⟩
theorem cS_right {c : Channel} (r : Right c) {crs : List (List Int)} {sg : List Sight} (hn : sg.length ≤ 8) (h : ∀ s ∈ sg, SeenC c crs s) : Right (cS c sg) := right_sights r hn (fun s hs => ⟨(h s hs).after, (h s hs).cell⟩)
theorem few_right {c : Channel} (r : Right c) (h : c.sights.length ≤ 8) : Few c := by
  have hf := r.fords
  have hs := r.sands
  exact ⟨by omega, by omega, by omega⟩
theorem WalkC.sights {c : Channel} {n : Nat} {crs : List (List Int)} (h : WalkC c n crs) (sg : List Sight) : WalkC (cS c sg) n crs := ⟨h.len, h.fst, h.row, h.can⟩
theorem cS_on {c : Channel} (r : Right c) {crs : List (List Int)} (hw : WalkC c c.tides.toNat crs) {sg : List Sight} (hn : sg.length ≤ 8) (h : ∀ s ∈ sg, SeenC c crs s) (k : Nat) (hk : k ≤ c.tides.toNat) : onB (cS c sg) k (crs.getD k []) = true := real_on (cS_right r hn h) (hw.sights sg) (fun k _ => seen_ag h k) k hk
theorem cS_pos {c : Channel} (r : Right c) {crs : List (List Int)} (hw : WalkC c c.tides.toNat crs) {sg : List Sight} (hn : sg.length ≤ 8) (h : ∀ s ∈ sg, SeenC c crs s) : 0 < cntS tt (cS c sg) := by
  have hc := r.cells
  refine on_cnt (cS_right r hn h) ?_ (cS_on r hw hn h c.tides.toNat (Nat.le_refl _))
  exact (mem_LL (show 0 ≤ (cS c sg).cells from by show 0 ≤ c.cells; omega)).2 (hw.row c.tides.toNat (Nat.le_refl _))
theorem ask_spec {c : Channel} (r : Right c) : ∀ n : Nat, 1 ≤ n → ∃ b : Nat, b < n ∧ askR c n = (mostC c b, (b : Int)) ∧ (∀ x, x < n → mostC c b ≤ mostC c x) ∧ ∀ x, x < b → mostC c b < mostC c x
  | 0, h => absurd h (by omega)
  | 1, _ => by
    refine ⟨0, by omega, ?_, fun x hx => ?_, fun x hx => by omega⟩
    · have h1 := yes_le r 0
      have : mostC c 0 < (askR c 0).1 := by
        unfold mostC askR
        omega
      rw [askR, if_pos this]
    · obtain rfl : x = 0 := by omega
      exact Int.le_refl _
  | n + 2, _ => by
    obtain ⟨b, h1, h2, h3, h4⟩ := ask_spec r (n + 1) (by omega)
    rw [askR, h2]
    by_cases h : mostC c (n + 1) < mostC c b
    · rw [if_pos h]
      refine ⟨n + 1, by omega, rfl, fun x hx => ?_, fun x hx => ?_⟩
      · by_cases e : x = n + 1
        · rw [e]; exact Int.le_refl _
        · have := h3 x (by omega); omega
      · have := h3 x (by omega); omega
    · rw [if_neg h]
      refine ⟨b, by omega, rfl, fun x hx => ?_, h4⟩
      by_cases e : x = n + 1
      · rw [e]; omega
      · exact h3 x (by omega)
theorem BranchAsked_true {l : List Int} (hl : l.length ≤ 9223372036854775807) : qE l = some true := by
  unfold qE
  rw [pile_eq, Option.bind_some, awake_true]
  obtain ⟨x, y, h1, h2, hM, hW, hk, hn, hS⟩ := made_seen hl (cells := 9) (fords := 2) (tides := 3) (most := 4) (by omega) (by omega) (by omega) (by omega)
  simp only
  rw [h1, Option.bind_some, h2, Option.bind_some]
  have r0 := hM.right
  have r : Right (cS x.r0 y.r0) := cS_right r0 (by omega) hS
  have hF : Few (cS x.r0 y.r0) := few_right r (by show y.r0.length ≤ 8; omega)
  have hk0 : chk (cS x.r0 y.r0) = 0 := chk_right r (by show y.r0.length ≤ 8; omega)
  have hp := cS_pos r0 hW (by omega) hS
  have hb := cntS_bnd r
  have hC : k9 ⟨x.r0.cells, x.r0.tides, x.r0.fords, x.r0.sands, y.r0⟩ = some ⟨(cntS tt (cS x.r0 y.r0) : Int), 0⟩ := by
    have := Qh hF
    rw [if_pos hk0] at this
    exact this
  have hA0 := Zk hF
  rw [if_pos hk0, if_neg (by omega)] at hA0
  rw [hC, Option.bind_some]
  have hcells := r.cells
  by_cases h1c : cntS tt (cS x.r0 y.r0) = 1
  · rw [if_pos h1c] at hA0
    have hA : yF ⟨x.r0.cells, x.r0.tides, x.r0.fords, x.r0.sands, y.r0⟩ = some ⟨⟨0, 0, false⟩, 0, 6⟩ := hA0
    rw [hA]
    simp [h1c]
  · rw [if_neg h1c] at hA0
    obtain ⟨b, b1, b2, b3, b4⟩ := ask_spec r (cS x.r0 y.r0).cells.toNat (by omega)
    rw [b2] at hA0
    have hA : yF ⟨x.r0.cells, x.r0.tides, x.r0.fords, x.r0.sands, y.r0⟩ = some ⟨⟨x.r0.tides, (b : Int), true⟩, mostC (cS x.r0 y.r0) b, 0⟩ := hA0
    rw [hA, Option.bind_some]
    have hbc : (b : Int) < x.r0.cells := by
      have : (cS x.r0 y.r0).cells = x.r0.cells := rfl
      omega
    have hlt1 : ¬ ((cntS tt (cS x.r0 y.r0) : Int) < 1) := by omega
    have hne1 : ¬ ((cntS tt (cS x.r0 y.r0) : Int) = 1) := by omega
    have ht : (cS x.r0 y.r0).tides = x.r0.tides := rfl
    have hb0 : ¬ ((b : Int) < 0) := by omega
    have hbd : decide (x.r0.cells ≤ (b : Int)) = false := decide_eq_false (by omega)
    have key := iterM_any0 (f := ks x y ⟨(cntS tt (cS x.r0 y.r0) : Int), 0⟩ ⟨⟨x.r0.tides, (b : Int), true⟩, mostC (cS x.r0 y.r0) b, 0⟩) x.r0.cells.toNat (fun _ => false) false (fun k hk => ?_) ?_ (N := FU) (FU_lt (by have : (cS x.r0 y.r0).cells = x.r0.cells := rfl; omega))
    · rw [show (List.range x.r0.cells.toNat).any (fun _ => false) = false from by simp, if_neg Bool.false_ne_true] at key
      simp [hlt1, hne1, ht, hb0, hbd, key]
    · have hs := hn
      have hW2 := YY hF ⟨x.r0.tides, (k : Int), true⟩
      have ht0 := r.tides
      have hin1 : inb x.r0.tides 0 (cS x.r0 y.r0).tides = true := inb_iff.2 (by rw [ht] at *; omega)
      have hkc : (k : Int) < (cS x.r0 y.r0).cells := by
        have : (cS x.r0 y.r0).cells = x.r0.cells := rfl
        omega
      have hin2 : inb (k : Int) 0 ((cS x.r0 y.r0).cells - 1) = true := inb_iff.2 (by omega)
      have hl8 : ¬ (cS x.r0 y.r0).sights.length = 8 := by
        show ¬ y.r0.length = 8
        omega
      rw [if_pos hk0, if_neg hl8, if_pos hin1, if_pos hin2] at hW2
      have hW3 : zf ⟨x.r0.cells, x.r0.tides, x.r0.fords, x.r0.sands, y.r0⟩ ⟨x.r0.tides, (k : Int), true⟩ = some ⟨knownC (cS x.r0 y.r0) ⟨(cS x.r0 y.r0).tides, (k : Int), true⟩, 0⟩ := hW2
      have hl4 : (cS x.r0 y.r0).sights.length ≤ 8 := by
        show y.r0.length ≤ 8
        omega
      have rk := right_known r hl4 (s := ⟨(cS x.r0 y.r0).tides, (k : Int), true⟩) ⟨ht0.1, Int.le_refl _⟩ ⟨by simp only; omega, hkc⟩
      have hlk : (knownC (cS x.r0 y.r0) ⟨(cS x.r0 y.r0).tides, (k : Int), true⟩).sights.length ≤ 8 := by
        show (y.r0 ++ [_]).length ≤ 8
        simp
        omega
      have hC2 := Qh (few_right rk hlk)
      rw [if_pos (chk_right rk hlk), yes_known r hl4 hkc] at hC2
      have hy := yes_le r k
      have hmin := b3 k (by omega)
      have hstr := b4 k
      unfold ks
      rw [if_pos (by have : (cS x.r0 y.r0).cells = x.r0.cells := rfl; omega), hW3, Option.bind_some, hC2, Option.bind_some, subc_eq (by simp only; omega), Option.bind_some, addc_eq (by omega)]
      have em : max (yesC (cS x.r0 y.r0) k : Int) ((cntS tt (cS x.r0 y.r0) : Int) - (yesC (cS x.r0 y.r0) k : Int)) = mostC (cS x.r0 y.r0) k := rfl
      simp only [em, if_true]
      rw [if_neg (by omega)]
      by_cases hkb : k = b
      · subst hkb
        simp
      · rw [if_neg (by omega)]
        by_cases hme : mostC (cS x.r0 y.r0) k = mostC (cS x.r0 y.r0) b
        · rw [if_pos hme]
          have : ¬ k < b := fun q => by have := hstr q; omega
          rw [decide_eq_false (by omega)]
          simp
        · rw [if_neg hme]
          simp
    · unfold ks
      rw [if_neg (by have : (cS x.r0 y.r0).cells = x.r0.cells := rfl; omega)]
end Go.Proofs.Wb

namespace Go.Gx
open Go Go.Fw Go.RowKit
section
variable {H : Type} {enc : TypeId × Value → H} {P : Program} {w : World} {base : Nat} {sp : Nat → Bool} {held : Bool}
def Opens (enc : TypeId × Value → H) (P : Program) (w : World) (base : Nat) (sp : Nat → Bool) (held : Bool) {α : Type} (R : Row α) (wf : α → Prop) (t : TypeId) : Prop :=
  ∀ fuel cs x, DataW.trod enc P w base sp held fuel t cs = some x → ∃ a, cs = R.cells a ∧ wf a
def u8P (n : Int) : Prop := 0 ≤ n ∧ n ≤ 255
theorem wf_u8P {n : Int} (h : (Lit.int .u8 n).wf = true) : u8P n := by
  simp [Lit.wf, IntKind.min, IntKind.max, IntKind.signed, IntKind.bits] at h
  unfold u8P; omega
theorem opens_u8 {t : TypeId} (ht : P.underlying t = some (.int .u8)) : Opens enc P w base sp held RU8 u8P t := fun fuel cs x h => by
  obtain ⟨n, rfl, _, hw⟩ := DataW.trod_int ht h
  exact ⟨n, rfl, wf_u8P hw⟩
theorem fieldAt {fs : Array Field} {t : TypeId} {fuel : Nat} {cs : List Value} {x : DataW H × List MemPlace} (ht : P.underlying t = some (.struct fs)) (h : DataW.trod enc P w base sp held fuel t cs = some x) {α : Type} {R : Row α} {wf : α → Prop} (i : Nat) {T o k : Nat}
    (hf : (fs[i]?).map (fun fd => (fd.type, fd.offset)) = some (T, o)) (hk : P.cellsOf T = k) (hR : Opens enc P w base sp held R wf T) : ∃ a, (cs.drop o).take k = R.cells a ∧ wf a := by
  obtain ⟨xs, n, rfl, _, hlen, hxl, hx⟩ := DataW.trod_struct ht h
  obtain ⟨fd, hfd, he⟩ : ∃ fd, fs[i]? = some fd ∧ (fd.type, fd.offset) = (T, o) := by
    cases hh : fs[i]? with
    | none => simp [hh] at hf
    | some fd => exact ⟨fd, rfl, by simpa [hh] using hf⟩
  simp only [Prod.mk.injEq] at he
  obtain ⟨rfl, rfl⟩ := he
  have h1 := hx i fd hfd
  rw [hk] at h1
  have hi : i < xs.length := by rw [hxl]; exact (Array.getElem?_eq_some_iff.1 hfd).1
  rw [List.getElem?_eq_getElem hi] at h1
  exact hR _ _ _ h1
structure SlIn {α : Type} (R : Row α) (wf : α → Prop) (w : World) (v : Value) (A : Option Addr) (n c : Nat) (l : List α) : Prop where
  val : v = .slice A n c
  len : l.length = n
  ok : AOK n A
  le : n ≤ c
  max : c ≤ maxLen
  seg : segOK w (aB A, aO A, R.enc l)
  wf : ∀ x, x ∈ l → wf x
theorem choose_list {α : Type} {p : Nat → α → Prop} : ∀ (n : Nat), (∀ i, i < n → ∃ a, p i a) → ∃ l : List α, l.length = n ∧ ∀ i (h : i < l.length), p i l[i]
  | 0, _ => ⟨[], rfl, fun i h => by simp at h⟩
  | n + 1, h => by
    obtain ⟨l, hl, hp⟩ := choose_list n (fun i hi => h i (by omega))
    obtain ⟨a, ha⟩ := h n (by omega)
    refine ⟨l ++ [a], by simp [hl], fun i hi => ?_⟩
    by_cases hil : i < l.length
    · rw [List.getElem_append_left hil]; exact hp i hil
    · have : i = l.length := by simp at hi; omega
      subst this
      rw [List.getElem_append_right (by omega)]
      simp only [Nat.sub_self, List.getElem_cons_zero]
      rw [hl]; exact ha
theorem openSl {α : Type} {R : Row α} {wf : α → Prop} {t e : TypeId} (ht : P.underlying t = some (.slice e)) (hc : P.cellsOf e = R.sz) (hR : Opens enc P w base sp held R wf e) (h0 : Nat.blt 0 R.sz = true)
    {fuel : Nat} {cs : List Value} {x : DataW H × List MemPlace} (h : DataW.trod enc P w base sp held fuel t cs = some x) : ∃ (v : Value) (A : Option Addr) (n c : Nat) (l : List α), cs = [v] ∧ SlIn R wf w v A n c l := by
  have hsz : 0 < R.sz := by simpa using h0
  rcases Go.Deep.open_slice ht h with ⟨rfl, _⟩ | ⟨a, len, cap, m, n, D, Pl, rfl, hb, hl, hm, hmm, _, hi⟩
  · exact ⟨_, none, 0, 0, [], rfl, rfl, rfl, AOK.nil, Nat.le_refl _, Nat.zero_le _, segOK.nil, by simp⟩
  · have hlm : len ≤ m := by rw [hmm]; split <;> omega
    have hcell : ∀ i, i < len → ∃ x : α, (∀ f (hf : f < (R.cells x).length), w.cell? (a.add (i * R.sz + f)) = some (R.cells x)[f]) ∧ wf x := fun i hil => by
      obtain ⟨cs', h1, h2⟩ := hi i (by omega)
      obtain ⟨x, rfl, hw⟩ := hR _ _ _ h2
      obtain ⟨_, _, hat⟩ := World.cells?_some h1
      refine ⟨x, fun f hf => ?_, hw⟩
      have := hat f (by rw [hc, ← R.len x]; exact hf)
      rw [hc] at this
      rw [List.getElem?_eq_getElem hf] at this
      have e : (a.add (i * R.sz)).add f = a.add (i * R.sz + f) := by
        unfold Addr.add
        by_cases h1 : i * R.sz = 0
        · simp [h1]
        · by_cases h2 : f = 0
          · simp [h2]
          · simp [h1, h2, Nat.add_assoc]
      rw [e] at this
      exact this
    obtain ⟨l, hll, hlp⟩ := choose_list len hcell
    have hspot : 0 < len → a.spot = none := fun h0 => by
      obtain ⟨x, hx, _⟩ := hcell 0 h0
      have := World.cell?_spot (hx 0 (by rw [R.len]; exact hsz))
      simpa [Addr.add] using this
    refine ⟨_, some a, len, cap, l, rfl, rfl, hll, fun h0 => ?_, hl, hm, fun j hj => ?_, fun x hx => ?_⟩
    · obtain ⟨b, o, s⟩ := a
      have := hspot h0
      simp only at this
      subst this
      exact ⟨b, o, rfl⟩
    · have hj' : j < l.length * R.sz := by rw [← R.enc_len]; exact hj
      have hpos : 0 < len := by
        rcases Nat.eq_zero_or_pos len with h | h
        · rw [hll, h, Nat.zero_mul] at hj'; omega
        · exact h
      obtain ⟨b, o, s⟩ := a
      have hs := hspot hpos
      simp only at hs
      subst hs
      have hq : j / R.sz < l.length := Nat.div_lt_of_lt_mul (by rw [Nat.mul_comm]; exact hj')
      have hr : j % R.sz < R.sz := Nat.mod_lt _ hsz
      have hd : j / R.sz * R.sz + j % R.sz = j := by rw [Nat.mul_comm]; exact Nat.div_add_mod j R.sz
      have h1 := (hlp (j / R.sz) hq).1 (j % R.sz) (by rw [R.len]; exact hr)
      rw [hd] at h1
      have h2 := R.enc_get l (j / R.sz) (j % R.sz) l[j / R.sz] (List.getElem?_eq_getElem hq) hr
      rw [hd] at h2
      have h3 : (⟨b, o, none⟩ : Addr).add j = ⟨b, o + j, none⟩ := addr_add b o j
      rw [h3] at h1
      simp only [aB, aO, Option.map_some, Option.getD_some]
      rw [h1, ← List.getElem?_eq_getElem, ← h2, List.getElem?_eq_getElem hj]
    · obtain ⟨i, hi', rfl⟩ := List.getElem_of_mem hx
      exact (hlp i hi').2
theorem HV.begin {ro : List Sg} (h : ∀ s, s ∈ ro → segOK w s) : HV w (keys [] []) [] [] ro w :=
  ⟨rfl, rfl, rfl, Nat.le_refl _, fun _ _ _ => rfl, by simp [vbl], by simp [vbl], by simp [vbl], h, by simp [vbl]⟩
theorem segCons {s : Sg} {ro : List Sg} (h : segOK w s) (hr : ∀ t, t ∈ ro → segOK w t) : ∀ t, t ∈ s :: ro → segOK w t := fun t ht => by
  rcases List.mem_cons.1 ht with rfl | ht
  · exact h
  · exact hr t ht
theorem segNil : ∀ t, t ∈ ([] : List Sg) → segOK w t := fun t ht => by cases ht
theorem HV.below {w' : World} (h : HV w (keys [] []) [] [] [] w') : Below w.heap.size w w' := by
  have : Ext [] w w' := HS.toExt h
  exact this.below
end
end Go.Gx

