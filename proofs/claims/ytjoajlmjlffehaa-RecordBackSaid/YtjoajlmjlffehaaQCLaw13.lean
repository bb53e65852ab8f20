/- Contracts of the laws of chapter 13, but for Parse. -/
import Derived.Test.YtjoajlmjlffehaaQCRec
set_option maxRecDepth 100000
namespace Go.Sal
open Go.Vse Go.Sal.Nm

def c_clonePie : PC := O [.slc T_Pie] T_Pie t_api_Piece 33 [] (fun x => some (x.1.length ≤ ROOM)) (fun x => (x.1, ()))

theorem clonePie_vc (l : List Pie) (h : l.length ≤ ROOM) :
    ∀ (q : Bool),
      (q = true → l = nilOf (T.den (T.pair (T.arr 32 T.u8) T.i64))) →
        ((q == true) = true → l = nilOf (T.den (T.pair (T.arr 32 T.u8) T.i64))) ∧
          ((q == true) = false → List.length (nilOf (T.den (T.pair (T.arr 32 T.u8) T.i64))) + List.length l ≤ ROOM ∧ nilOf (T.den (T.pair (T.arr 32 T.u8) T.i64)) ++ l = l) := by
  intro q hq
  refine ⟨fun h => hq (by simpa using h), fun _ => ⟨by unfold nilOf; simpa using h, rfl⟩⟩

def c_eqPie : PC := D [.slc T_Pie, .slc T_Pie] [.bool] (fun _ => none) (fun x => (decide (x.1 = x.2.1), ()))

def an_eqPie (a b : List Pie) : Nat → SState → Option LoopAnn
  | 4, _ => some { X := Nat, slots := fun i => [(13, .sv (.dv (.i64 i)))], objs := fun _ => [], inv := fun i => i ≤ a.length ∧ a.take i = b.take i, meas := fun i => a.length - i }
  | _, _ => none

theorem eqPie_vc (a b : List Pie) (hl : a.length ≤ LIM) :
    ((ofN (List.length a) != ofN (List.length b)) = true → false = decide (a = b)) ∧
      ((ofN (List.length a) != ofN (List.length b)) = false →
        (∃ (x : Nat), (x ≤ List.length a ∧ List.take x a = List.take x b) ∧ 0 = ofN x) ∧
          ∀ (x : Nat),
            x ≤ List.length a ∧ List.take x a = List.take x b →
              (decide (ofN x < ofN (List.length a)) = true →
                  within (ofN x) (List.length a) ∧
                    within (ofN x) (List.length b) ∧
                      ((!(eqL T.u8 (List.getD a (Int.toNat (ofN x)) (T.dflt (T.pair (T.arr 32 T.u8) T.i64))).1 (List.getD b (Int.toNat (ofN x)) (T.dflt (T.pair (T.arr 32 T.u8) T.i64))).1 &&
                                (List.getD a (Int.toNat (ofN x)) (T.dflt (T.pair (T.arr 32 T.u8) T.i64))).2 == (List.getD b (Int.toNat (ofN x)) (T.dflt (T.pair (T.arr 32 T.u8) T.i64))).2)) =
                            true →
                          false = decide (a = b)) ∧
                        ((!(eqL T.u8 (List.getD a (Int.toNat (ofN x)) (T.dflt (T.pair (T.arr 32 T.u8) T.i64))).1 (List.getD b (Int.toNat (ofN x)) (T.dflt (T.pair (T.arr 32 T.u8) T.i64))).1 &&
                                (List.getD a (Int.toNat (ofN x)) (T.dflt (T.pair (T.arr 32 T.u8) T.i64))).2 == (List.getD b (Int.toNat (ofN x)) (T.dflt (T.pair (T.arr 32 T.u8) T.i64))).2)) =
                            false →
                          inI64 (ofN x + 1) ∧ ∃ (x' : Nat), (x' ≤ List.length a ∧ List.take x' a = List.take x' b) ∧ List.length a - x' < List.length a - x ∧ ofN x + 1 = ofN x')) ∧
                (decide (ofN x < ofN (List.length a)) = false → true = decide (a = b))) := by
  have dpie : ∀ p q : Pie, (eqL T.u8 p.1 q.1 && p.2 == q.2) = decide (p = q) := fun p q => by
    rw [eqL_u8, Bool.eq_iff_iff]
    obtain ⟨p1, p2⟩ := p
    obtain ⟨q1, q2⟩ := q
    simp [Prod.ext_iff]
  refine ⟨fun h => ?_, fun h => ⟨⟨0, ⟨by omega, by simp⟩, rfl⟩, fun i ⟨h1, h2⟩ => ⟨fun hc => ?_, fun hc => ?_⟩⟩⟩
  · simp only [ofN, bne_iff_ne, ne_eq, Int.ofNat_inj] at h
    rw [decide_eq_false (fun e => h (by rw [e]))]
  · simp only [ofN, bne_eq_false_iff_eq, Int.ofNat_inj, decide_eq_true_eq, Int.ofNat_lt, Int.toNat_natCast, dpie, Bool.not_eq_true', Bool.not_eq_false'] at h hc ⊢
    rw [decide_eq_false_iff_not]
    have hl' : a.length ≤ 9223372036854775807 := hl
    refine ⟨by unfold within; omega, by unfold within; omega, fun g => ?_, fun g => ⟨by unfold inI64; omega, i + 1, ⟨by omega, ?_⟩, by omega, by omega⟩⟩
    · rw [decide_eq_false (fun e => g (by rw [e]))]
    · rw [take_snoc' (d := T.dflt (T.pair (T.arr 32 T.u8) T.i64)) hc, take_snoc' (d := T.dflt (T.pair (T.arr 32 T.u8) T.i64)) (h ▸ hc), h2, g]
  · simp only [ofN, bne_eq_false_iff_eq, Int.ofNat_inj, decide_eq_false_iff_not, Int.ofNat_lt] at h hc
    have e1 : a.take i = a := List.take_of_length_le (by omega)
    have e2 : b.take i = b := List.take_of_length_le (by omega)
    rw [e1, e2] at h2
    rw [decide_eq_true h2]

def c_Make : PC := D [T_Head, T_Rec] [T_Rec, .i64] (fun x => some (x.2.1.2.2.2.2.2.2.length ≤ ROOM)) (fun x => ((makeV x.1 x.2.1).1, (makeV x.1 x.2.1).2, ()))

theorem makeV_range {h : HeadT} {r : Rec} (g : ¬ ((0 : Int) ≤ h.1 ∧ (1073741824 : Int) > h.1)) : makeV h r = (rec0, 130) := by
  unfold makeV; exact if_neg g
theorem makeV_bad {h : HeadT} {r : Rec} (g : ¬ checkV (madeV h r) = 0) : makeV h r = (rec0, 130) := by
  unfold makeV
  rw [if_neg g]
  rcases check_err (madeV h r) with q | q
  · exact absurd q g
  · rw [q]; split <;> rfl
theorem makeV_not {h : HeadT} {r : Rec} (g1 : (0 : Int) ≤ h.1) (g2 : (1073741824 : Int) > h.1) (g3 : checkV (madeV h r) = 0) (g4 : followsV h (madeV h r) = false) : makeV h r = (rec0, 131) := by
  unfold makeV
  rw [if_pos ⟨g1, g2⟩, if_pos g3, if_neg (by rw [g4]; simp)]
theorem makeV_yes {h : HeadT} {r : Rec} (g1 : (0 : Int) ≤ h.1) (g2 : (1073741824 : Int) > h.1) (g3 : checkV (madeV h r) = 0) (g4 : followsV h (madeV h r) = true) : makeV h r = (madeV h r, 0) := by
  unfold makeV
  rw [if_pos ⟨g1, g2⟩, if_pos g3, if_pos g4]
theorem makeV_next {h : HeadT} {r : Rec} (g1 : (0 : Int) ≤ h.1) (g2 : (1073741824 : Int) > h.1) : makeV h r = (if (nextV h (madeV h r)).2 = 0 then madeV h r else rec0, (nextV h (madeV h r)).2) := by
  unfold makeV nextV
  rw [if_pos ⟨g1, g2⟩]
  rcases check_err (madeV h r) with q | q
  · rw [if_pos q, if_pos q]
    by_cases f : followsV h (madeV h r) = true
    · rw [if_pos f, if_pos f]; rfl
    · rw [if_neg f, if_neg f]; rfl
  · rw [q]; rfl
theorem madeV_other {h : HeadT} {r : Rec} (g : ¬ r.2.2.2.1 = (1 : Int)) : madeV h r = (h.1 + 1, h.2.1, h.2.2, r.2.2.2.1, r.2.2.2.2.1, r.2.2.2.2.2.1, r.2.2.2.2.2.2) := by
  unfold madeV; rw [if_neg g]
theorem madeV_epoch {h : HeadT} {r : Rec} (g : r.2.2.2.1 = (1 : Int)) : madeV h r = (h.1 + 1, r.2.1, h.2.2, r.2.2.2.1, r.2.2.2.2.1, r.2.2.2.2.2.1, r.2.2.2.2.2.2) := by
  unfold madeV; rw [if_pos g]

theorem record_Make_vc (h : HeadT) (r : Rec) (hr : r.2.2.2.2.2.2.length ≤ ROOM) (hb : inI64 h.1) :
    (decide (1073741824 ≤ h.1) = true →
        (ofN 0 = (makeV h r).1.1 ∧
            ofN 0 = (makeV h r).1.2.1 ∧
              List.replicate 32 0#8 = (makeV h r).1.2.2.1 ∧
                ofN 0 = (makeV h r).1.2.2.2.1 ∧ ofN 0 = (makeV h r).1.2.2.2.2.1 ∧ nilOf (BitVec 8) = (makeV h r).1.2.2.2.2.2.1 ∧ nilOf (T.den (T.pair (T.arr 32 T.u8) T.i64)) = (makeV h r).1.2.2.2.2.2.2) ∧
          130 = (makeV h r).2) ∧
      (decide (1073741824 ≤ h.1) = false →
        inI64 (h.1 + 1) ∧
          List.length r.2.2.2.2.2.2 ≤ ROOM ∧
            ((r.2.2.2.1 != 1) = true →
                ((checkV (h.1 + 1, h.2.1, h.2.2, r.2.2.2) != 0) = true →
                    (ofN 0 = (makeV h r).1.1 ∧
                        ofN 0 = (makeV h r).1.2.1 ∧
                          List.replicate 32 0#8 = (makeV h r).1.2.2.1 ∧
                            ofN 0 = (makeV h r).1.2.2.2.1 ∧
                              ofN 0 = (makeV h r).1.2.2.2.2.1 ∧ nilOf (BitVec 8) = (makeV h r).1.2.2.2.2.2.1 ∧ nilOf (T.den (T.pair (T.arr 32 T.u8) T.i64)) = (makeV h r).1.2.2.2.2.2.2) ∧
                      checkV (h.1 + 1, h.2.1, h.2.2, r.2.2.2) = (makeV h r).2) ∧
                  ((checkV (h.1 + 1, h.2.1, h.2.2, r.2.2.2) != 0) = false →
                    1 ≤ h.1 + 1 ∧
                      ((!followsV h (h.1 + 1, h.2.1, h.2.2, r.2.2.2)) = true →
                          (ofN 0 = (makeV h r).1.1 ∧
                              ofN 0 = (makeV h r).1.2.1 ∧
                                List.replicate 32 0#8 = (makeV h r).1.2.2.1 ∧
                                  ofN 0 = (makeV h r).1.2.2.2.1 ∧
                                    ofN 0 = (makeV h r).1.2.2.2.2.1 ∧ nilOf (BitVec 8) = (makeV h r).1.2.2.2.2.2.1 ∧ nilOf (T.den (T.pair (T.arr 32 T.u8) T.i64)) = (makeV h r).1.2.2.2.2.2.2) ∧
                            131 = (makeV h r).2) ∧
                        ((!followsV h (h.1 + 1, h.2.1, h.2.2, r.2.2.2)) = false →
                          (h.1 + 1 = (makeV h r).1.1 ∧
                              h.2.1 = (makeV h r).1.2.1 ∧
                                h.2.2 = (makeV h r).1.2.2.1 ∧
                                  r.2.2.2.1 = (makeV h r).1.2.2.2.1 ∧ r.2.2.2.2.1 = (makeV h r).1.2.2.2.2.1 ∧ r.2.2.2.2.2.1 = (makeV h r).1.2.2.2.2.2.1 ∧ r.2.2.2.2.2.2 = (makeV h r).1.2.2.2.2.2.2) ∧
                            0 = (makeV h r).2))) ∧
              ((r.2.2.2.1 != 1) = false →
                ((checkV (h.1 + 1, r.2.1, h.2.2, r.2.2.2) != 0) = true →
                    (ofN 0 = (makeV h r).1.1 ∧
                        ofN 0 = (makeV h r).1.2.1 ∧
                          List.replicate 32 0#8 = (makeV h r).1.2.2.1 ∧
                            ofN 0 = (makeV h r).1.2.2.2.1 ∧
                              ofN 0 = (makeV h r).1.2.2.2.2.1 ∧ nilOf (BitVec 8) = (makeV h r).1.2.2.2.2.2.1 ∧ nilOf (T.den (T.pair (T.arr 32 T.u8) T.i64)) = (makeV h r).1.2.2.2.2.2.2) ∧
                      checkV (h.1 + 1, r.2.1, h.2.2, r.2.2.2) = (makeV h r).2) ∧
                  ((checkV (h.1 + 1, r.2.1, h.2.2, r.2.2.2) != 0) = false →
                    1 ≤ h.1 + 1 ∧
                      ((!followsV h (h.1 + 1, r.2.1, h.2.2, r.2.2.2)) = true →
                          (ofN 0 = (makeV h r).1.1 ∧
                              ofN 0 = (makeV h r).1.2.1 ∧
                                List.replicate 32 0#8 = (makeV h r).1.2.2.1 ∧
                                  ofN 0 = (makeV h r).1.2.2.2.1 ∧
                                    ofN 0 = (makeV h r).1.2.2.2.2.1 ∧ nilOf (BitVec 8) = (makeV h r).1.2.2.2.2.2.1 ∧ nilOf (T.den (T.pair (T.arr 32 T.u8) T.i64)) = (makeV h r).1.2.2.2.2.2.2) ∧
                            131 = (makeV h r).2) ∧
                        ((!followsV h (h.1 + 1, r.2.1, h.2.2, r.2.2.2)) = false →
                          (h.1 + 1 = (makeV h r).1.1 ∧
                              r.2.1 = (makeV h r).1.2.1 ∧
                                h.2.2 = (makeV h r).1.2.2.1 ∧
                                  r.2.2.2.1 = (makeV h r).1.2.2.2.1 ∧ r.2.2.2.2.1 = (makeV h r).1.2.2.2.2.1 ∧ r.2.2.2.2.2.1 = (makeV h r).1.2.2.2.2.2.1 ∧ r.2.2.2.2.2.2 = (makeV h r).1.2.2.2.2.2.2) ∧
                            0 = (makeV h r).2)))) := by
  have hb' : (-9223372036854775808 : Int) ≤ h.1 ∧ (9223372036854775807 : Int) ≥ h.1 := hb
  refine ⟨fun g => ?_, fun g => ?_⟩
  · simp only [decide_eq_true_eq] at g
    have g : (1073741824 : Int) ≤ h.1 := g
    rw [makeV_range (by omega)]
    exact ⟨⟨rfl, rfl, rfl, rfl, rfl, rfl, rfl⟩, rfl⟩
  simp only [decide_eq_false_iff_not] at g
  have g : ¬ (1073741824 : Int) ≤ h.1 := g
  refine ⟨by unfold inI64; omega, hr, fun g1 => ?_, fun g1 => ?_⟩
  · have em := madeV_other (h := h) (r := r) (by simpa using g1)
    refine ⟨fun g2 => ?_, fun g2 => ⟨?_, fun g3 => ?_, fun g3 => ?_⟩⟩
    · have g2 : ¬ checkV (madeV h r) = 0 := by rw [em]; simpa using g2
      rw [makeV_bad g2]
      refine ⟨⟨rfl, rfl, rfl, rfl, rfl, rfl, rfl⟩, ?_⟩
      rcases check_err (madeV h r) with q | q
      · exact absurd q g2
      · rw [← em]; exact q
    · have g2 : checkV (madeV h r) = 0 := by rw [em]; simpa using g2
      have := (check_ok g2).1
      rw [em] at this; exact this
    · have g2 : checkV (madeV h r) = 0 := by rw [em]; simpa using g2
      have g3 : followsV h (madeV h r) = false := by rw [em]; simpa using g3
      have := (check_ok g2).1
      rw [em] at this
      have this : (1 : Int) ≤ h.1 + 1 := this
      rw [makeV_not (by omega) (by omega) g2 g3]
      exact ⟨⟨rfl, rfl, rfl, rfl, rfl, rfl, rfl⟩, rfl⟩
    · have g2 : checkV (madeV h r) = 0 := by rw [em]; simpa using g2
      have g3 : followsV h (madeV h r) = true := by rw [em]; simpa using g3
      have := (check_ok g2).1
      rw [em] at this
      have this : (1 : Int) ≤ h.1 + 1 := this
      rw [makeV_yes (by omega) (by omega) g2 g3, em]
      exact ⟨⟨rfl, rfl, rfl, rfl, rfl, rfl, rfl⟩, rfl⟩
  · have em := madeV_epoch (h := h) (r := r) (by simpa using g1)
    refine ⟨fun g2 => ?_, fun g2 => ⟨?_, fun g3 => ?_, fun g3 => ?_⟩⟩
    · have g2 : ¬ checkV (madeV h r) = 0 := by rw [em]; simpa using g2
      rw [makeV_bad g2]
      refine ⟨⟨rfl, rfl, rfl, rfl, rfl, rfl, rfl⟩, ?_⟩
      rcases check_err (madeV h r) with q | q
      · exact absurd q g2
      · rw [← em]; exact q
    · have g2 : checkV (madeV h r) = 0 := by rw [em]; simpa using g2
      have := (check_ok g2).1
      rw [em] at this; exact this
    · have g2 : checkV (madeV h r) = 0 := by rw [em]; simpa using g2
      have g3 : followsV h (madeV h r) = false := by rw [em]; simpa using g3
      have := (check_ok g2).1
      rw [em] at this
      have this : (1 : Int) ≤ h.1 + 1 := this
      rw [makeV_not (by omega) (by omega) g2 g3]
      exact ⟨⟨rfl, rfl, rfl, rfl, rfl, rfl, rfl⟩, rfl⟩
    · have g2 : checkV (madeV h r) = 0 := by rw [em]; simpa using g2
      have g3 : followsV h (madeV h r) = true := by rw [em]; simpa using g3
      have := (check_ok g2).1
      rw [em] at this
      have this : (1 : Int) ≤ h.1 + 1 := this
      rw [makeV_yes (by omega) (by omega) g2 g3, em]
      exact ⟨⟨rfl, rfl, rfl, rfl, rfl, rfl, rfl⟩, rfl⟩

theorem ref13_Make_vc (h : HeadT) (r : Rec) :
    ((decide (1073741824 ≤ h.1) || decide (h.1 < 0)) = true →
        (ofN 0 = (makeV h r).1.1 ∧
            ofN 0 = (makeV h r).1.2.1 ∧
              List.replicate 32 0#8 = (makeV h r).1.2.2.1 ∧
                ofN 0 = (makeV h r).1.2.2.2.1 ∧ ofN 0 = (makeV h r).1.2.2.2.2.1 ∧ nilOf (BitVec 8) = (makeV h r).1.2.2.2.2.2.1 ∧ nilOf (T.den (T.pair (T.arr 32 T.u8) T.i64)) = (makeV h r).1.2.2.2.2.2.2) ∧
          130 = (makeV h r).2) ∧
      ((decide (1073741824 ≤ h.1) || decide (h.1 < 0)) = false →
        inI64 (h.1 + 1) ∧
          ((r.2.2.2.1 != 1) = true →
              (((nextV h (h.1 + 1, h.2.1, h.2.2, r.2.2.2)).2 != 0) = true →
                  (ofN 0 = (makeV h r).1.1 ∧
                      ofN 0 = (makeV h r).1.2.1 ∧
                        List.replicate 32 0#8 = (makeV h r).1.2.2.1 ∧
                          ofN 0 = (makeV h r).1.2.2.2.1 ∧
                            ofN 0 = (makeV h r).1.2.2.2.2.1 ∧ nilOf (BitVec 8) = (makeV h r).1.2.2.2.2.2.1 ∧ nilOf (T.den (T.pair (T.arr 32 T.u8) T.i64)) = (makeV h r).1.2.2.2.2.2.2) ∧
                    (nextV h (h.1 + 1, h.2.1, h.2.2, r.2.2.2)).2 = (makeV h r).2) ∧
                (((nextV h (h.1 + 1, h.2.1, h.2.2, r.2.2.2)).2 != 0) = false →
                  (h.1 + 1 = (makeV h r).1.1 ∧
                      h.2.1 = (makeV h r).1.2.1 ∧
                        h.2.2 = (makeV h r).1.2.2.1 ∧
                          r.2.2.2.1 = (makeV h r).1.2.2.2.1 ∧ r.2.2.2.2.1 = (makeV h r).1.2.2.2.2.1 ∧ r.2.2.2.2.2.1 = (makeV h r).1.2.2.2.2.2.1 ∧ r.2.2.2.2.2.2 = (makeV h r).1.2.2.2.2.2.2) ∧
                    0 = (makeV h r).2)) ∧
            ((r.2.2.2.1 != 1) = false →
              (((nextV h (h.1 + 1, r.2.1, h.2.2, r.2.2.2)).2 != 0) = true →
                  (ofN 0 = (makeV h r).1.1 ∧
                      ofN 0 = (makeV h r).1.2.1 ∧
                        List.replicate 32 0#8 = (makeV h r).1.2.2.1 ∧
                          ofN 0 = (makeV h r).1.2.2.2.1 ∧
                            ofN 0 = (makeV h r).1.2.2.2.2.1 ∧ nilOf (BitVec 8) = (makeV h r).1.2.2.2.2.2.1 ∧ nilOf (T.den (T.pair (T.arr 32 T.u8) T.i64)) = (makeV h r).1.2.2.2.2.2.2) ∧
                    (nextV h (h.1 + 1, r.2.1, h.2.2, r.2.2.2)).2 = (makeV h r).2) ∧
                (((nextV h (h.1 + 1, r.2.1, h.2.2, r.2.2.2)).2 != 0) = false →
                  (h.1 + 1 = (makeV h r).1.1 ∧
                      r.2.1 = (makeV h r).1.2.1 ∧
                        h.2.2 = (makeV h r).1.2.2.1 ∧
                          r.2.2.2.1 = (makeV h r).1.2.2.2.1 ∧ r.2.2.2.2.1 = (makeV h r).1.2.2.2.2.1 ∧ r.2.2.2.2.2.1 = (makeV h r).1.2.2.2.2.2.1 ∧ r.2.2.2.2.2.2 = (makeV h r).1.2.2.2.2.2.2) ∧
                    0 = (makeV h r).2))) := by
  refine ⟨fun g => ?_, fun g => ?_⟩
  · simp only [Bool.or_eq_true, decide_eq_true_eq] at g
    have g : (1073741824 : Int) ≤ h.1 ∨ (0 : Int) > h.1 := g
    rw [makeV_range (by omega)]
    exact ⟨⟨rfl, rfl, rfl, rfl, rfl, rfl, rfl⟩, rfl⟩
  simp only [Bool.or_eq_false_iff, decide_eq_false_iff_not] at g
  have ga : ¬ (1073741824 : Int) ≤ h.1 := g.1
  have gb : ¬ (0 : Int) > h.1 := g.2
  refine ⟨by unfold inI64; omega, fun g1 => ?_, fun g1 => ?_⟩
  · have em := madeV_other (h := h) (r := r) (by simpa using g1)
    refine ⟨fun g2 => ?_, fun g2 => ?_⟩
    · have g2 : ¬ (nextV h (madeV h r)).2 = 0 := by rw [em]; simpa using g2
      rw [makeV_next (by omega) (by omega), if_neg g2]
      exact ⟨⟨rfl, rfl, rfl, rfl, rfl, rfl, rfl⟩, by rw [em]⟩
    · have g2 : (nextV h (madeV h r)).2 = 0 := by rw [em]; simpa using g2
      rw [makeV_next (by omega) (by omega), if_pos g2, g2, em]
      exact ⟨⟨rfl, rfl, rfl, rfl, rfl, rfl, rfl⟩, rfl⟩
  · have em := madeV_epoch (h := h) (r := r) (by simpa using g1)
    refine ⟨fun g2 => ?_, fun g2 => ?_⟩
    · have g2 : ¬ (nextV h (madeV h r)).2 = 0 := by rw [em]; simpa using g2
      rw [makeV_next (by omega) (by omega), if_neg g2]
      exact ⟨⟨rfl, rfl, rfl, rfl, rfl, rfl, rfl⟩, by rw [em]⟩
    · have g2 : (nextV h (madeV h r)).2 = 0 := by rw [em]; simpa using g2
      rw [makeV_next (by omega) (by omega), if_pos g2, g2, em]
      exact ⟨⟨rfl, rfl, rfl, rfl, rfl, rfl, rfl⟩, rfl⟩

def c_Same : PC := D [T_Rec, T_Rec] [.bool] (fun _ => none) (fun x => (sameV x.1 x.2.1, ()))

theorem sameV_self (a : Rec) : sameV a a = true := by
  unfold sameV; simp
theorem sameV_iff (a b : Rec) : sameV a b = true ↔ a = b := by
  obtain ⟨a1, a2, a3, a4, a5, a6, a7⟩ := a
  obtain ⟨b1, b2, b3, b4, b5, b6, b7⟩ := b
  unfold sameV
  simp only [Bool.and_eq_true, decide_eq_true_eq, beq_iff_eq, Prod.mk.injEq, and_assoc]

theorem record_Same_vc (a b : Rec) :
    (a.1 == b.1 && a.2.1 == b.2.1 && eqL T.u8 a.2.2.1 b.2.2.1 && a.2.2.2.1 == b.2.2.2.1 && a.2.2.2.2.1 == b.2.2.2.2.1 && a.2.2.2.2.2.1 == b.2.2.2.2.2.1 && decide (a.2.2.2.2.2.2 = b.2.2.2.2.2.2)) =
      sameV a b := by
  rw [eqL_u8]
  unfold sameV
  rw [Bool.eq_iff_iff]
  simp only [Bool.and_eq_true, decide_eq_true_eq, beq_iff_eq]

def an_rSame (a b : Rec) : Nat → SState → Option LoopAnn
  | 4, _ => some { X := Nat, slots := fun i => [(5, .sv (.dv (.i64 i)))], objs := fun _ => [], inv := fun i => i ≤ a.2.2.2.2.2.2.length ∧ a.2.2.2.2.2.2.take i = b.2.2.2.2.2.2.take i, meas := fun i => a.2.2.2.2.2.2.length - i }
  | _, _ => none

theorem ref13_Same_vc (a b : Rec) (hl : a.2.2.2.2.2.2.length ≤ LIM) :
    ((a.1 != b.1 || a.2.1 != b.2.1 || !eqL T.u8 a.2.2.1 b.2.2.1 || a.2.2.2.1 != b.2.2.2.1 || a.2.2.2.2.1 != b.2.2.2.2.1 || a.2.2.2.2.2.1 != b.2.2.2.2.2.1 ||
            ofN (List.length a.2.2.2.2.2.2) != ofN (List.length b.2.2.2.2.2.2)) =
          true →
        false = sameV a b) ∧
      ((a.1 != b.1 || a.2.1 != b.2.1 || !eqL T.u8 a.2.2.1 b.2.2.1 || a.2.2.2.1 != b.2.2.2.1 || a.2.2.2.2.1 != b.2.2.2.2.1 || a.2.2.2.2.2.1 != b.2.2.2.2.2.1 ||
            ofN (List.length a.2.2.2.2.2.2) != ofN (List.length b.2.2.2.2.2.2)) =
          false →
        (∃ (x : Nat), (x ≤ List.length a.2.2.2.2.2.2 ∧ List.take x a.2.2.2.2.2.2 = List.take x b.2.2.2.2.2.2) ∧ 0 = ofN x) ∧
          ∀ (x : Nat),
            x ≤ List.length a.2.2.2.2.2.2 ∧ List.take x a.2.2.2.2.2.2 = List.take x b.2.2.2.2.2.2 →
              (decide (ofN x < ofN (List.length a.2.2.2.2.2.2)) = true →
                  within (ofN x) (List.length a.2.2.2.2.2.2) ∧
                    within (ofN x) (List.length b.2.2.2.2.2.2) ∧
                      ((!(eqL T.u8 (List.getD a.2.2.2.2.2.2 (Int.toNat (ofN x)) (T.dflt (T.pair (T.arr 32 T.u8) T.i64))).1
                                  (List.getD b.2.2.2.2.2.2 (Int.toNat (ofN x)) (T.dflt (T.pair (T.arr 32 T.u8) T.i64))).1 &&
                                (List.getD a.2.2.2.2.2.2 (Int.toNat (ofN x)) (T.dflt (T.pair (T.arr 32 T.u8) T.i64))).2 ==
                                  (List.getD b.2.2.2.2.2.2 (Int.toNat (ofN x)) (T.dflt (T.pair (T.arr 32 T.u8) T.i64))).2)) =
                            true →
                          false = sameV a b) ∧
                        ((!(eqL T.u8 (List.getD a.2.2.2.2.2.2 (Int.toNat (ofN x)) (T.dflt (T.pair (T.arr 32 T.u8) T.i64))).1
                                  (List.getD b.2.2.2.2.2.2 (Int.toNat (ofN x)) (T.dflt (T.pair (T.arr 32 T.u8) T.i64))).1 &&
                                (List.getD a.2.2.2.2.2.2 (Int.toNat (ofN x)) (T.dflt (T.pair (T.arr 32 T.u8) T.i64))).2 ==
                                  (List.getD b.2.2.2.2.2.2 (Int.toNat (ofN x)) (T.dflt (T.pair (T.arr 32 T.u8) T.i64))).2)) =
                            false →
                          inI64 (ofN x + 1) ∧
                            ∃ (x' : Nat),
                              (x' ≤ List.length a.2.2.2.2.2.2 ∧ List.take x' a.2.2.2.2.2.2 = List.take x' b.2.2.2.2.2.2) ∧
                                List.length a.2.2.2.2.2.2 - x' < List.length a.2.2.2.2.2.2 - x ∧ ofN x + 1 = ofN x')) ∧
                (decide (ofN x < ofN (List.length a.2.2.2.2.2.2)) = false → true = sameV a b)) := by
  have dpie : ∀ p q : Pie, (eqL T.u8 p.1 q.1 && p.2 == q.2) = decide (p = q) := fun p q => by
    rw [eqL_u8, Bool.eq_iff_iff]
    obtain ⟨p1, p2⟩ := p
    obtain ⟨q1, q2⟩ := q
    simp [Prod.ext_iff]
  have no : ∀ {a b : Rec}, ¬ a = b → false = sameV a b := fun {a b} h => by
    cases hs : sameV a b with
    | false => rfl
    | true => exact absurd ((sameV_iff a b).1 hs) h
  refine ⟨fun h => ?_, fun h => ⟨⟨0, ⟨by omega, by simp⟩, rfl⟩, fun i ⟨h1, h2⟩ => ⟨fun hc => ?_, fun hc => ?_⟩⟩⟩
  · refine no fun e => ?_
    subst e
    rw [eqL_u8] at h
    simp at h
  · have hl' : a.2.2.2.2.2.2.length ≤ 9223372036854775807 := hl
    simp only [Bool.or_eq_false_iff, bne_eq_false_iff_eq, Bool.not_eq_false', ofN, Int.ofNat_inj] at h
    simp only [ofN, decide_eq_true_eq, Int.ofNat_lt, Int.toNat_natCast, dpie, Bool.not_eq_true', Bool.not_eq_false'] at hc ⊢
    rw [decide_eq_false_iff_not]
    refine ⟨by unfold within; omega, by unfold within; omega, fun g => no fun e => g (by rw [e]), fun g => ⟨by unfold inI64; omega, i + 1, ⟨by omega, ?_⟩, by omega, by omega⟩⟩
    rw [take_snoc' (d := T.dflt (T.pair (T.arr 32 T.u8) T.i64)) hc, take_snoc' (d := T.dflt (T.pair (T.arr 32 T.u8) T.i64)) (h.2 ▸ hc), h2, g]
  · simp only [Bool.or_eq_false_iff, bne_eq_false_iff_eq, Bool.not_eq_false', ofN, Int.ofNat_inj, eqL_u8, beq_iff_eq] at h
    simp only [ofN, decide_eq_false_iff_not, Int.ofNat_lt] at hc
    have e1 : a.2.2.2.2.2.2.take i = a.2.2.2.2.2.2 := List.take_of_length_le (by omega)
    have e2 : b.2.2.2.2.2.2.take i = b.2.2.2.2.2.2 := List.take_of_length_le (by omega)
    rw [e1, e2] at h2
    obtain ⟨⟨⟨⟨⟨⟨k1, k2⟩, k3⟩, k4⟩, k5⟩, k6⟩, _⟩ := h
    refine ((sameV_iff a b).2 ?_).symm
    obtain ⟨a1, a2, a3, a4, a5, a6, a7⟩ := a
    obtain ⟨b1, b2, b3, b4, b5, b6, b7⟩ := b
    simp only at k1 k2 k3 k4 k5 k6 h2
    rw [k1, k2, k3, k4, k5, k6, h2]

def c_SameAll : PC := D [.slc T_Rec, .slc T_Rec] [.bool] (fun _ => none) (fun x => (sameAllV x.1 x.2.1, ()))

def an_SameAll (a b : List Rec) : Nat → SState → Option LoopAnn
  | 4, _ => some { X := Nat, slots := fun i => [(5, .sv (.dv (.i64 i)))], objs := fun _ => [], inv := fun i => i ≤ a.length ∧ ∀ j, j < i → sameV (a.getD j T_Rec.dflt) (b.getD j T_Rec.dflt) = true, meas := fun i => a.length - i }
  | _, _ => none

theorem ref13_SameAll_vc (a b : List Rec) (hl : a.length ≤ LIM) :
    ((ofN (List.length a) != ofN (List.length b)) = true → false = sameAllV a b) ∧
      ((ofN (List.length a) != ofN (List.length b)) = false →
        (∃ (x : Nat),
            (x ≤ List.length a ∧
                ∀ (j : Nat),
                  j < x →
                    sameV (List.getD a j (T.dflt T_Rec))
                        (List.getD b j (T.dflt T_Rec)) =
                      true) ∧
              0 = ofN x) ∧
          ∀ (x : Nat),
            (x ≤ List.length a ∧
                ∀ (j : Nat),
                  j < x →
                    sameV (List.getD a j (T.dflt T_Rec))
                        (List.getD b j (T.dflt T_Rec)) =
                      true) →
              (decide (ofN x < ofN (List.length a)) = true →
                  within (ofN x) (List.length a) ∧
                    within (ofN x) (List.length b) ∧
                      ((!sameV
                                (List.getD a (Int.toNat (ofN x))
                                  (T.dflt T_Rec))
                                (List.getD b (Int.toNat (ofN x))
                                  (T.dflt T_Rec))) =
                            true →
                          false = sameAllV a b) ∧
                        ((!sameV
                                (List.getD a (Int.toNat (ofN x))
                                  (T.dflt T_Rec))
                                (List.getD b (Int.toNat (ofN x))
                                  (T.dflt T_Rec))) =
                            false →
                          inI64 (ofN x + 1) ∧
                            ∃ (x' : Nat),
                              (x' ≤ List.length a ∧
                                  ∀ (j : Nat),
                                    j < x' →
                                      sameV
                                          (List.getD a j
                                            (T.dflt T_Rec))
                                          (List.getD b j
                                            (T.dflt T_Rec)) =
                                        true) ∧
                                List.length a - x' < List.length a - x ∧ ofN x + 1 = ofN x')) ∧
                (decide (ofN x < ofN (List.length a)) = false → true = sameAllV a b)) := by
  have hl' : a.length ≤ 9223372036854775807 := hl
  refine ⟨fun h => ?_, fun h => ⟨⟨0, ⟨by omega, fun j hj => by omega⟩, rfl⟩, fun i ⟨h1, h2⟩ => ⟨fun hc => ?_, fun hc => ?_⟩⟩⟩
  · simp only [ofN, bne_iff_ne, ne_eq, Int.ofNat_inj] at h
    unfold sameAllV
    rw [decide_eq_false (fun e => h e.1)]
  · simp only [ofN, bne_eq_false_iff_eq, Int.ofNat_inj, decide_eq_true_eq, Int.ofNat_lt, Int.toNat_natCast, Bool.not_eq_true', Bool.not_eq_false'] at h hc ⊢
    refine ⟨by unfold within; omega, by unfold within; omega, fun g => ?_, fun g => ⟨by unfold inI64; omega, i + 1, ⟨by omega, fun j hj => ?_⟩, by omega, by omega⟩⟩
    · unfold sameAllV
      rw [decide_eq_false]
      intro e
      have := e.2 i hc
      rw [g] at this; cases this
    · by_cases hj' : j < i
      · exact h2 j hj'
      · rw [show j = i by omega]; exact g
  · simp only [ofN, bne_eq_false_iff_eq, Int.ofNat_inj, decide_eq_false_iff_not, Int.ofNat_lt] at h hc
    unfold sameAllV
    rw [decide_eq_true ⟨h, fun j hj => h2 j (by omega)⟩]

def c_cut : PC := D [T_Rec] [T_Rec] (fun _ => none) (fun x => (cutV x.1, ()))

theorem law13_cut_vc (r : Rec) :
    (decide (60 < ofN (List.length r.2.2.2.2.2.2)) = true →
        (ofN 0 ≤ 60 ∧ 60 ≤ ofN (List.length r.2.2.2.2.2.2)) ∧
          (decide (300 < ofN (List.length r.2.2.2.2.2.1)) = true →
              (ofN 0 ≤ 300 ∧ 300 ≤ ofN (List.length r.2.2.2.2.2.1)) ∧
                r.1 = (cutV r).1 ∧
                  r.2.1 = (cutV r).2.1 ∧
                    r.2.2.1 = (cutV r).2.2.1 ∧
                      r.2.2.2.1 = (cutV r).2.2.2.1 ∧
                        r.2.2.2.2.1 = (cutV r).2.2.2.2.1 ∧
                          List.drop 0 (List.take (Int.toNat 300) r.2.2.2.2.2.1) = (cutV r).2.2.2.2.2.1 ∧ List.drop 0 (List.take (Int.toNat 60) r.2.2.2.2.2.2) = (cutV r).2.2.2.2.2.2) ∧
            (decide (300 < ofN (List.length r.2.2.2.2.2.1)) = false →
              r.1 = (cutV r).1 ∧
                r.2.1 = (cutV r).2.1 ∧
                  r.2.2.1 = (cutV r).2.2.1 ∧
                    r.2.2.2.1 = (cutV r).2.2.2.1 ∧ r.2.2.2.2.1 = (cutV r).2.2.2.2.1 ∧ r.2.2.2.2.2.1 = (cutV r).2.2.2.2.2.1 ∧ List.drop 0 (List.take (Int.toNat 60) r.2.2.2.2.2.2) = (cutV r).2.2.2.2.2.2)) ∧
      (decide (60 < ofN (List.length r.2.2.2.2.2.2)) = false →
        (decide (300 < ofN (List.length r.2.2.2.2.2.1)) = true →
            (ofN 0 ≤ 300 ∧ 300 ≤ ofN (List.length r.2.2.2.2.2.1)) ∧
              r.1 = (cutV r).1 ∧
                r.2.1 = (cutV r).2.1 ∧
                  r.2.2.1 = (cutV r).2.2.1 ∧
                    r.2.2.2.1 = (cutV r).2.2.2.1 ∧ r.2.2.2.2.1 = (cutV r).2.2.2.2.1 ∧ List.drop 0 (List.take (Int.toNat 300) r.2.2.2.2.2.1) = (cutV r).2.2.2.2.2.1 ∧ r.2.2.2.2.2.2 = (cutV r).2.2.2.2.2.2) ∧
          (decide (300 < ofN (List.length r.2.2.2.2.2.1)) = false →
            r.1 = (cutV r).1 ∧
              r.2.1 = (cutV r).2.1 ∧
                r.2.2.1 = (cutV r).2.2.1 ∧ r.2.2.2.1 = (cutV r).2.2.2.1 ∧ r.2.2.2.2.1 = (cutV r).2.2.2.2.1 ∧ r.2.2.2.2.2.1 = (cutV r).2.2.2.2.2.1 ∧ r.2.2.2.2.2.2 = (cutV r).2.2.2.2.2.2)) := by
  refine ⟨fun h => ?_, fun h => ?_⟩
  · simp only [ofN, decide_eq_true_eq] at h
    refine ⟨⟨by unfold ofN; decide, by unfold ofN; omega⟩, fun g => ?_, fun g => ⟨rfl, rfl, rfl, rfl, rfl, ?_, ?_⟩⟩
    · simp only [ofN, decide_eq_true_eq] at g
      exact ⟨⟨by unfold ofN; decide, by unfold ofN; omega⟩, rfl, rfl, rfl, rfl, rfl, rfl, rfl⟩
    · simp only [ofN, decide_eq_false_iff_not] at g
      exact (List.take_of_length_le (by omega)).symm
    · rfl
  · simp only [ofN, decide_eq_false_iff_not] at h
    have e : r.2.2.2.2.2.2 = r.2.2.2.2.2.2.take 60 := (List.take_of_length_le (by omega)).symm
    refine ⟨fun g => ?_, fun g => ⟨rfl, rfl, rfl, rfl, rfl, ?_, e⟩⟩
    · simp only [ofN, decide_eq_true_eq] at g
      exact ⟨⟨by unfold ofN; decide, by unfold ofN; omega⟩, rfl, rfl, rfl, rfl, rfl, rfl, e⟩
    · simp only [ofN, decide_eq_false_iff_not] at g
      exact (List.take_of_length_le (by omega)).symm

def c_few : PC := D [.slc T_Rec] [.slc T_Rec] (fun _ => none) (fun x => (fewV x.1, ()))

def an_few (l : List Rec) : Nat → SState → Option LoopAnn
  | 3, S => some { X := Nat, slots := fun i => [(3, .sv (.own 10 T_Rec ((l.take i).map cutV))), (4, .sv (.dv (.i64 i)))], objs := fun _ => [(x_tok S 3, .gone), (10, .tok t_api_Record 38)], inv := fun i => i ≤ l.length ∧ i ≤ 20, meas := fun i => 20 - i }
  | _, _ => none

theorem law13_few_vc (l : List Rec) :
    (∃ (x : Nat),
        (x ≤ List.length l ∧ x ≤ 20) ∧
          List.map cutV (List.take x l) = nilOf (T.den T_Rec) ∧
            0 = ofN x) ∧
      ∀ (x : Nat),
        x ≤ List.length l ∧ x ≤ 20 →
          ((decide (ofN x < ofN (List.length l)) && decide (ofN x < 20)) = true →
              within (ofN x) (List.length l) ∧
                List.length (List.map cutV (List.take x l)) +
                      List.length
                        [cutV
                            (List.getD l (Int.toNat (ofN x))
                              (T.dflt T_Rec))] ≤
                    ROOM ∧
                  inI64 (ofN x + 1) ∧
                    ∃ (x' : Nat),
                      (x' ≤ List.length l ∧ x' ≤ 20) ∧
                        20 - x' < 20 - x ∧
                          List.map cutV (List.take x l) ++
                                [cutV
                                    (List.getD l (Int.toNat (ofN x))
                                      (T.dflt T_Rec))] =
                              List.map cutV (List.take x' l) ∧
                            ofN x + 1 = ofN x') ∧
            ((decide (ofN x < ofN (List.length l)) && decide (ofN x < 20)) = false → List.map cutV (List.take x l) = fewV l) := by
  refine ⟨⟨0, ⟨by omega, by omega⟩, rfl, rfl⟩, fun i ⟨h1, h2⟩ => ⟨fun hc => ?_, fun hc => ?_⟩⟩
  · simp only [ofN, Bool.and_eq_true, decide_eq_true_eq, Int.ofNat_lt, Int.toNat_natCast] at hc ⊢
    refine ⟨by unfold within; omega, by simp; unfold ROOM; omega, by unfold inI64; omega, i + 1, ⟨by omega, by omega⟩, by omega, ?_, by omega⟩
    rw [take_snoc' (d := T.dflt T_Rec) hc.1, List.map_append]
    rfl
  · simp only [ofN, Bool.and_eq_false_iff, decide_eq_false_iff_not, Int.ofNat_lt] at hc
    have : l.take i = l.take 20 := by
      rcases hc with hc | hc
      · rw [List.take_of_length_le (by omega), List.take_of_length_le (by omega)]
      · rw [show i = 20 by omega]
    rw [this]; rfl

def c_true : PC := D [] [.bool] (fun _ => none) (fun _ => (true, ()))

theorem law13_alive_vc :
    List.length (nilOf (T.den (T.pair (T.arr 32 T.u8) T.i64))) ≤ ROOM ∧
      (true = true →
          within 0 (List.length (bytesV (makeV (ofN 0, ofN 0, List.replicate 32 0#8) (ofN 0, 1, List.replicate 32 0#8, 1, ofN 0, nilOf (BitVec 8), nilOf (T.den (T.pair (T.arr 32 T.u8) T.i64)))).1).1)) ∧
        (true = true →
            within 3 (List.length (bytesV (makeV (ofN 0, ofN 0, List.replicate 32 0#8) (ofN 0, 1, List.replicate 32 0#8, 1, ofN 0, nilOf (BitVec 8), nilOf (T.den (T.pair (T.arr 32 T.u8) T.i64)))).1).1)) ∧
          true = true := by
  exact ⟨by unfold ROOM; decide, fun _ => by unfold within; decide +kernel, fun _ => by unfold within; decide +kernel, rfl⟩

def ep (h : HeadT) (l : List Rec) (i : Nat) : Int := if i = 0 then h.2.1 else (l.getD (i - 1) T_Rec.dflt).2.1

def an_Epochs (h : HeadT) (l : List Rec) : Nat → SState → Option LoopAnn
  | 7, _ => some { X := Nat, slots := fun i => [(8, .sv (.dv (.i64 (ep h l i)))), (9, .sv (.dv (.i64 i)))], objs := fun _ => [], inv := fun i => (i : Int) ≤ (walkV h l 0).2.1, meas := fun i => (walkV h l 0).2.1.toNat - i }
  | _, _ => none

theorem next_ok {h : HeadT} {r : Rec} (g : (nextV h r).2 = 0) : checkV r = 0 ∧ followsV h r = true ∧ (nextV h r).1 = (r.1, r.2.1, sha (recBytes r)) := by
  unfold nextV at g ⊢
  split at g
  · rename_i h1
    split at g
    · rename_i h2
      rw [if_pos h1, if_pos h2]; exact ⟨h1, h2, rfl⟩
    · exact absurd g (by decide)
  · rename_i h1
    exact absurd g h1
theorem walk_range : ∀ (l : List Rec) (h : HeadT) (i : Nat), ∃ k : Nat, k ≤ l.length ∧ (walkV h l i).2.1 = ((i + k : Nat) : Int)
  | [], h, i => ⟨0, by simp, rfl⟩
  | r :: l, h, i => by
    unfold walkV
    by_cases g : (nextV h r).2 = 0
    · rw [if_pos g]
      obtain ⟨k, h1, h2⟩ := walk_range l (nextV h r).1 (i + 1)
      exact ⟨k + 1, by simp; omega, by rw [h2]; congr 1; omega⟩
    · rw [if_neg g]
      exact ⟨0, by simp, rfl⟩
theorem walk_follows : ∀ (l : List Rec) (h : HeadT) (i j : Nat), ((i + j : Nat) : Int) < (walkV h l i).2.1 →
    if (l.getD j T_Rec.dflt).2.2.2.1 = (1 : Int) then (ep h l j : Int) < (l.getD j T_Rec.dflt).2.1 else (l.getD j T_Rec.dflt).2.1 = (ep h l j : Int)
  | [], h, i, j, hj => by
    have hj : ((i + j : Nat) : Int) < ((i : Nat) : Int) := hj
    omega
  | r :: l, h, i, j, hj => by
    unfold walkV at hj
    by_cases g : (nextV h r).2 = 0
    · rw [if_pos g] at hj
      obtain ⟨_, h2, h3⟩ := next_ok g
      cases j with
      | zero =>
        unfold followsV at h2
        rw [Bool.and_eq_true] at h2
        have h2 := h2.2
        show if r.2.2.2.1 = (1 : Int) then h.2.1 < r.2.1 else r.2.1 = h.2.1
        split at h2
        · rename_i hk; rw [if_pos hk]; exact of_decide_eq_true h2
        · rename_i hk; rw [if_neg hk]; exact of_decide_eq_true h2
      | succ j =>
        have := walk_follows l (nextV h r).1 (i + 1) j (by rw [show i + 1 + j = i + (j + 1) by omega]; exact hj)
        have e : ep (nextV h r).1 l j = ep h (r :: l) (j + 1) := by
          unfold ep
          cases j with
          | zero => rw [h3]; rfl
          | succ j => rfl
        rw [e] at this
        exact this
    · rw [if_neg g] at hj
      have hj : ((i + j : Nat) : Int) < ((i : Nat) : Int) := hj
      omega

theorem law13_RecordEpochs_vc (h : HeadT) (l : List Rec) :
    ((decide ((walkV h (fewV l) 0).2.1 < 0) || decide (ofN (List.length (fewV l)) < (walkV h (fewV l) 0).2.1)) = true → false = true) ∧
      ((decide ((walkV h (fewV l) 0).2.1 < 0) || decide (ofN (List.length (fewV l)) < (walkV h (fewV l) 0).2.1)) = false →
        (∃ (x : Nat), ofN x ≤ (walkV h (fewV l) 0).2.1 ∧ h.2.1 = ep h (fewV l) x ∧ 0 = ofN x) ∧
          ∀ (x : Nat),
            ofN x ≤ (walkV h (fewV l) 0).2.1 →
              (decide (ofN x < (walkV h (fewV l) 0).2.1) = true →
                  within (ofN x) (List.length (fewV l)) ∧
                    (decide
                            ((List.getD (fewV l) (Int.toNat (ofN x))
                                    (T.dflt T_Rec)).2.1 <
                              ep h (fewV l) x) =
                          false →
                        within (ofN x) (List.length (fewV l))) ∧
                      (decide
                              ((List.getD (fewV l) (Int.toNat (ofN x))
                                      (T.dflt T_Rec)).2.1 <
                                ep h (fewV l) x) =
                            false →
                          within (ofN x) (List.length (fewV l))) ∧
                        ((decide
                                  ((List.getD (fewV l) (Int.toNat (ofN x))
                                          (T.dflt T_Rec)).2.1 <
                                    ep h (fewV l) x) ||
                                !decide
                                      (ep h (fewV l) x <
                                        (List.getD (fewV l) (Int.toNat (ofN x))
                                              (T.dflt T_Rec)).2.1) ==
                                    ((List.getD (fewV l) (Int.toNat (ofN x))
                                                (T.dflt
                                                  T_Rec)).2.2.2.1 ==
                                      1)) =
                              true →
                            false = true) ∧
                          ((decide
                                  ((List.getD (fewV l) (Int.toNat (ofN x))
                                          (T.dflt T_Rec)).2.1 <
                                    ep h (fewV l) x) ||
                                !decide
                                      (ep h (fewV l) x <
                                        (List.getD (fewV l) (Int.toNat (ofN x))
                                              (T.dflt T_Rec)).2.1) ==
                                    ((List.getD (fewV l) (Int.toNat (ofN x))
                                                (T.dflt
                                                  T_Rec)).2.2.2.1 ==
                                      1)) =
                              false →
                            within (ofN x) (List.length (fewV l)) ∧
                              inI64 (ofN x + 1) ∧
                                ∃ (x' : Nat),
                                  ofN x' ≤ (walkV h (fewV l) 0).2.1 ∧
                                    Int.toNat (walkV h (fewV l) 0).2.1 - x' < Int.toNat (walkV h (fewV l) 0).2.1 - x ∧
                                      (List.getD (fewV l) (Int.toNat (ofN x))
                                                (T.dflt T_Rec)).2.1 =
                                          ep h (fewV l) x' ∧
                                        ofN x + 1 = ofN x')) ∧
                (decide (ofN x < (walkV h (fewV l) 0).2.1) = false → true = true)) := by
  obtain ⟨k, hk, hw⟩ := walk_range (fewV l) h 0
  have hf := fun j => walk_follows (fewV l) h 0 j
  rw [Nat.zero_add] at hw
  rw [hw] at hf ⊢
  refine ⟨fun g => ?_, fun g => ⟨⟨0, by unfold ofN; omega, rfl, rfl⟩, fun i hi => ⟨fun hc => ?_, fun _ => rfl⟩⟩⟩
  · simp only [ofN, Bool.or_eq_true, decide_eq_true_eq] at g
    omega
  · simp only [ofN, decide_eq_true_eq, Int.ofNat_lt] at hc
    have hr := hf i (by simp; omega)
    have hep : (List.getD (fewV l) i T_Rec.dflt).2.1 = ep h (fewV l) (i + 1) := rfl
    have hlen : (fewV l).length ≤ 20 := by unfold fewV; simp; omega
    have wi : within (↑i) (fewV l).length := by unfold within; omega
    refine ⟨wi, fun _ => wi, fun _ => wi, fun g => ?_, fun _ => ⟨wi, by unfold inI64 ofN; omega, i + 1, by unfold ofN; omega, by omega, hep, by unfold ofN; omega⟩⟩
    simp only [Bool.or_eq_true, Bool.not_eq_true', decide_eq_true_eq, ofN, Int.toNat_natCast] at g
    have aux : ∀ a b : Int, a < b → b < a → False := by intro a b; omega
    have aux2 : ∀ a b : Int, a = b → b < a → False := by intro a b; omega
    exfalso
    split at hr
    · rename_i hk1
      rcases g with g | g
      · exact aux _ _ hr g
      · refine beq_eq_false_iff_ne.1 g ?_
        rw [Bool.eq_iff_iff]
        simp only [decide_eq_true_eq, beq_iff_eq]
        exact ⟨fun _ => hk1, fun _ => hr⟩
    · rename_i hk1
      rcases g with g | g
      · exact aux2 _ _ hr.symm g
      · refine beq_eq_false_iff_ne.1 g ?_
        rw [Bool.eq_iff_iff]
        simp only [decide_eq_true_eq, beq_iff_eq]
        exact ⟨fun q => (aux2 _ _ hr q).elim, fun q => (hk1 q).elim⟩

def an_One (l m : List Rec) : Nat → SState → Option LoopAnn
  | 11, _ => some { X := Nat, slots := fun i => [(11, .sv (.dv (.i64 i)))], objs := fun _ => [], inv := fun i => i ≤ l.length ∧ ∀ j, j < i → ¬ (sameV (l.getD j T_Rec.dflt) (m.getD j T_Rec.dflt) = false ∧ (chainV (l.getD j T_Rec.dflt)).1 = (chainV (m.getD j T_Rec.dflt)).1), meas := fun i => l.length - i }
  | _, _ => none

theorem walk_done : ∀ (l : List Rec) (h : HeadT) (i : Nat), (walkV h l i).2.2 = 0 → (walkV h l i).2.1 = ((i + l.length : Nat) : Int) ∧ (walkV h l i).1.1 = (h.1 + (l.length : Int) : Int)
  | [], h, i, _ => ⟨rfl, (Int.add_zero _).symm⟩
  | r :: l, h, i, g => by
    unfold walkV at g ⊢
    by_cases g1 : (nextV h r).2 = 0
    · rw [if_pos g1] at g ⊢
      obtain ⟨h1, h2⟩ := walk_done l (nextV h r).1 (i + 1) g
      obtain ⟨_, h3, h4⟩ := next_ok g1
      refine ⟨by rw [h1, List.length_cons]; congr 1; omega, ?_⟩
      rw [h2, h4]
      unfold followsV at h3
      simp only [Bool.and_eq_true, decide_eq_true_eq] at h3
      have aux : ∀ (x y : Int) (n : Nat), x - 1 = y → x + (n : Int) = y + ((n + 1 : Nat) : Int) := by intro x y n; omega
      exact aux r.1 h.1 l.length h3.1.1
    · rw [if_neg g1] at g
      exact absurd g g1
theorem one_walk : ∀ (a b : List Rec) (h h' : HeadT) (i : Nat), a.length = b.length → (walkV h a i).2.2 = 0 → (walkV h' b i).2.2 = 0 → (walkV h a i).1.2.2 = (walkV h' b i).1.2.2 →
    (∃ j, j < a.length ∧ sameV (a.getD j T_Rec.dflt) (b.getD j T_Rec.dflt) = false ∧ (chainV (a.getD j T_Rec.dflt)).1 = (chainV (b.getD j T_Rec.dflt)).1) ∨ (a = b ∧ h.2.2 = h'.2.2)
  | [], [], h, h', i, _, _, _, e => .inr ⟨rfl, e⟩
  | [], _ :: _, _, _, _, hl, _, _, _ => by cases hl
  | _ :: _, [], _, _, _, hl, _, _, _ => by cases hl
  | r :: a, s :: b, h, h', i, hl, g1, g2, e => by
    unfold walkV at g1 g2 e
    by_cases n1 : (nextV h r).2 = 0
    · by_cases n2 : (nextV h' s).2 = 0
      · rw [if_pos n1] at g1 e
        rw [if_pos n2] at g2 e
        obtain ⟨c1, f1, e1⟩ := next_ok n1
        obtain ⟨c2, f2, e2⟩ := next_ok n2
        rcases one_walk a b (nextV h r).1 (nextV h' s).1 (i + 1) (by simpa using hl) g1 g2 e with ⟨j, hj, h3⟩ | ⟨rfl, h4⟩
        · exact .inl ⟨j + 1, by simp; omega, h3⟩
        · cases hs : sameV r s with
          | false =>
            refine .inl ⟨0, by simp, hs, ?_⟩
            show (chainV r).1 = (chainV s).1
            unfold chainV
            rw [if_pos c1, if_pos c2]
            rw [e1, e2] at h4
            exact h4
          | true =>
            have := (sameV_iff r s).1 hs
            subst this
            refine .inr ⟨rfl, ?_⟩
            unfold followsV at f1 f2
            simp only [Bool.and_eq_true, beq_iff_eq] at f1 f2
            exact f1.1.2.symm.trans f2.1.2
      · rw [if_neg n2] at g2
        exact absurd g2 n2
    · rw [if_neg n1] at g1
      exact absurd g1 n1

theorem law13_RecordOne_vc (l m : List Rec) :
    (((walkV (ofN 0, ofN 0, List.replicate 32 0#8) (fewV l) 0).2.2 != 0 || (walkV (ofN 0, ofN 0, List.replicate 32 0#8) (fewV m) 0).2.2 != 0 ||
            !((walkV (ofN 0, ofN 0, List.replicate 32 0#8) (fewV l) 0).1.1 == (walkV (ofN 0, ofN 0, List.replicate 32 0#8) (fewV m) 0).1.1 &&
                ((walkV (ofN 0, ofN 0, List.replicate 32 0#8) (fewV l) 0).1.2.1 == (walkV (ofN 0, ofN 0, List.replicate 32 0#8) (fewV m) 0).1.2.1 &&
                  eqL T.u8 (walkV (ofN 0, ofN 0, List.replicate 32 0#8) (fewV l) 0).1.2.2 (walkV (ofN 0, ofN 0, List.replicate 32 0#8) (fewV m) 0).1.2.2))) =
          true →
        true = true) ∧
      (((walkV (ofN 0, ofN 0, List.replicate 32 0#8) (fewV l) 0).2.2 != 0 || (walkV (ofN 0, ofN 0, List.replicate 32 0#8) (fewV m) 0).2.2 != 0 ||
            !((walkV (ofN 0, ofN 0, List.replicate 32 0#8) (fewV l) 0).1.1 == (walkV (ofN 0, ofN 0, List.replicate 32 0#8) (fewV m) 0).1.1 &&
                ((walkV (ofN 0, ofN 0, List.replicate 32 0#8) (fewV l) 0).1.2.1 == (walkV (ofN 0, ofN 0, List.replicate 32 0#8) (fewV m) 0).1.2.1 &&
                  eqL T.u8 (walkV (ofN 0, ofN 0, List.replicate 32 0#8) (fewV l) 0).1.2.2 (walkV (ofN 0, ofN 0, List.replicate 32 0#8) (fewV m) 0).1.2.2))) =
          false →
        (((walkV (ofN 0, ofN 0, List.replicate 32 0#8) (fewV l) 0).2.1 != ofN (List.length (fewV l)) || (walkV (ofN 0, ofN 0, List.replicate 32 0#8) (fewV m) 0).2.1 != ofN (List.length (fewV m)) ||
                ofN (List.length (fewV l)) != ofN (List.length (fewV m))) =
              true →
            false = true) ∧
          (((walkV (ofN 0, ofN 0, List.replicate 32 0#8) (fewV l) 0).2.1 != ofN (List.length (fewV l)) || (walkV (ofN 0, ofN 0, List.replicate 32 0#8) (fewV m) 0).2.1 != ofN (List.length (fewV m)) ||
                ofN (List.length (fewV l)) != ofN (List.length (fewV m))) =
              false →
            (sameAllV (fewV l) (fewV m) = true → true = true) ∧
              (sameAllV (fewV l) (fewV m) = false →
                (∃ (x : Nat),
                    (x ≤ List.length (fewV l) ∧
                        ∀ (j : Nat),
                          j < x →
                            ¬(sameV
                                    (List.getD (fewV l) j
                                      (T.dflt T_Rec))
                                    (List.getD (fewV m) j
                                      (T.dflt T_Rec)) =
                                  false ∧
                                (chainV
                                      (List.getD (fewV l) j
                                        (T.dflt T_Rec))).1 =
                                  (chainV
                                      (List.getD (fewV m) j
                                        (T.dflt T_Rec))).1)) ∧
                      0 = ofN x) ∧
                  ∀ (x : Nat),
                    (x ≤ List.length (fewV l) ∧
                        ∀ (j : Nat),
                          j < x →
                            ¬(sameV
                                    (List.getD (fewV l) j
                                      (T.dflt T_Rec))
                                    (List.getD (fewV m) j
                                      (T.dflt T_Rec)) =
                                  false ∧
                                (chainV
                                      (List.getD (fewV l) j
                                        (T.dflt T_Rec))).1 =
                                  (chainV
                                      (List.getD (fewV m) j
                                        (T.dflt T_Rec))).1)) →
                      (decide (ofN x < ofN (List.length (fewV l))) = true →
                          within (ofN x) (List.length (fewV l)) ∧
                            within (ofN x) (List.length (fewV m)) ∧
                              within (ofN x) (List.length (fewV l)) ∧
                                within (ofN x) (List.length (fewV m)) ∧
                                  ((!sameV
                                              (List.getD (fewV l) (Int.toNat (ofN x))
                                                (T.dflt T_Rec))
                                              (List.getD (fewV m) (Int.toNat (ofN x))
                                                (T.dflt T_Rec)) &&
                                          eqL T.u8
                                            (chainV
                                                (List.getD (fewV l) (Int.toNat (ofN x))
                                                  (T.dflt T_Rec))).1
                                            (chainV
                                                (List.getD (fewV m) (Int.toNat (ofN x))
                                                  (T.dflt T_Rec))).1) =
                                        true →
                                      true = true) ∧
                                    ((!sameV
                                              (List.getD (fewV l) (Int.toNat (ofN x))
                                                (T.dflt T_Rec))
                                              (List.getD (fewV m) (Int.toNat (ofN x))
                                                (T.dflt T_Rec)) &&
                                          eqL T.u8
                                            (chainV
                                                (List.getD (fewV l) (Int.toNat (ofN x))
                                                  (T.dflt T_Rec))).1
                                            (chainV
                                                (List.getD (fewV m) (Int.toNat (ofN x))
                                                  (T.dflt T_Rec))).1) =
                                        false →
                                      inI64 (ofN x + 1) ∧
                                        ∃ (x' : Nat),
                                          (x' ≤ List.length (fewV l) ∧
                                              ∀ (j : Nat),
                                                j < x' →
                                                  ¬(sameV
                                                          (List.getD (fewV l) j
                                                            (T.dflt
                                                              T_Rec))
                                                          (List.getD (fewV m) j
                                                            (T.dflt
                                                              T_Rec)) =
                                                        false ∧
                                                      (chainV
                                                            (List.getD (fewV l) j
                                                              (T.dflt
                                                                T_Rec))).1 =
                                                        (chainV
                                                            (List.getD (fewV m) j
                                                              (T.dflt
                                                                T_Rec))).1)) ∧
                                            List.length (fewV l) - x' < List.length (fewV l) - x ∧ ofN x + 1 = ofN x')) ∧
                        (decide (ofN x < ofN (List.length (fewV l))) = false → false = true)))) := by
  have e0 : ((ofN 0, ofN 0, List.replicate 32 0#8) : HeadT) = head0 := rfl
  rw [e0]
  refine ⟨fun _ => rfl, fun g => ⟨fun g2 => ?_, fun g2 => ⟨fun _ => rfl, fun g3 => ⟨⟨0, ⟨by omega, fun j hj => by omega⟩, rfl⟩, fun i ⟨h1, h2⟩ => ⟨fun hc => ?_, fun hc => ?_⟩⟩⟩⟩⟩
  · exfalso
    simp only [Bool.or_eq_false_iff, Bool.or_eq_true, bne_eq_false_iff_eq, bne_iff_ne, ne_eq, Bool.not_eq_false', Bool.and_eq_true, beq_iff_eq] at g g2
    obtain ⟨a1, a2⟩ := walk_done (fewV l) head0 0 g.1.1
    obtain ⟨b1, b2⟩ := walk_done (fewV m) head0 0 g.1.2
    have hs : (walkV head0 (fewV l) 0).1.1 = (walkV head0 (fewV m) 0).1.1 := g.2.1
    rw [a2, b2] at hs
    have aux : ∀ (x : Int) (a b : Nat), x + (a : Int) = x + (b : Int) → (a : Int) = (b : Int) := by intro x a b; omega
    have hs := aux _ _ _ hs
    rw [a1, b1, Nat.zero_add, Nat.zero_add] at g2
    unfold ofN at g2
    rcases g2 with (g2 | g2) | g2
    · exact g2 rfl
    · exact g2 rfl
    · exact g2 hs
  · have hlen : (fewV l).length ≤ 20 := by unfold fewV; simp; omega
    simp only [Bool.or_eq_false_iff, bne_eq_false_iff_eq, Bool.not_eq_false', Bool.and_eq_true, beq_iff_eq, ofN, Int.ofNat_inj] at g g2
    simp only [ofN, decide_eq_true_eq, Int.ofNat_lt, Int.toNat_natCast] at hc ⊢
    have wl : within (↑i) (fewV l).length := by unfold within; omega
    have wm : within (↑i) (fewV m).length := by unfold within; omega
    refine ⟨wl, wm, wl, wm, fun _ => trivial, fun g4 => ⟨by unfold inI64; omega, i + 1, ⟨by omega, fun j hj => ?_⟩, by omega, by omega⟩⟩
    by_cases hj' : j < i
    · exact h2 j hj'
    · rw [show j = i by omega]
      intro g5
      rw [g5.1, g5.2] at g4
      rw [eqL_u8] at g4; simp at g4
  · simp only [Bool.or_eq_false_iff, bne_eq_false_iff_eq, Bool.not_eq_false', Bool.and_eq_true, beq_iff_eq, ofN, Int.ofNat_inj, eqL_u8] at g g2
    simp only [ofN, decide_eq_false_iff_not, Int.ofNat_lt] at hc
    exfalso
    rcases one_walk (fewV l) (fewV m) head0 head0 0 g2.2 g.1.1 g.1.2 g.2.2.2 with ⟨j, hj, h3⟩ | ⟨e, _⟩
    · exact h2 j (by omega) h3
    · rw [e] at g3
      unfold sameAllV at g3
      rw [decide_eq_false_iff_not] at g3
      exact g3 ⟨rfl, fun j _ => sameV_self _⟩

theorem law13_RecordWalks_vc (h : HeadT) (l : List Rec) (r : Rec) :
    ((!((walkV h (fewV l) 0).1.1 == (walkV h (fewV l) 0).1.1 && ((walkV h (fewV l) 0).1.2.1 == (walkV h (fewV l) 0).1.2.1 && eqL T.u8 (walkV h (fewV l) 0).1.2.2 (walkV h (fewV l) 0).1.2.2)) ||
              (walkV h (fewV l) 0).2.1 != (walkV h (fewV l) 0).2.1 ||
            (walkV h (fewV l) 0).2.2 != (walkV h (fewV l) 0).2.2) =
          true →
        false = true) ∧
      ((!((walkV h (fewV l) 0).1.1 == (walkV h (fewV l) 0).1.1 && ((walkV h (fewV l) 0).1.2.1 == (walkV h (fewV l) 0).1.2.1 && eqL T.u8 (walkV h (fewV l) 0).1.2.2 (walkV h (fewV l) 0).1.2.2)) ||
              (walkV h (fewV l) 0).2.1 != (walkV h (fewV l) 0).2.1 ||
            (walkV h (fewV l) 0).2.2 != (walkV h (fewV l) 0).2.2) =
          false →
        List.length (cutV r).2.2.2.2.2.2 ≤ ROOM ∧
          List.length (cutV r).2.2.2.2.2.2 ≤ ROOM ∧
            ((nextV h (cutV r)).1.1 == (nextV h (cutV r)).1.1 && ((nextV h (cutV r)).1.2.1 == (nextV h (cutV r)).1.2.1 && eqL T.u8 (nextV h (cutV r)).1.2.2 (nextV h (cutV r)).1.2.2) &&
                      (nextV h (cutV r)).2 == (nextV h (cutV r)).2 &&
                    sameV (makeV h (cutV r)).1 (makeV h (cutV r)).1 &&
                  (makeV h (cutV r)).2 == (makeV h (cutV r)).2 &&
                true) =
              true) := by
  have ht : ∀ h : HeadT, (h.1 == h.1 && (h.2.1 == h.2.1 && eqL T.u8 h.2.2 h.2.2)) = true := fun h => by
    rw [eqL_u8]; simp
  rw [ht]
  refine ⟨fun h => ?_, fun _ => ⟨?_, ?_, ?_⟩⟩
  · simp at h
  · show (r.2.2.2.2.2.2.take 60).length ≤ ROOM
    rw [List.length_take]; unfold ROOM; omega
  · show (r.2.2.2.2.2.2.take 60).length ≤ ROOM
    rw [List.length_take]; unfold ROOM; omega
  · rw [ht, sameV_self]; simp

theorem law13_RecordForms_vc (r other : Rec) (path : Bytes) (over : Int) :
    (decide (300 < ofN (List.length path)) = true →
        (ofN 0 ≤ 300 ∧ 300 ≤ ofN (List.length path)) ∧
          (((bytesV (cutV r)).1 != (bytesV (cutV r)).1 || (bytesV (cutV r)).2 != (bytesV (cutV r)).2 || !eqL T.u8 (chainV (cutV r)).1 (chainV (cutV r)).1 || (chainV (cutV r)).2 != (chainV (cutV r)).2 ||
                      (sizeV (cutV r).2.2.2.2.2.2).1 != (sizeV (cutV r).2.2.2.2.2.2).1 ||
                    (sizeV (cutV r).2.2.2.2.2.2).2 != (sizeV (cutV r).2.2.2.2.2.2).2 ||
                  checkV (cutV r) != checkV (cutV r)) =
                true →
              false = true) ∧
            (((bytesV (cutV r)).1 != (bytesV (cutV r)).1 || (bytesV (cutV r)).2 != (bytesV (cutV r)).2 || !eqL T.u8 (chainV (cutV r)).1 (chainV (cutV r)).1 || (chainV (cutV r)).2 != (chainV (cutV r)).2 ||
                      (sizeV (cutV r).2.2.2.2.2.2).1 != (sizeV (cutV r).2.2.2.2.2.2).1 ||
                    (sizeV (cutV r).2.2.2.2.2.2).2 != (sizeV (cutV r).2.2.2.2.2.2).2 ||
                  checkV (cutV r) != checkV (cutV r)) =
                false →
              ((over == 1) = true →
                  (ofN 4097 = 4097 ∧ ofN 0 ≤ 4097 ∧ 4097 ≤ ofN ROOM) ∧
                    Int.toNat 4097 ≤ Int.toNat 4097 ∧
                      (((sizeV (List.take (Int.toNat 4097) (List.drop 0 (List.replicate (Int.toNat 4097) (T.dflt (T.pair (T.arr 32 T.u8) T.i64)))))).2 != 130) = true → false = true) ∧
                        (((sizeV (List.take (Int.toNat 4097) (List.drop 0 (List.replicate (Int.toNat 4097) (T.dflt (T.pair (T.arr 32 T.u8) T.i64)))))).2 != 130) = false →
                          (isPath (List.drop 0 (List.take (Int.toNat 300) path)) == isPath (List.drop 0 (List.take (Int.toNat 300) path)) && sameV (cutV r) (cutV other) == sameV (cutV r) (cutV other) &&
                                sameV (cutV r) (cutV r) &&
                              true) =
                            true)) ∧
                ((over == 1) = false →
                  (isPath (List.drop 0 (List.take (Int.toNat 300) path)) == isPath (List.drop 0 (List.take (Int.toNat 300) path)) && sameV (cutV r) (cutV other) == sameV (cutV r) (cutV other) &&
                        sameV (cutV r) (cutV r) &&
                      true) =
                    true))) ∧
      (decide (300 < ofN (List.length path)) = false →
        (((bytesV (cutV r)).1 != (bytesV (cutV r)).1 || (bytesV (cutV r)).2 != (bytesV (cutV r)).2 || !eqL T.u8 (chainV (cutV r)).1 (chainV (cutV r)).1 || (chainV (cutV r)).2 != (chainV (cutV r)).2 ||
                    (sizeV (cutV r).2.2.2.2.2.2).1 != (sizeV (cutV r).2.2.2.2.2.2).1 ||
                  (sizeV (cutV r).2.2.2.2.2.2).2 != (sizeV (cutV r).2.2.2.2.2.2).2 ||
                checkV (cutV r) != checkV (cutV r)) =
              true →
            false = true) ∧
          (((bytesV (cutV r)).1 != (bytesV (cutV r)).1 || (bytesV (cutV r)).2 != (bytesV (cutV r)).2 || !eqL T.u8 (chainV (cutV r)).1 (chainV (cutV r)).1 || (chainV (cutV r)).2 != (chainV (cutV r)).2 ||
                    (sizeV (cutV r).2.2.2.2.2.2).1 != (sizeV (cutV r).2.2.2.2.2.2).1 ||
                  (sizeV (cutV r).2.2.2.2.2.2).2 != (sizeV (cutV r).2.2.2.2.2.2).2 ||
                checkV (cutV r) != checkV (cutV r)) =
              false →
            ((over == 1) = true →
                (ofN 4097 = 4097 ∧ ofN 0 ≤ 4097 ∧ 4097 ≤ ofN ROOM) ∧
                  Int.toNat 4097 ≤ Int.toNat 4097 ∧
                    (((sizeV (List.take (Int.toNat 4097) (List.drop 0 (List.replicate (Int.toNat 4097) (T.dflt (T.pair (T.arr 32 T.u8) T.i64)))))).2 != 130) = true → false = true) ∧
                      (((sizeV (List.take (Int.toNat 4097) (List.drop 0 (List.replicate (Int.toNat 4097) (T.dflt (T.pair (T.arr 32 T.u8) T.i64)))))).2 != 130) = false →
                        (isPath path == isPath path && sameV (cutV r) (cutV other) == sameV (cutV r) (cutV other) && sameV (cutV r) (cutV r) && true) = true)) ∧
              ((over == 1) = false → (isPath path == isPath path && sameV (cutV r) (cutV other) == sameV (cutV r) (cutV other) && sameV (cutV r) (cutV r) && true) = true))) := by
  have big : (sizeV (List.take (Int.toNat 4097) (List.drop 0 (List.replicate (Int.toNat 4097) (T.dflt (T.pair (T.arr 32 T.u8) T.i64)))))).2 = (130 : Int) := by
    rw [sizeV_bad]
    rw [List.drop_zero, List.length_take, List.length_replicate]
    decide
  refine ⟨fun hp => ⟨⟨by unfold ofN; decide, ?_⟩, ?_⟩, fun _ => ?_⟩
  · simp only [ofN, decide_eq_true_eq] at hp
    unfold ofN; omega
  · refine ⟨fun h => ?_, fun _ => ⟨fun _ => ⟨⟨rfl, by unfold ofN; decide, by unfold ofN ROOM; decide⟩, by decide, fun g => ?_, fun _ => ?_⟩, fun _ => ?_⟩⟩
    · rw [eqL_u8] at h; simp at h
    · rw [big] at g; simp at g
    · rw [sameV_self]; simp
    · rw [sameV_self]; simp
  · refine ⟨fun h => ?_, fun _ => ⟨fun _ => ⟨⟨rfl, by unfold ofN; decide, by unfold ofN ROOM; decide⟩, by decide, fun g => ?_, fun _ => ?_⟩, fun _ => ?_⟩⟩
    · rw [eqL_u8] at h; simp at h
    · rw [big] at g; simp at g
    · rw [sameV_self]; simp
    · rw [sameV_self]; simp

end Go.Sal
