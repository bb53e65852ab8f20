/- The laws of chapter 27 that hand no function values around. -/
import Derived.Test.YtdddnamfecgkeaaQCIn27
set_option maxRecDepth 100000
namespace Go.Sal
open Go.Vse Go.Sal.Nm

def c_true27 : PC := D [] [.bool] (fun _ => none) (fun _ => (true, ()))

theorem law27_alive_vc :
    (true = true → within 0 (List.length (pathA [List.set (List.replicate 32 0#8) 0 1#8, List.set (List.replicate 32 0#8) 0 2#8, List.set (List.replicate 32 0#8) 0 3#8] 1).1)) ∧
      (true = true → within 0 (List.length [List.set (List.replicate 32 0#8) 0 1#8, List.set (List.replicate 32 0#8) 0 2#8, List.set (List.replicate 32 0#8) 0 3#8])) ∧
        (true = true → within 1 (List.length (pathA [List.set (List.replicate 32 0#8) 0 1#8, List.set (List.replicate 32 0#8) 0 2#8, List.set (List.replicate 32 0#8) 0 3#8] 1).1)) ∧
          (true = true → within 2 (List.length [List.set (List.replicate 32 0#8) 0 1#8, List.set (List.replicate 32 0#8) 0 2#8, List.set (List.replicate 32 0#8) 0 3#8])) ∧
            (true = true → within 1 (List.length [List.set (List.replicate 32 0#8) 0 1#8, List.set (List.replicate 32 0#8) 0 2#8, List.set (List.replicate 32 0#8) 0 3#8])) ∧
              (true = true → within 0 (List.length [List.set (List.replicate 32 0#8) 0 1#8, List.set (List.replicate 32 0#8) 0 2#8, List.set (List.replicate 32 0#8) 0 3#8])) ∧
                (true = true → within 1 (List.length [List.set (List.replicate 32 0#8) 0 1#8, List.set (List.replicate 32 0#8) 0 2#8, List.set (List.replicate 32 0#8) 0 3#8])) ∧
                  (true = true → within 2 (List.length [List.set (List.replicate 32 0#8) 0 1#8, List.set (List.replicate 32 0#8) 0 2#8, List.set (List.replicate 32 0#8) 0 3#8])) ∧ true = true := by
  refine ⟨fun _ => ?_, fun _ => ?_, fun _ => ?_, fun _ => ?_, fun _ => ?_, fun _ => ?_, fun _ => ?_, fun _ => ?_, rfl⟩ <;> (unfold within; decide +kernel)

def recsV : List Dig → List Rec → List Dig × Int
  | acc, [] => (acc, 0)
  | acc, r :: l => if (bytesV r).2 = 0 then recsV (acc ++ [leafV (bytesV r).1]) l else ([], (bytesV r).2)

def c_recs : PC := D [.slc T_Rec] [.slc T_Dig, .i64] (fun x => some (x.1.length ≤ 1048576)) (fun x => ((recsV [] x.1).1, (recsV [] x.1).2, ()))

def an_mrecs (l : List Rec) : Nat → SState → Option LoopAnn
  | 3, S => some { X := Nat × List Dig, slots := fun y => [(4, .sv (.own 10 T_Dig y.2)), (11, .sv (.dv (.i64 y.1)))], objs := fun _ => [(x_tok S 4, .gone), (10, .tok t_api_Digest 32)], inv := fun y => y.1 ≤ l.length ∧ y.2.length = y.1 ∧ recsV y.2 (l.drop y.1) = recsV [] l, meas := fun y => l.length - y.1 }
  | _, _ => none

theorem merkle_Records_vc (l : List Rec) (hl : l.length ≤ 1048576) (hok : ∀ r ∈ l, r.2.2.1.length = 32 ∧ ∀ p ∈ r.2.2.2.2.2.2, p.1.length = 32) :
    (∃ (x : Nat × List (List (BitVec 8))),
        (x.1 ≤ List.length l ∧ List.length x.2 = x.1 ∧ recsV x.2 (List.drop x.1 l) = recsV (nilOf (List (BitVec 8))) l) ∧ x.2 = nilOf (T.den (T.arr 32 T.u8)) ∧ 0 = ofN x.1) ∧
      ∀ (x : Nat × List (List (BitVec 8))),
        x.1 ≤ List.length l ∧ List.length x.2 = x.1 ∧ recsV x.2 (List.drop x.1 l) = recsV (nilOf (List (BitVec 8))) l →
          (decide (ofN x.1 < ofN (List.length l)) = true →
              within (ofN x.1) (List.length l) ∧
                (((bytesV
                            (List.getD l (Int.toNat (ofN x.1))
                              (T.dflt T_Rec))).2 !=
                        0) =
                      true →
                    nilOf (T.den (T.arr 32 T.u8)) = (recsV (nilOf (List (BitVec 8))) l).1 ∧
                      (bytesV
                            (List.getD l (Int.toNat (ofN x.1))
                              (T.dflt T_Rec))).2 =
                        (recsV (nilOf (List (BitVec 8))) l).2) ∧
                  (((bytesV
                            (List.getD l (Int.toNat (ofN x.1))
                              (T.dflt T_Rec))).2 !=
                        0) =
                      false →
                    List.length
                          (bytesV
                              (List.getD l (Int.toNat (ofN x.1))
                                (T.dflt T_Rec))).1 ≤
                        1073741823 ∧
                      List.length x.2 +
                            List.length
                              [leafV
                                  (bytesV
                                      (List.getD l (Int.toNat (ofN x.1))
                                        (T.dflt T_Rec))).1] ≤
                          ROOM ∧
                        inI64 (ofN x.1 + 1) ∧
                          ∃ (x' : Nat × List (List (BitVec 8))),
                            (x'.1 ≤ List.length l ∧ List.length x'.2 = x'.1 ∧ recsV x'.2 (List.drop x'.1 l) = recsV (nilOf (List (BitVec 8))) l) ∧
                              List.length l - x'.1 < List.length l - x.1 ∧
                                x.2 ++
                                      [leafV
                                          (bytesV
                                              (List.getD l (Int.toNat (ofN x.1))
                                                (T.dflt T_Rec))).1] =
                                    x'.2 ∧
                                  ofN x.1 + 1 = ofN x'.1)) ∧
            (decide (ofN x.1 < ofN (List.length l)) = false → x.2 = (recsV (nilOf (List (BitVec 8))) l).1 ∧ 0 = (recsV (nilOf (List (BitVec 8))) l).2) := by
  refine ⟨⟨(0, []), ⟨Nat.zero_le _, rfl, rfl⟩, rfl, rfl⟩, fun x ⟨h1, h2, h3⟩ => ⟨fun hc => ?_, fun hc => ?_⟩⟩
  · have hc := of_decide_eq_true hc
    have hc : x.1 < l.length := by unfold ofN at hc; omega
    have hd : l.drop x.1 = l[x.1] :: l.drop (x.1 + 1) := List.drop_eq_getElem_cons hc
    have eg : List.getD l (Int.toNat (ofN x.1)) (T.dflt T_Rec) = l[x.1] := getD_lt hc
    rw [eg]
    obtain ⟨k1, k2⟩ := hok l[x.1] (List.getElem_mem hc)
    rw [hd, recsV] at h3
    refine ⟨by unfold within ofN; omega, fun g => ?_, fun g => ⟨?_, by unfold ROOM; simp; omega, by unfold inI64 ofN; omega, (x.1 + 1, x.2 ++ [leafV (bytesV l[x.1]).1]), ⟨hc, ?_, ?_⟩, ?_, rfl, ?_⟩⟩
    · have g : ¬ (bytesV l[x.1]).2 = 0 := by simpa using g
      rw [if_neg g] at h3
      rw [← h3]; exact ⟨rfl, rfl⟩
    · have g : (bytesV l[x.1]).2 = 0 := by simpa using g
      by_cases hk : checkV l[x.1] = 0
      · rw [bytesV_ok hk]
        exact Nat.le_trans (recBytes_len hk k1 k2) (by decide)
      · rw [bytesV_bad hk]; simp
    · show (x.2 ++ [leafV (bytesV l[x.1]).1]).length = x.1 + 1
      simp [h2]
    · have g : (bytesV l[x.1]).2 = 0 := by simpa using g
      rw [if_pos g] at h3
      exact h3
    · show l.length - (x.1 + 1) < l.length - x.1
      omega
    · show ofN x.1 + 1 = ofN (x.1 + 1)
      unfold ofN; omega
  · have hc := of_decide_eq_false hc
    have hc : x.1 = l.length := by unfold ofN at hc; omega
    rw [hc, List.drop_of_length_le (Nat.le_refl _), recsV] at h3
    rw [← h3]; exact ⟨rfl, rfl⟩

def an_rrecs (l : List Rec) : Nat → SState → Option LoopAnn
  | 3, S => some { X := Nat × List Dig, slots := fun y => [(4, .sv (.own 10 T_Dig y.2)), (5, .sv (.dv (.i64 y.1)))], objs := fun _ => [(x_tok S 4, .gone), (10, .tok t_api_Digest 32)], inv := fun y => y.1 ≤ l.length ∧ y.2.length = y.1 ∧ recsV y.2 (l.drop y.1) = recsV [] l, meas := fun y => l.length - y.1 }
  | _, _ => none

theorem ref27_Records_vc (l : List Rec) (hl : l.length ≤ 1048576) (hok : ∀ r ∈ l, r.2.2.1.length = 32 ∧ ∀ p ∈ r.2.2.2.2.2.2, p.1.length = 32) :
    (∃ (x : Nat × List (List (BitVec 8))),
        (x.1 ≤ List.length l ∧ List.length x.2 = x.1 ∧ recsV x.2 (List.drop x.1 l) = recsV (nilOf (List (BitVec 8))) l) ∧ x.2 = nilOf (T.den (T.arr 32 T.u8)) ∧ 0 = ofN x.1) ∧
      ∀ (x : Nat × List (List (BitVec 8))),
        x.1 ≤ List.length l ∧ List.length x.2 = x.1 ∧ recsV x.2 (List.drop x.1 l) = recsV (nilOf (List (BitVec 8))) l →
          (decide (ofN x.1 < ofN (List.length l)) = true →
              within (ofN x.1) (List.length l) ∧
                (((bytesV
                            (List.getD l (Int.toNat (ofN x.1))
                              (T.dflt T_Rec))).2 !=
                        0) =
                      true →
                    nilOf (T.den (T.arr 32 T.u8)) = (recsV (nilOf (List (BitVec 8))) l).1 ∧
                      (bytesV
                            (List.getD l (Int.toNat (ofN x.1))
                              (T.dflt T_Rec))).2 =
                        (recsV (nilOf (List (BitVec 8))) l).2) ∧
                  (((bytesV
                            (List.getD l (Int.toNat (ofN x.1))
                              (T.dflt T_Rec))).2 !=
                        0) =
                      false →
                    List.length
                          (bytesV
                              (List.getD l (Int.toNat (ofN x.1))
                                (T.dflt T_Rec))).1 ≤
                        1073741823 ∧
                      List.length x.2 +
                            List.length
                              [leafV
                                  (bytesV
                                      (List.getD l (Int.toNat (ofN x.1))
                                        (T.dflt T_Rec))).1] ≤
                          ROOM ∧
                        inI64 (ofN x.1 + 1) ∧
                          ∃ (x' : Nat × List (List (BitVec 8))),
                            (x'.1 ≤ List.length l ∧ List.length x'.2 = x'.1 ∧ recsV x'.2 (List.drop x'.1 l) = recsV (nilOf (List (BitVec 8))) l) ∧
                              List.length l - x'.1 < List.length l - x.1 ∧
                                x.2 ++
                                      [leafV
                                          (bytesV
                                              (List.getD l (Int.toNat (ofN x.1))
                                                (T.dflt T_Rec))).1] =
                                    x'.2 ∧
                                  ofN x.1 + 1 = ofN x'.1)) ∧
            (decide (ofN x.1 < ofN (List.length l)) = false → x.2 = (recsV (nilOf (List (BitVec 8))) l).1 ∧ 0 = (recsV (nilOf (List (BitVec 8))) l).2) := by
  refine ⟨⟨(0, []), ⟨Nat.zero_le _, rfl, rfl⟩, rfl, rfl⟩, fun x ⟨h1, h2, h3⟩ => ⟨fun hc => ?_, fun hc => ?_⟩⟩
  · have hc := of_decide_eq_true hc
    have hc : x.1 < l.length := by unfold ofN at hc; omega
    have hd : l.drop x.1 = l[x.1] :: l.drop (x.1 + 1) := List.drop_eq_getElem_cons hc
    have eg : List.getD l (Int.toNat (ofN x.1)) (T.dflt T_Rec) = l[x.1] := getD_lt hc
    rw [eg]
    obtain ⟨k1, k2⟩ := hok l[x.1] (List.getElem_mem hc)
    rw [hd, recsV] at h3
    refine ⟨by unfold within ofN; omega, fun g => ?_, fun g => ⟨?_, by unfold ROOM; simp; omega, by unfold inI64 ofN; omega, (x.1 + 1, x.2 ++ [leafV (bytesV l[x.1]).1]), ⟨hc, ?_, ?_⟩, ?_, rfl, ?_⟩⟩
    · have g : ¬ (bytesV l[x.1]).2 = 0 := by simpa using g
      rw [if_neg g] at h3
      rw [← h3]; exact ⟨rfl, rfl⟩
    · have g : (bytesV l[x.1]).2 = 0 := by simpa using g
      by_cases hk : checkV l[x.1] = 0
      · rw [bytesV_ok hk]
        exact Nat.le_trans (recBytes_len hk k1 k2) (by decide)
      · rw [bytesV_bad hk]; simp
    · show (x.2 ++ [leafV (bytesV l[x.1]).1]).length = x.1 + 1
      simp [h2]
    · have g : (bytesV l[x.1]).2 = 0 := by simpa using g
      rw [if_pos g] at h3
      exact h3
    · show l.length - (x.1 + 1) < l.length - x.1
      omega
    · show ofN x.1 + 1 = ofN (x.1 + 1)
      unfold ofN; omega
  · have hc := of_decide_eq_false hc
    have hc : x.1 = l.length := by unfold ofN at hc; omega
    rw [hc, List.drop_of_length_le (Nat.le_refl _), recsV] at h3
    rw [← h3]; exact ⟨rfl, rfl⟩

theorem law27_MerkleRoots_vc (l : List Dig) (b : Bytes) :
    ofN 0 ≤ 40 ∧
      (decide (300 < ofN (List.length b)) = true →
          (ofN 0 ≤ 300 ∧ 300 ≤ ofN (List.length b)) ∧
            ((!eqL T.u8 (rootA (List.take (Int.toNat 40) l)).1 (rootA (List.take (Int.toNat 40) l)).1 || (rootA (List.take (Int.toNat 40) l)).2 != (rootA (List.take (Int.toNat 40) l)).2) = false →
                List.length (List.drop 0 (List.take (Int.toNat 300) b)) ≤ 1073741823) ∧
              ((!eqL T.u8 (rootA (List.take (Int.toNat 40) l)).1 (rootA (List.take (Int.toNat 40) l)).1 || (rootA (List.take (Int.toNat 40) l)).2 != (rootA (List.take (Int.toNat 40) l)).2) = false →
                  List.length (List.drop 0 (List.take (Int.toNat 300) b)) ≤ 1073741823) ∧
                ((!eqL T.u8 (rootA (List.take (Int.toNat 40) l)).1 (rootA (List.take (Int.toNat 40) l)).1 || (rootA (List.take (Int.toNat 40) l)).2 != (rootA (List.take (Int.toNat 40) l)).2 ||
                        !eqL T.u8 (leafV (List.drop 0 (List.take (Int.toNat 300) b))) (leafV (List.drop 0 (List.take (Int.toNat 300) b)))) =
                      true →
                    false = true) ∧
                  ((!eqL T.u8 (rootA (List.take (Int.toNat 40) l)).1 (rootA (List.take (Int.toNat 40) l)).1 || (rootA (List.take (Int.toNat 40) l)).2 != (rootA (List.take (Int.toNat 40) l)).2 ||
                        !eqL T.u8 (leafV (List.drop 0 (List.take (Int.toNat 300) b))) (leafV (List.drop 0 (List.take (Int.toNat 300) b)))) =
                      false →
                    (decide (ofN (List.length (List.take (Int.toNat 40) l)) < 2) = false → within 0 (List.length (List.take (Int.toNat 40) l))) ∧
                      (decide (ofN (List.length (List.take (Int.toNat 40) l)) < 2) = false → within 1 (List.length (List.take (Int.toNat 40) l))) ∧
                        (decide (ofN (List.length (List.take (Int.toNat 40) l)) < 2) = false → within 0 (List.length (List.take (Int.toNat 40) l))) ∧
                          (decide (ofN (List.length (List.take (Int.toNat 40) l)) < 2) = false → within 1 (List.length (List.take (Int.toNat 40) l))) ∧
                            ((decide (ofN (List.length (List.take (Int.toNat 40) l)) < 2) ||
                                  eqL T.u8
                                    (nodeV (List.getD (List.take (Int.toNat 40) l) (Int.toNat 0) (T.dflt (T.arr 32 T.u8))) (List.getD (List.take (Int.toNat 40) l) (Int.toNat 1) (T.dflt (T.arr 32 T.u8))))
                                    (nodeV (List.getD (List.take (Int.toNat 40) l) (Int.toNat 0) (T.dflt (T.arr 32 T.u8)))
                                      (List.getD (List.take (Int.toNat 40) l) (Int.toNat 1) (T.dflt (T.arr 32 T.u8))))) &&
                                true) =
                              true)) ∧
        (decide (300 < ofN (List.length b)) = false →
          ((!eqL T.u8 (rootA (List.take (Int.toNat 40) l)).1 (rootA (List.take (Int.toNat 40) l)).1 || (rootA (List.take (Int.toNat 40) l)).2 != (rootA (List.take (Int.toNat 40) l)).2) = false →
              List.length b ≤ 1073741823) ∧
            ((!eqL T.u8 (rootA (List.take (Int.toNat 40) l)).1 (rootA (List.take (Int.toNat 40) l)).1 || (rootA (List.take (Int.toNat 40) l)).2 != (rootA (List.take (Int.toNat 40) l)).2) = false →
                List.length b ≤ 1073741823) ∧
              ((!eqL T.u8 (rootA (List.take (Int.toNat 40) l)).1 (rootA (List.take (Int.toNat 40) l)).1 || (rootA (List.take (Int.toNat 40) l)).2 != (rootA (List.take (Int.toNat 40) l)).2 ||
                      !eqL T.u8 (leafV b) (leafV b)) =
                    true →
                  false = true) ∧
                ((!eqL T.u8 (rootA (List.take (Int.toNat 40) l)).1 (rootA (List.take (Int.toNat 40) l)).1 || (rootA (List.take (Int.toNat 40) l)).2 != (rootA (List.take (Int.toNat 40) l)).2 ||
                      !eqL T.u8 (leafV b) (leafV b)) =
                    false →
                  (decide (ofN (List.length (List.take (Int.toNat 40) l)) < 2) = false → within 0 (List.length (List.take (Int.toNat 40) l))) ∧
                    (decide (ofN (List.length (List.take (Int.toNat 40) l)) < 2) = false → within 1 (List.length (List.take (Int.toNat 40) l))) ∧
                      (decide (ofN (List.length (List.take (Int.toNat 40) l)) < 2) = false → within 0 (List.length (List.take (Int.toNat 40) l))) ∧
                        (decide (ofN (List.length (List.take (Int.toNat 40) l)) < 2) = false → within 1 (List.length (List.take (Int.toNat 40) l))) ∧
                          ((decide (ofN (List.length (List.take (Int.toNat 40) l)) < 2) ||
                                eqL T.u8
                                  (nodeV (List.getD (List.take (Int.toNat 40) l) (Int.toNat 0) (T.dflt (T.arr 32 T.u8))) (List.getD (List.take (Int.toNat 40) l) (Int.toNat 1) (T.dflt (T.arr 32 T.u8))))
                                  (nodeV (List.getD (List.take (Int.toNat 40) l) (Int.toNat 0) (T.dflt (T.arr 32 T.u8)))
                                    (List.getD (List.take (Int.toNat 40) l) (Int.toNat 1) (T.dflt (T.arr 32 T.u8))))) &&
                              true) =
                            true)) := by
  have wt : ∀ k : Int, (0 : Int) ≤ k → k ≤ 1 → decide (ofN (List.length (List.take (Int.toNat 40) l)) < 2) = false → within k (List.length (List.take (Int.toNat 40) l)) := fun k k0 k1 h => by
    have h := of_decide_eq_false h
    unfold ofN at h; unfold within; omega
  simp only [eqL_u8, beq_self_eq_true, bne_self_eq_false, Bool.not_true, Bool.or_self, Bool.or_true, Bool.and_true]
  have w0 := wt 0 (by decide) (by decide)
  have w1 := wt 1 (by decide) (by decide)
  refine ⟨by decide, fun h => ⟨⟨by decide, ?_⟩, fun _ => ?_, fun _ => ?_, fun h => Bool.noConfusion h, fun _ => ⟨w0, w1, w0, w1, trivial⟩⟩, fun h => ⟨fun _ => ?_, fun _ => ?_, fun h => Bool.noConfusion h, fun _ => ⟨w0, w1, w0, w1, trivial⟩⟩⟩
  · have h := of_decide_eq_true h
    unfold ofN at *; omega
  · rw [List.drop_zero, List.length_take]
    exact Nat.le_trans (Nat.min_le_left _ _) (by decide)
  · rw [List.drop_zero, List.length_take]
    exact Nat.le_trans (Nat.min_le_left _ _) (by decide)
  · have h := of_decide_eq_false h
    unfold ofN at h; omega
  · have h := of_decide_eq_false h
    unfold ofN at h; omega

theorem law27_MerkleProofs_vc (l : List Dig) (i m : Int) :
    ofN 0 ≤ 40 ∧
      (sameDs (pathA (List.take (Int.toNat 40) l) i).1 (pathA (List.take (Int.toNat 40) l) i).1 && (pathA (List.take (Int.toNat 40) l) i).2 == (pathA (List.take (Int.toNat 40) l) i).2 &&
              sameDs (growA (List.take (Int.toNat 40) l) m).1 (growA (List.take (Int.toNat 40) l) m).1 &&
            (growA (List.take (Int.toNat 40) l) m).2 == (growA (List.take (Int.toNat 40) l) m).2 &&
          true) =
        true := by
  have hs : ∀ a : List Dig, sameDs a a = true := fun a => decide_eq_true rfl
  rw [hs, hs]
  refine ⟨by decide, ?_⟩
  simp

def an_MRecs : Nat → SState → Option LoopAnn
  | 4, _ => some { X := Nat, slots := fun i => [(3, .sv (.dv (.i64 i)))], objs := fun _ => [], inv := fun i => i ≤ 12, meas := fun i => 12 - i }
  | _, _ => none

theorem law27_MerkleRecords_vc (l : List Rec) :
    (decide (12 < ofN (List.length l)) = true →
        (ofN 0 ≤ 12 ∧ 12 ≤ ofN (List.length l)) ∧
          (∃ (x : Nat), x ≤ 12 ∧ 0 = ofN x) ∧
            ∀ (x : Nat),
              x ≤ 12 →
                (decide (ofN x < ofN (List.length (List.drop 0 (List.take (Int.toNat 12) l)))) = true →
                    within (ofN x) (List.length (List.drop 0 (List.take (Int.toNat 12) l))) ∧
                      (decide
                              (50 <
                                ofN
                                  (List.length
                                    (List.getD (List.drop 0 (List.take (Int.toNat 12) l)) (Int.toNat (ofN x))
                                                  (T.dflt
                                                    T_Rec)).2.2.2.2.2.2)) =
                            true →
                          true = true) ∧
                        (decide
                              (50 <
                                ofN
                                  (List.length
                                    (List.getD (List.drop 0 (List.take (Int.toNat 12) l)) (Int.toNat (ofN x))
                                                  (T.dflt
                                                    T_Rec)).2.2.2.2.2.2)) =
                            false →
                          inI64 (ofN x + 1) ∧ ∃ (x' : Nat), x' ≤ 12 ∧ 12 - x' < 12 - x ∧ ofN x + 1 = ofN x')) ∧
                  (decide (ofN x < ofN (List.length (List.drop 0 (List.take (Int.toNat 12) l)))) = false →
                    List.length (List.drop 0 (List.take (Int.toNat 12) l)) ≤ 1048576 ∧
                      List.length (List.drop 0 (List.take (Int.toNat 12) l)) ≤ 1048576 ∧
                        (sameDs (recsV (nilOf (List (BitVec 8))) (List.drop 0 (List.take (Int.toNat 12) l))).1 (recsV (nilOf (List (BitVec 8))) (List.drop 0 (List.take (Int.toNat 12) l))).1 &&
                              (recsV (nilOf (List (BitVec 8))) (List.drop 0 (List.take (Int.toNat 12) l))).2 == (recsV (nilOf (List (BitVec 8))) (List.drop 0 (List.take (Int.toNat 12) l))).2 &&
                            true) =
                          true)) ∧
      (decide (12 < ofN (List.length l)) = false →
        (∃ (x : Nat), x ≤ 12 ∧ 0 = ofN x) ∧
          ∀ (x : Nat),
            x ≤ 12 →
              (decide (ofN x < ofN (List.length l)) = true →
                  within (ofN x) (List.length l) ∧
                    (decide
                            (50 <
                              ofN
                                (List.length
                                  (List.getD l (Int.toNat (ofN x))
                                                (T.dflt
                                                  T_Rec)).2.2.2.2.2.2)) =
                          true →
                        true = true) ∧
                      (decide
                            (50 <
                              ofN
                                (List.length
                                  (List.getD l (Int.toNat (ofN x))
                                                (T.dflt
                                                  T_Rec)).2.2.2.2.2.2)) =
                          false →
                        inI64 (ofN x + 1) ∧ ∃ (x' : Nat), x' ≤ 12 ∧ 12 - x' < 12 - x ∧ ofN x + 1 = ofN x')) ∧
                (decide (ofN x < ofN (List.length l)) = false →
                  List.length l ≤ 1048576 ∧
                    List.length l ≤ 1048576 ∧
                      (sameDs (recsV (nilOf (List (BitVec 8))) l).1 (recsV (nilOf (List (BitVec 8))) l).1 && (recsV (nilOf (List (BitVec 8))) l).2 == (recsV (nilOf (List (BitVec 8))) l).2 && true) =
                        true)) := by
  have hs : ∀ a : List Dig, sameDs a a = true := fun a => decide_eq_true rfl
  have ht : (List.drop 0 (List.take (Int.toNat 12) l)).length ≤ 12 := by
    rw [List.drop_zero, List.length_take]; exact Nat.min_le_left _ _
  refine ⟨fun h => ⟨⟨by decide, ?_⟩, ⟨0, by omega, rfl⟩, fun x hx => ⟨fun hc => ?_, fun _ => ?_⟩⟩, fun h => ⟨⟨0, by omega, rfl⟩, fun x hx => ⟨fun hc => ?_, fun _ => ?_⟩⟩⟩
  · have h := of_decide_eq_true h
    unfold ofN at *; omega
  · have hc := of_decide_eq_true hc
    have hc : x < (List.drop 0 (List.take (Int.toNat 12) l)).length := by unfold ofN at hc; omega
    exact ⟨by unfold within ofN; omega, fun _ => rfl, fun _ => ⟨by unfold inI64 ofN; omega, x + 1, by omega, by omega, by unfold ofN; omega⟩⟩
  · rw [hs]
    exact ⟨by omega, by omega, by simp⟩
  · have h := of_decide_eq_false h
    have hc := of_decide_eq_true hc
    have h : l.length ≤ 12 := by unfold ofN at h; omega
    have hc : x < l.length := by unfold ofN at hc; omega
    exact ⟨by unfold within ofN; omega, fun _ => rfl, fun _ => ⟨by unfold inI64 ofN; omega, x + 1, by omega, by omega, by unfold ofN; omega⟩⟩
  · have h := of_decide_eq_false h
    have h : l.length ≤ 12 := by unfold ofN at h; omega
    rw [hs]
    exact ⟨by omega, by omega, by simp⟩

theorem law27_alive_spec : Vse.Spec P f_law27_alive c_true27 :=
  spec_fn (l := [(f_merkle_Root, c_Root), (f_merkle_Path, c_Path), (f_merkle_In, c_In), (f_ref27_Node, c_Node)]) ⟨merkle_Root_spec, merkle_Path_spec, merkle_In_spec, ref27_Node_spec, trivial⟩ h_law27_alive rfl rfl
    fun _ _ _ => body_ok an_none law27_alive_vc (by kernel_rfl)

theorem merkle_Records_spec : Vse.Spec P f_merkle_Records c_recs :=
  spec_fn (l := [(f_record_Bytes, c_Bytes), (f_merkle_Leaf, c_Leaf)]) ⟨record_Bytes_spec, merkle_Leaf_spec, trivial⟩ h_merkle_Records rfl rfl
    fun x h ok => body_ok (an_mrecs x.1) (merkle_Records_vc x.1 (got h) fun r hr => ⟨(ok.1.2 r hr).2.2.1.1, fun p hp => ((ok.1.2 r hr).2.2.2.2.2.2.2 p hp).1.1⟩) (by kernel_rfl)

theorem ref27_Records_spec : Vse.Spec P f_ref27_Records c_recs :=
  spec_fn (l := [(f_ref13_Bytes, c_Bytes), (f_ref27_Leaf, c_Leaf)]) ⟨ref13_Bytes_spec, ref27_Leaf_spec, trivial⟩ h_ref27_Records rfl rfl
    fun x h ok => body_ok (an_rrecs x.1) (ref27_Records_vc x.1 (got h) fun r hr => ⟨(ok.1.2 r hr).2.2.1.1, fun p hp => ((ok.1.2 r hr).2.2.2.2.2.2.2 p hp).1.1⟩) (by kernel_rfl)

def c_law27 (ts : List T) : PC := D ts [.bool] (fun _ => none) (fun _ => (true, ()))

theorem law27_MerkleRoots_spec : Vse.Spec P f_law27_MerkleRoots (c_law27 [.slc T_Dig, .slc .u8]) :=
  spec_fn (l := [(f_law27_cut, c_cut27), (f_merkle_Root, c_Root), (f_ref27_Root, c_Root), (f_merkle_Leaf, c_Leaf), (f_ref27_Leaf, c_Leaf), (f_merkle_Node, c_Node), (f_ref27_Node, c_Node), (f_law27_alive, c_true27)])
    ⟨law27_cut_spec, merkle_Root_spec, ref27_Root_spec, merkle_Leaf_spec, ref27_Leaf_spec, merkle_Node_spec, ref27_Node_spec, law27_alive_spec, trivial⟩ h_law27_MerkleRoots rfl rfl
    fun x _ _ => body_ok an_none (law27_MerkleRoots_vc x.1 x.2.1) (by kernel_rfl)

theorem law27_MerkleProofs_spec : Vse.Spec P f_law27_MerkleProofs (c_law27 [.slc T_Dig, .i64, .i64]) :=
  spec_fn (l := [(f_law27_cut, c_cut27), (f_merkle_Path, c_Path), (f_ref27_Path, c_Path), (f_merkle_Growth, c_Growth), (f_ref27_Growth, c_Growth), (f_ref27_Same, c_Same27), (f_law27_alive, c_true27)])
    ⟨law27_cut_spec, merkle_Path_spec, ref27_Path_spec, merkle_Growth_spec, ref27_Growth_spec, ref27_Same_spec, law27_alive_spec, trivial⟩ h_law27_MerkleProofs rfl rfl
    fun x _ _ => body_ok an_none (law27_MerkleProofs_vc x.1 x.2.1 x.2.2.1) (by kernel_rfl)

theorem law27_MerkleRecords_spec : Vse.Spec P f_law27_MerkleRecords (c_law27 [.slc T_Rec]) :=
  spec_fn (l := [(f_merkle_Records, c_recs), (f_ref27_Records, c_recs), (f_ref27_Same, c_Same27), (f_law27_alive, c_true27)]) ⟨merkle_Records_spec, ref27_Records_spec, ref27_Same_spec, law27_alive_spec, trivial⟩ h_law27_MerkleRecords rfl rfl
    fun x _ _ => body_ok an_MRecs (law27_MerkleRecords_vc x.1) (by kernel_rfl)

end Go.Sal
