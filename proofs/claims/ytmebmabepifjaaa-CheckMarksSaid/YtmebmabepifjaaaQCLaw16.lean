/- Contracts of the laws of chapter 16 that name no MAC of the reference. -/
import Derived.Test.YtmebmabepifjaaaQCAud
import Derived.Test.YtmebmabepifjaaaQSalChk3
set_option maxRecDepth 100000
namespace Go.Sal
open Go.Vse Go.Sal.Nm

def c_true16 : PC := D [] [.bool] (fun _ => none) (fun _ => (true, ()))

theorem law16_awake_vc :
    List.length (nilOf (T.den (T.pair (T.arr 32 T.u8) T.i64))) ≤ ROOM ∧
      0 < List.length [107#8, 101#8, 121#8] ∧
        List.length [107#8, 101#8, 121#8] ≤ 1000000 ∧
          0 < List.length [107#8, 101#8, 121#8] ∧
            List.length [107#8, 101#8, 121#8] ≤ 1000000 ∧
              0 < List.length [107#8, 101#8, 121#8] ∧
                List.length [107#8, 101#8, 121#8] ≤ 1000000 ∧
                  true = true ∧ (true = true ∧ 0 < List.length [107#8, 101#8, 121#8]) ∧ (true = true → List.length [107#8, 101#8, 121#8] ≤ 1000000) ∧ true = true := by
  exact ⟨by unfold ROOM; decide, by decide, by decide, by decide, by decide, by decide, by decide, rfl, ⟨rfl, by decide⟩, fun _ => by decide, rfl⟩

def c_cut16 : PC := D [.slc .u8] [.slc .u8] (fun _ => none) (fun x => (x.1.take 300, ()))

theorem law16_cut_vc (b : Bytes) :
    (decide (300 < ofN (List.length b)) = true → (ofN 0 ≤ 300 ∧ 300 ≤ ofN (List.length b)) ∧ List.drop 0 (List.take (Int.toNat 300) b) = List.take 300 b) ∧
      (decide (300 < ofN (List.length b)) = false → b = List.take 300 b) := by
  refine ⟨fun g => ⟨⟨by decide, ?_⟩, List.drop_zero⟩, fun g => ?_⟩
  · have g := of_decide_eq_true g
    unfold ofN at *; omega
  · have g := of_decide_eq_false g
    unfold ofN at g
    exact (List.take_of_length_le (by omega)).symm

def c_few16 : PC := D [.slc T_Rec] [.slc T_Rec] (fun _ => none) (fun x => (fewT 30 x.1, ()))

def an_few16 (l : List Rec) : Nat → SState → Option LoopAnn
  | 3, S => some { X := Nat, slots := fun i => [(3, .sv (.own 10 T_Rec (l.take i))), (4, .sv (.dv (.i64 i)))], objs := fun _ => [(x_tok S 3, .gone), (10, .tok t_api_Record 38)], inv := fun i => i ≤ l.length ∧ i ≤ 30 ∧ l.take i ++ fewT (30 - i) (l.drop i) = fewT 30 l, meas := fun i => 30 - i }
  | _, _ => none

theorem law16_few_vc (l : List Rec) :
    (∃ (x : Nat),
        (x ≤ List.length l ∧ x ≤ 30 ∧ List.take x l ++ fewT (30 - x) (List.drop x l) = fewT 30 l) ∧
          List.take x l = nilOf (T.den T_Rec) ∧ 0 = ofN x) ∧
      ∀ (x : Nat),
        x ≤ List.length l ∧ x ≤ 30 ∧ List.take x l ++ fewT (30 - x) (List.drop x l) = fewT 30 l →
          ((decide (ofN x < ofN (List.length l)) && decide (ofN x < 30)) = true →
              within (ofN x) (List.length l) ∧
                (decide
                        (60 <
                          ofN
                            (List.length
                              (List.getD l (Int.toNat (ofN x))
                                            (T.dflt
                                              T_Rec)).2.2.2.2.2.2)) =
                      false →
                    within (ofN x) (List.length l)) ∧
                  ((decide
                            (60 <
                              ofN
                                (List.length
                                  (List.getD l (Int.toNat (ofN x))
                                                (T.dflt
                                                  T_Rec)).2.2.2.2.2.2)) ||
                          decide
                            (300 <
                              ofN
                                (List.length
                                  (List.getD l (Int.toNat (ofN x))
                                                (T.dflt
                                                  T_Rec)).2.2.2.2.2.1))) =
                        true →
                      List.take x l = fewT 30 l) ∧
                    ((decide
                            (60 <
                              ofN
                                (List.length
                                  (List.getD l (Int.toNat (ofN x))
                                                (T.dflt
                                                  T_Rec)).2.2.2.2.2.2)) ||
                          decide
                            (300 <
                              ofN
                                (List.length
                                  (List.getD l (Int.toNat (ofN x))
                                                (T.dflt
                                                  T_Rec)).2.2.2.2.2.1))) =
                        false →
                      within (ofN x) (List.length l) ∧
                        List.length (List.take x l) +
                              List.length
                                [List.getD l (Int.toNat (ofN x))
                                    (T.dflt T_Rec)] ≤
                            ROOM ∧
                          inI64 (ofN x + 1) ∧
                            ∃ (x' : Nat),
                              (x' ≤ List.length l ∧ x' ≤ 30 ∧ List.take x' l ++ fewT (30 - x') (List.drop x' l) = fewT 30 l) ∧
                                30 - x' < 30 - x ∧
                                  List.take x l ++
                                        [List.getD l (Int.toNat (ofN x))
                                            (T.dflt T_Rec)] =
                                      List.take x' l ∧
                                    ofN x + 1 = ofN x')) ∧
            ((decide (ofN x < ofN (List.length l)) && decide (ofN x < 30)) = false → List.take x l = fewT 30 l) := by
  refine ⟨⟨0, ⟨by omega, by omega, by simp⟩, rfl, rfl⟩, fun x ⟨h1, h2, h3⟩ => ⟨fun hc => ?_, fun hc => ?_⟩⟩
  · simp only [Bool.and_eq_true, decide_eq_true_eq, ofN] at hc
    have c1 : x < l.length := by omega
    have c2 : x < 30 := by omega
    have wi : within (ofN x) l.length := by unfold within ofN; omega
    rw [show Int.toNat (ofN x) = x from rfl]
    obtain ⟨j, hj⟩ : ∃ j, 30 - x = j + 1 := ⟨29 - x, by omega⟩
    have hd : l.drop x = l[x] :: l.drop (x + 1) := List.drop_eq_getElem_cons c1
    have eg : List.getD l x (T.dflt T_Rec) = l[x] := getD_lt c1
    rw [hj, hd, fewT] at h3
    have ts := take_snoc' (d := T_Rec.dflt) c1
    rw [eg]
    refine ⟨wi, fun _ => wi, fun g => ?_, fun g => ⟨wi, ?_, by unfold inI64 ofN; omega, x + 1, ⟨by omega, by omega, ?_⟩, by omega, ?_, by unfold ofN; omega⟩⟩
    · simp only [Bool.or_eq_true, decide_eq_true_eq, ofN] at g
      have g : 60 < l[x].2.2.2.2.2.2.length ∨ 300 < l[x].2.2.2.2.2.1.length := g.imp (fun q => by omega) (fun q => by omega)
      rw [if_pos g, List.append_nil] at h3
      exact h3
    · rw [List.length_take]; simp only [List.length_cons, List.length_nil]; unfold ROOM; omega
    · simp only [Bool.or_eq_false_iff, decide_eq_false_iff_not, ofN] at g
      have g : ¬ (60 < l[x].2.2.2.2.2.2.length ∨ 300 < l[x].2.2.2.2.2.1.length) := fun q => by
        rcases q with q | q
        · exact g.1 (by omega)
        · exact g.2 (by omega)
      rw [if_neg g] at h3
      rw [ts, getD_lt c1, List.append_assoc, show 30 - (x + 1) = j by omega]
      exact h3
    · rw [ts, getD_lt c1]
  · simp only [Bool.and_eq_false_iff, decide_eq_false_iff_not, ofN] at hc
    have hc : x = l.length ∨ x = 30 := by omega
    rcases hc with hc | hc
    · rw [hc, List.drop_of_length_le (Nat.le_refl _), List.take_of_length_le (Nat.le_refl _)] at h3
      rw [hc, List.take_of_length_le (Nat.le_refl _)]
      have e : fewT (30 - l.length) [] = [] := by cases (30 - l.length) <;> rfl
      rw [e, List.append_nil] at h3
      exact h3
    · rw [hc, Nat.sub_self] at h3
      rw [hc]
      have e : fewT 0 (l.drop 30) = [] := rfl
      rw [e, List.append_nil] at h3
      exact h3

def c_chain : PC := D [.slc T_Rec] [.slc T_Rec] (fun _ => none) (fun x => (chainL head0 (fewT 30 x.1), ()))

def an_chain (l : List Rec) : Nat → SState → Option LoopAnn
  | 4, S => some { X := Nat × HeadT × List Rec, slots := fun y => [(3, .sv (.own 10 T_Rec y.2.2)), (13, .sv (.dv (.i64 y.1)))], objs := fun y => [(x_labAt S 4, .cells (ofRuns (enc T_Head y.2.1)) false), (x_tok S 3, .gone), (10, .tok t_api_Record 38)], inv := fun y => y.1 ≤ (fewT 30 l).length ∧ y.2.2.length ≤ y.1 ∧ y.2.2 ++ chainL y.2.1 ((fewT 30 l).drop y.1) = chainL head0 (fewT 30 l), meas := fun y => (fewT 30 l).length - y.1 }
  | _, _ => none

theorem law16_chain_vc (l : List Rec) :
    (∃ (x : Nat × (Int × Int × List (BitVec 8)) × List (Int × Int × List (BitVec 8) × Int × Int × List (BitVec 8) × List (List (BitVec 8) × Int))),
        (x.1 ≤ List.length (fewT 30 l) ∧ List.length x.2.2 ≤ x.1 ∧ x.2.2 ++ chainL x.2.1 (List.drop x.1 (fewT 30 l)) = chainL head0 (fewT 30 l)) ∧
          (x.2.2 = nilOf (T.den T_Rec) ∧ 0 = ofN x.1) ∧
            ofN 0 = x.2.1.1 ∧ ofN 0 = x.2.1.2.1 ∧ List.replicate 32 0#8 = x.2.1.2.2) ∧
      ∀ (x : Nat × (Int × Int × List (BitVec 8)) × List (Int × Int × List (BitVec 8) × Int × Int × List (BitVec 8) × List (List (BitVec 8) × Int))),
        x.1 ≤ List.length (fewT 30 l) ∧ List.length x.2.2 ≤ x.1 ∧ x.2.2 ++ chainL x.2.1 (List.drop x.1 (fewT 30 l)) = chainL head0 (fewT 30 l) →
          (decide (ofN x.1 < ofN (List.length (fewT 30 l))) = true →
              within (ofN x.1) (List.length (fewT 30 l)) ∧
                List.length
                      (List.getD (fewT 30 l) (Int.toNat (ofN x.1))
                                    (T.dflt T_Rec)).2.2.2.2.2.2 ≤
                    ROOM ∧
                  (((makeV x.2.1
                              (List.getD (fewT 30 l) (Int.toNat (ofN x.1))
                                (T.dflt T_Rec))).2 ==
                          0) =
                        true →
                      List.length x.2.2 +
                            List.length
                              [(makeV x.2.1
                                    (List.getD (fewT 30 l) (Int.toNat (ofN x.1))
                                      (T.dflt T_Rec))).1] ≤
                          ROOM ∧
                        inI64 (ofN x.1 + 1) ∧
                          ∃ (x' : Nat × (Int × Int × List (BitVec 8)) × List (Int × Int × List (BitVec 8) × Int × Int × List (BitVec 8) × List (List (BitVec 8) × Int))),
                            (x'.1 ≤ List.length (fewT 30 l) ∧ List.length x'.2.2 ≤ x'.1 ∧ x'.2.2 ++ chainL x'.2.1 (List.drop x'.1 (fewT 30 l)) = chainL head0 (fewT 30 l)) ∧
                              List.length (fewT 30 l) - x'.1 < List.length (fewT 30 l) - x.1 ∧
                                (x.2.2 ++
                                        [(makeV x.2.1
                                              (List.getD (fewT 30 l) (Int.toNat (ofN x.1))
                                                (T.dflt T_Rec))).1] =
                                      x'.2.2 ∧
                                    ofN x.1 + 1 = ofN x'.1) ∧
                                  (nextV x.2.1
                                            (makeV x.2.1
                                                (List.getD (fewT 30 l) (Int.toNat (ofN x.1))
                                                  (T.dflt
                                                    T_Rec))).1).1.1 =
                                      x'.2.1.1 ∧
                                    (nextV x.2.1
                                                (makeV x.2.1
                                                    (List.getD (fewT 30 l) (Int.toNat (ofN x.1))
                                                      (T.dflt
                                                        T_Rec))).1).1.2.1 =
                                        x'.2.1.2.1 ∧
                                      (nextV x.2.1
                                                (makeV x.2.1
                                                    (List.getD (fewT 30 l) (Int.toNat (ofN x.1))
                                                      (T.dflt
                                                        T_Rec))).1).1.2.2 =
                                        x'.2.1.2.2) ∧
                    (((makeV x.2.1
                              (List.getD (fewT 30 l) (Int.toNat (ofN x.1))
                                (T.dflt T_Rec))).2 ==
                          0) =
                        false →
                      inI64 (ofN x.1 + 1) ∧
                        ∃ (x' : Nat × (Int × Int × List (BitVec 8)) × List (Int × Int × List (BitVec 8) × Int × Int × List (BitVec 8) × List (List (BitVec 8) × Int))),
                          (x'.1 ≤ List.length (fewT 30 l) ∧ List.length x'.2.2 ≤ x'.1 ∧ x'.2.2 ++ chainL x'.2.1 (List.drop x'.1 (fewT 30 l)) = chainL head0 (fewT 30 l)) ∧
                            List.length (fewT 30 l) - x'.1 < List.length (fewT 30 l) - x.1 ∧
                              (x.2.2 = x'.2.2 ∧ ofN x.1 + 1 = ofN x'.1) ∧ x.2.1.1 = x'.2.1.1 ∧ x.2.1.2.1 = x'.2.1.2.1 ∧ x.2.1.2.2 = x'.2.1.2.2)) ∧
            (decide (ofN x.1 < ofN (List.length (fewT 30 l))) = false → x.2.2 = chainL head0 (fewT 30 l)) := by
  have hf := few_len 30 l
  refine ⟨⟨(0, head0, []), ⟨Nat.zero_le _, Nat.le_refl _, rfl⟩, ⟨rfl, rfl⟩, rfl, rfl, rfl⟩, fun x ⟨h1, h2, h3⟩ => ⟨fun hc => ?_, fun hc => ?_⟩⟩
  · have hc := of_decide_eq_true hc
    have c1 : x.1 < (fewT 30 l).length := by unfold ofN at hc; omega
    rw [show Int.toNat (ofN x.1) = x.1 from rfl]
    have hd : (fewT 30 l).drop x.1 = (fewT 30 l)[x.1] :: (fewT 30 l).drop (x.1 + 1) := List.drop_eq_getElem_cons c1
    have eg : List.getD (fewT 30 l) x.1 (T.dflt T_Rec) = (fewT 30 l)[x.1] := getD_lt c1
    rw [eg]
    rw [hd, chainL] at h3
    have h60 := (few_mem 30 l _ (List.getElem_mem c1)).2
    refine ⟨by unfold within ofN; omega, by unfold ROOM; omega, fun g => ⟨?_, by unfold inI64 ofN; omega, (x.1 + 1, (nextV x.2.1 (makeV x.2.1 (fewT 30 l)[x.1]).1).1, x.2.2 ++ [(makeV x.2.1 (fewT 30 l)[x.1]).1]), ⟨c1, ?_, ?_⟩, ?_, ⟨rfl, ?_⟩, rfl, rfl, rfl⟩, fun g => ⟨by unfold inI64 ofN; omega, (x.1 + 1, x.2.1, x.2.2), ⟨c1, ?_, ?_⟩, ?_, ⟨rfl, ?_⟩, rfl, rfl, rfl⟩⟩
    · simp only [List.length_cons, List.length_nil]; unfold ROOM; omega
    · show (x.2.2 ++ [_]).length ≤ x.1 + 1
      simp; omega
    · have g : (makeV x.2.1 (fewT 30 l)[x.1]).2 = 0 := by simpa using g
      rw [if_pos g] at h3
      show (x.2.2 ++ [_]) ++ _ = _
      rw [List.append_assoc]
      exact h3
    · show (fewT 30 l).length - (x.1 + 1) < (fewT 30 l).length - x.1
      omega
    · show ofN x.1 + 1 = ofN (x.1 + 1)
      unfold ofN; omega
    · show x.2.2.length ≤ x.1 + 1
      omega
    · have g : ¬ (makeV x.2.1 (fewT 30 l)[x.1]).2 = 0 := by simpa using g
      rw [if_neg g] at h3
      exact h3
    · show (fewT 30 l).length - (x.1 + 1) < (fewT 30 l).length - x.1
      omega
    · show ofN x.1 + 1 = ofN (x.1 + 1)
      unfold ofN; omega
  · have hc := of_decide_eq_false hc
    have hc : x.1 = (fewT 30 l).length := by unfold ofN at hc; omega
    rw [hc, List.drop_of_length_le (Nat.le_refl _), chainL, List.append_nil] at h3
    exact h3

def c_twice : PC := D [T_Rec, T_Rec] [.bool] (fun _ => none) (fun x => (twiceV x.1 x.2.1, ()))

theorem law16_twice_vc (a b : Rec) (ha : a.2.2.1.length = 32 ∧ ∀ p ∈ a.2.2.2.2.2.2, p.1.length = 32) (hb : b.2.2.1.length = 32 ∧ ∀ p ∈ b.2.2.2.2.2.2, p.1.length = 32) :
    (((bytesV a).2 == 0 && (bytesV b).2 == 0 && (bytesV a).1 != (bytesV b).1) = true → List.length (bytesV a).1 ≤ 1073741824) ∧
      (((bytesV a).2 == 0 && (bytesV b).2 == 0 && (bytesV a).1 != (bytesV b).1) = true → List.length (bytesV b).1 ≤ 1073741824) ∧
        ((bytesV a).2 == 0 && (bytesV b).2 == 0 && (bytesV a).1 != (bytesV b).1 && eqL T.u8 (sha (bytesV a).1) (sha (bytesV b).1)) = twiceV a b := by
  have lenOk : ∀ r : Rec, (r.2.2.1.length = 32 ∧ ∀ p ∈ r.2.2.2.2.2.2, p.1.length = 32) → (bytesV r).1.length ≤ 1073741824 := fun r h => by
    by_cases c : checkV r = 0
    · rw [bytesV_ok c]
      exact Nat.le_trans (recBytes_len c h.1 h.2) (by decide)
    · rw [bytesV_bad c]; simp
  refine ⟨fun _ => lenOk a ha, fun _ => lenOk b hb, ?_⟩
  unfold twiceV alikeV
  rw [eqL_u8, Bool.eq_iff_iff]
  simp only [Bool.and_eq_true, beq_iff_eq, bne_iff_ne, ne_eq, decide_eq_true_eq, Bool.not_eq_true', beq_eq_false_iff_ne]

def c_coll : PC := D [.slc T_Rec, .slc T_Rec] [.bool] (fun _ => none) (fun x => (collV x.1 x.2.1, ()))

def an_coll (a b : List Rec) : Nat → SState → Option LoopAnn
  | 2, _ => some { X := Nat, slots := fun i => [(5, .sv (.dv (.i64 i)))], objs := fun _ => [], inv := fun i => i ≤ a.length ∧ i ≤ b.length ∧ collV (a.drop i) (b.drop i) = collV a b, meas := fun i => a.length - i }
  | _, _ => none

theorem law16_collided_vc (a b : List Rec) (ha : a.length ≤ LIM) :
    (∃ (x : Nat), (x ≤ List.length a ∧ x ≤ List.length b ∧ collV (List.drop x a) (List.drop x b) = collV a b) ∧ 0 = ofN x) ∧
      ∀ (x : Nat),
        x ≤ List.length a ∧ x ≤ List.length b ∧ collV (List.drop x a) (List.drop x b) = collV a b →
          ((decide (ofN x < ofN (List.length a)) && decide (ofN x < ofN (List.length b))) = true →
              within (ofN x) (List.length a) ∧
                within (ofN x) (List.length b) ∧
                  (twiceV
                          (List.getD a (Int.toNat (ofN x))
                            (T.dflt T_Rec))
                          (List.getD b (Int.toNat (ofN x))
                            (T.dflt T_Rec)) =
                        true →
                      true = collV a b) ∧
                    (twiceV
                          (List.getD a (Int.toNat (ofN x))
                            (T.dflt T_Rec))
                          (List.getD b (Int.toNat (ofN x))
                            (T.dflt T_Rec)) =
                        false →
                      inI64 (ofN x + 1) ∧
                        ∃ (x' : Nat), (x' ≤ List.length a ∧ x' ≤ List.length b ∧ collV (List.drop x' a) (List.drop x' b) = collV a b) ∧ List.length a - x' < List.length a - x ∧ ofN x + 1 = ofN x')) ∧
            ((decide (ofN x < ofN (List.length a)) && decide (ofN x < ofN (List.length b))) = false → false = collV a b) := by
  have ha' : a.length ≤ 9223372036854775807 := ha
  refine ⟨⟨0, ⟨by omega, by omega, by simp⟩, rfl⟩, fun x ⟨h1, h2, h3⟩ => ⟨fun hc => ?_, fun hc => ?_⟩⟩
  · simp only [Bool.and_eq_true, decide_eq_true_eq, ofN] at hc
    have c1 : x < a.length := by omega
    have c2 : x < b.length := by omega
    rw [show Int.toNat (ofN x) = x from rfl]
    have ea : List.getD a x (T.dflt T_Rec) = a[x] := getD_lt c1
    have eb : List.getD b x (T.dflt T_Rec) = b[x] := getD_lt c2
    rw [ea, eb]
    have hs : collV (a.drop x) (b.drop x) = (twiceV a[x] b[x] || collV (a.drop (x + 1)) (b.drop (x + 1))) := by
      rw [List.drop_eq_getElem_cons c1, List.drop_eq_getElem_cons c2]
      unfold collV
      rw [List.zip_cons_cons, List.any_cons]
    rw [hs] at h3
    refine ⟨by unfold within ofN; omega, by unfold within ofN; omega, fun g => ?_, fun g => ⟨by unfold inI64 ofN; omega, x + 1, ⟨c1, c2, ?_⟩, by omega, by unfold ofN; omega⟩⟩
    · rw [g, Bool.true_or] at h3; exact h3
    · rw [g, Bool.false_or] at h3; exact h3
  · simp only [Bool.and_eq_false_iff, decide_eq_false_iff_not, ofN] at hc
    have hc : x = a.length ∨ x = b.length := by omega
    rcases hc with hc | hc
    · rw [hc, List.drop_of_length_le (Nat.le_refl _)] at h3
      exact h3
    · rw [hc, List.drop_of_length_le (l := b) (Nat.le_refl _)] at h3
      unfold collV at h3 ⊢
      rw [List.zip_nil_right] at h3
      exact h3

theorem law16_CheckSealed_vc (key : Bytes) (site : Int) (h : HeadT) (at' x : B8) :
    (false = true → false = true) ∧
      (false = false →
        List.length (List.take 300 key) ≤ 1000000 ∧
          (((mkV (List.take 300 key) site h).2 != 0) = true →
              ((mkV (List.take 300 key) site h).1.1 == ofN 0 &&
                  ((mkV (List.take 300 key) site h).1.2.1 == ofN 0 && ((mkV (List.take 300 key) site h).1.2.2.1 == ofN 0 && eqL T.u8 (mkV (List.take 300 key) site h).1.2.2.2.1 (List.replicate 32 0#8)) &&
                    eqL T.u8 (mkV (List.take 300 key) site h).1.2.2.2.2 (List.replicate 32 0#8))) =
                true) ∧
            (((mkV (List.take 300 key) site h).2 != 0) = false →
              List.length (List.take 300 key) ≤ 1000000 ∧
                ((!sealedV (List.take 300 key) (mkV (List.take 300 key) site h).1 || mcheckV (mkV (List.take 300 key) site h).1 != 0) = true → false = true) ∧
                  ((!sealedV (List.take 300 key) (mkV (List.take 300 key) site h).1 || mcheckV (mkV (List.take 300 key) site h).1 != 0) = false →
                    ofN 32 ≠ 0 ∧
                      within (Int.tmod (ofN (BitVec.toNat at')) 32) 32 ∧
                        within (Int.tmod (ofN (BitVec.toNat at')) 32) 32 ∧
                          List.length (List.take 300 key) ≤ 1000000 ∧
                            (sealedV (List.take 300 key)
                                  ((mkV (List.take 300 key) site h).1.1, (mkV (List.take 300 key) site h).1.2.1, (mkV (List.take 300 key) site h).1.2.2.1, (mkV (List.take 300 key) site h).1.2.2.2.1,
                                    List.set (mkV (List.take 300 key) site h).1.2.2.2.2 (Int.toNat (Int.tmod (ofN (BitVec.toNat at')) 32))
                                      (List.getD (mkV (List.take 300 key) site h).1.2.2.2.2 (Int.toNat (Int.tmod (ofN (BitVec.toNat at')) 32)) 0#8 ^^^ x)) ==
                                (x == 0#8)) =
                              true))) := by
  have hk : (List.take 300 key).length ≤ 1000000 := by rw [List.length_take]; omega
  generalize List.take 300 key = K at hk ⊢
  refine ⟨fun h => Bool.noConfusion h, fun _ => ⟨hk, ?_⟩⟩
  cases hm : mayV (markOf site h) with
  | false =>
    have e : mkV K site h = (mark0, 160) := if_neg (by rw [hm]; decide)
    rw [e]
    refine ⟨fun _ => ?_, fun g => by simp at g⟩
    have em : ∀ z : Mark, z = mark0 → (z.1 == ofN 0 && (z.2.1 == ofN 0 && (z.2.2.1 == ofN 0 && eqL T.u8 z.2.2.2.1 (List.replicate 32 0#8)) && eqL T.u8 z.2.2.2.2 (List.replicate 32 0#8))) = true := fun z h => by
      subst h
      rw [eqL_u8, eqL_u8]; rfl
    exact em mark0 rfl
  | true =>
    obtain ⟨z, e, hz, hmac, hl⟩ := mk_facts (K := K) hm
    rw [e]
    have h1 : sealedV K z = true := by
      unfold sealedV
      rw [hz, hmac]
      unfold alikeV
      simp
    have h2 : mcheckV z = 0 := if_pos hz
    have hn : (0 : Int) ≤ Int.tmod (ofN (BitVec.toNat at')) 32 ∧ Int.tmod (ofN (BitVec.toNat at')) 32 < 32 := by
      have a1 := Int.tmod_nonneg (a := ofN (BitVec.toNat at')) 32 (Int.natCast_nonneg _)
      have a2 := Int.tmod_lt_of_pos (ofN (BitVec.toNat at')) (b := 32) (by decide)
      exact ⟨a1, a2⟩
    generalize Int.tmod (ofN (BitVec.toNat at')) 32 = j at hn ⊢
    have wi : within j 32 := by unfold within; omega
    refine ⟨fun g => by simp at g, fun _ => ⟨hk, fun g => ?_, fun _ => ⟨by decide, wi, wi, hk, ?_⟩⟩⟩
    · simp only at g
      rw [h1, h2] at g
      simp at g
    · simp only
      rw [sealed_with hz, ← hmac, alike_set (by rw [hl]; omega)]
      simp

theorem law16_CheckBack_vc (m : Mark) (b : Bytes) (hc : m.2.2.2.1.length = 32) (hd : m.2.2.2.2.length = 32) :
    (false = true → false = true) ∧
      (false = false →
        (((mbytesV m).2 == 0) = true →
            (((parseM (mbytesV m).1).2 != 0 ||
                    !((parseM (mbytesV m).1).1.1 == m.1 &&
                        ((parseM (mbytesV m).1).1.2.1 == m.2.1 && ((parseM (mbytesV m).1).1.2.2.1 == m.2.2.1 && eqL T.u8 (parseM (mbytesV m).1).1.2.2.2.1 m.2.2.2.1) &&
                          eqL T.u8 (parseM (mbytesV m).1).1.2.2.2.2 m.2.2.2.2))) =
                  true →
                false = true) ∧
              (((parseM (mbytesV m).1).2 != 0 ||
                    !((parseM (mbytesV m).1).1.1 == m.1 &&
                        ((parseM (mbytesV m).1).1.2.1 == m.2.1 && ((parseM (mbytesV m).1).1.2.2.1 == m.2.2.1 && eqL T.u8 (parseM (mbytesV m).1).1.2.2.2.1 m.2.2.2.1) &&
                          eqL T.u8 (parseM (mbytesV m).1).1.2.2.2.2 m.2.2.2.2))) =
                  false →
                (((parseM b).2 != 0) = true →
                    ((parseM b).1.1 == ofN 0 &&
                        ((parseM b).1.2.1 == ofN 0 && ((parseM b).1.2.2.1 == ofN 0 && eqL T.u8 (parseM b).1.2.2.2.1 (List.replicate 32 0#8)) && eqL T.u8 (parseM b).1.2.2.2.2 (List.replicate 32 0#8))) =
                      true) ∧
                  (((parseM b).2 != 0) = false → ((mbytesV (parseM b).1).2 == 0 && (mbytesV (parseM b).1).1 == b) = true))) ∧
          (((mbytesV m).2 == 0) = false →
            (((parseM b).2 != 0) = true →
                ((parseM b).1.1 == ofN 0 &&
                    ((parseM b).1.2.1 == ofN 0 && ((parseM b).1.2.2.1 == ofN 0 && eqL T.u8 (parseM b).1.2.2.2.1 (List.replicate 32 0#8)) && eqL T.u8 (parseM b).1.2.2.2.2 (List.replicate 32 0#8))) =
                  true) ∧
              (((parseM b).2 != 0) = false → ((mbytesV (parseM b).1).2 == 0 && (mbytesV (parseM b).1).1 == b) = true))) := by
  have em : ∀ z m : Mark, z = m → (z.1 == m.1 && (z.2.1 == m.2.1 && (z.2.2.1 == m.2.2.1 && eqL T.u8 z.2.2.2.1 m.2.2.2.1) && eqL T.u8 z.2.2.2.2 m.2.2.2.2)) = true := fun z m h => by
    subst h
    rw [eqL_u8, eqL_u8]; simp
  have tail : (((parseM b).2 != 0) = true →
                ((parseM b).1.1 == ofN 0 &&
                    ((parseM b).1.2.1 == ofN 0 && ((parseM b).1.2.2.1 == ofN 0 && eqL T.u8 (parseM b).1.2.2.2.1 (List.replicate 32 0#8)) && eqL T.u8 (parseM b).1.2.2.2.2 (List.replicate 32 0#8))) =
                  true) ∧
              (((parseM b).2 != 0) = false → ((mbytesV (parseM b).1).2 == 0 && (mbytesV (parseM b).1).1 == b) = true) := by
    refine ⟨fun g => ?_, fun g => ?_⟩
    · have g : ¬ (parseM b).2 = 0 := by simpa using g
      have e : (parseM b).1 = mark0 := by
        unfold parseM at g ⊢
        split at g
        · exact absurd rfl g
        · rename_i h; rw [if_neg h]
      exact em _ mark0 e
    · have g : (parseM b).2 = 0 := by simpa using g
      rw [bytes_parse g]
      simp
  refine ⟨fun h => Bool.noConfusion h, fun _ => ⟨fun g => ?_, fun _ => tail⟩⟩
  have hm : mayV m = true := by
    cases h : mayV m with
    | true => rfl
    | false => unfold mbytesV at g; rw [if_neg (by rw [h]; decide)] at g; exact absurd g (by decide)
  have e : mbytesV m = (mbodyV m ++ m.2.2.2.2, 0) := if_pos hm
  rw [e]
  show (((parseM (mbodyV m ++ m.2.2.2.2)).2 != 0 || _) = true → _) ∧ _
  rw [parse_bytes hm hc hd]
  rw [em m m rfl]
  exact ⟨fun g => by simp at g, fun _ => tail⟩

def x_recs (S : SState) (i : Nat) : List Rec := match S.get i with
  | .sv (.dv (.imm t xs)) => if h : t = T_Rec then castL h xs else []
  | _ => []

def an_Prefix : Nat → SState → Option LoopAnn
  | 16, S => some { X := Nat, slots := fun k => [(18, .sv (.dv (.i64 ((k : Int) - 1))))], objs := fun _ => [], inv := fun k => (k : Int) ≤ x_int S 87 ∧ ∀ j : Nat, k ≤ j → (j : Int) < x_int S 87 → (x_recs S 1).getD j T_Rec.dflt = (x_recs S 2).getD j T_Rec.dflt, meas := fun k => k }
  | _, _ => none

theorem prefix_loop {K : Bytes} {A B : List Rec} {m : Mark} (lA : A.length ≤ 30) (fA : ∀ r ∈ A, fine r) (fB : ∀ r ∈ B, fine r) (g : ((auditV K A [m]).1 != 6 || (auditV K B [m]).1 != 6) = false) :
    ((decide (ofN A.length < m.2.1) || decide (ofN B.length < m.2.1)) = true → false = true) ∧
      ((decide (ofN A.length < m.2.1) || decide (ofN B.length < m.2.1)) = false →
        inI64 (m.2.1 - 1) ∧
          (∃ (x : Nat), (ofN x ≤ m.2.1 ∧ ∀ (j : Nat), x ≤ j → ofN j < m.2.1 → List.getD A j (T.dflt T_Rec) = List.getD B j (T.dflt T_Rec)) ∧ m.2.1 - 1 = ofN x - 1) ∧
            ∀ (x : Nat), (ofN x ≤ m.2.1 ∧ ∀ (j : Nat), x ≤ j → ofN j < m.2.1 → List.getD A j (T.dflt T_Rec) = List.getD B j (T.dflt T_Rec)) →
              (decide (0 ≤ ofN x - 1) = true →
                  within (ofN x - 1) A.length ∧ within (ofN x - 1) B.length ∧
                    ((!sameV (List.getD A (Int.toNat (ofN x - 1)) (T.dflt T_Rec)) (List.getD B (Int.toNat (ofN x - 1)) (T.dflt T_Rec))) = true →
                      within (ofN x - 1) A.length ∧ within (ofN x - 1) B.length ∧ twiceV (List.getD A (Int.toNat (ofN x - 1)) (T.dflt T_Rec)) (List.getD B (Int.toNat (ofN x - 1)) (T.dflt T_Rec)) = true) ∧
                    ((!sameV (List.getD A (Int.toNat (ofN x - 1)) (T.dflt T_Rec)) (List.getD B (Int.toNat (ofN x - 1)) (T.dflt T_Rec))) = false →
                      inI64 (ofN x - 1 - 1) ∧ ∃ (x' : Nat), (ofN x' ≤ m.2.1 ∧ ∀ (j : Nat), x' ≤ j → ofN j < m.2.1 → List.getD A j (T.dflt T_Rec) = List.getD B j (T.dflt T_Rec)) ∧ x' < x ∧ ofN x - 1 - 1 = ofN x' - 1)) ∧
                (decide (0 ≤ ofN x - 1) = false → true = true)) := by
  simp only [Bool.or_eq_false_iff, bne_eq_false_iff_eq] at g
  obtain ⟨n0, n1, n2, w1, w2, he⟩ := prefix_facts g.1 g.2
  obtain ⟨n, hn⟩ : ∃ n : Nat, m.2.1 = (n : Int) := ⟨m.2.1.toNat, (Int.toNat_of_nonneg n0).symm⟩
  rw [hn] at n1 n2 w1 w2 he ⊢
  rw [Int.toNat_natCast] at w1 w2 he
  have n1 : n ≤ A.length := Int.ofNat_le.1 n1
  have n2 : n ≤ B.length := Int.ofNat_le.1 n2
  refine ⟨fun h => ?_, fun _ => ⟨by unfold inI64; omega, ⟨n, ⟨Int.le_refl _, fun j h1 h2 => by unfold ofN at h2; omega⟩, rfl⟩, fun x ⟨h1, h2⟩ => ⟨fun hc => ?_, fun _ => rfl⟩⟩⟩
  · simp only [Bool.or_eq_true, decide_eq_true_eq, ofN] at h
    omega
  · have hc := of_decide_eq_true hc
    unfold ofN at h1 hc
    have hx : 1 ≤ x := by omega
    have hxn : x ≤ n := by omega
    have ei : Int.toNat (ofN x - 1) = x - 1 := by unfold ofN; omega
    have wa : within (ofN x - 1) A.length := by unfold within ofN; omega
    have wb : within (ofN x - 1) B.length := by unfold within ofN; omega
    rw [ei]
    refine ⟨wa, wb, fun hs => ⟨wa, wb, ?_⟩, fun hs => ⟨by unfold inI64 ofN; omega, x - 1, ⟨by unfold ofN; omega, fun j j1 j2 => ?_⟩, by omega, by unfold ofN; omega⟩⟩
    · have hs : ¬ A.getD (x - 1) T_Rec.dflt = B.getD (x - 1) T_Rec.dflt := fun e => by
        have e : List.getD A (x - 1) (T.dflt T_Rec) = List.getD B (x - 1) (T.dflt T_Rec) := e
        rw [e, sameV_self] at hs
        exact absurd hs (by decide)
      rcases back_step (k := x - 1) n1 n2 fA fB w1 w2 he (by omega) (fun j j1 j2 => h2 j (by omega) (by unfold ofN; omega)) with e | e
      · exact absurd e hs
      · exact e
    · by_cases hj : j = x - 1
      · have hs : sameV (List.getD A (x - 1) (T.dflt T_Rec)) (List.getD B (x - 1) (T.dflt T_Rec)) = true := by simpa using hs
        rw [hj]
        exact (sameV_iff _ _).1 hs
      · exact h2 j (by omega) j2

theorem law16_CheckPrefix_vc (key : Bytes) (a b : List Rec) (made : Bool) (m : Mark) (seq : B8) (fa : ∀ r ∈ a, fine r) (fb : ∀ r ∈ b, fine r) :
    (false = true → false = true) ∧
      (false = false →
        (made = true →
            inI64 (ofN (List.length (chainL head0 (fewT 30 (fewT 30 a)))) + 1) ∧
              ofN (List.length (chainL head0 (fewT 30 (fewT 30 a)))) + 1 ≠ 0 ∧
                (0 ≤ Int.tmod (ofN (BitVec.toNat seq)) (ofN (List.length (chainL head0 (fewT 30 (fewT 30 a)))) + 1) ∧
                    Int.tmod (ofN (BitVec.toNat seq)) (ofN (List.length (chainL head0 (fewT 30 (fewT 30 a)))) + 1) ≤ ofN (List.length (chainL head0 (fewT 30 (fewT 30 a))))) ∧
                  List.length (List.take 300 key) ≤ 1000000 ∧
                    (((mkV (List.take 300 key) 0
                                (walkV (ofN 0, ofN 0, List.replicate 32 0#8)
                                    (List.drop 0
                                      (List.take (Int.toNat (Int.tmod (ofN (BitVec.toNat seq)) (ofN (List.length (chainL head0 (fewT 30 (fewT 30 a)))) + 1))) (chainL head0 (fewT 30 (fewT 30 a)))))
                                    0).1).2 !=
                            0) =
                          true →
                        false = true) ∧
                      (((mkV (List.take 300 key) 0
                                (walkV (ofN 0, ofN 0, List.replicate 32 0#8)
                                    (List.drop 0
                                      (List.take (Int.toNat (Int.tmod (ofN (BitVec.toNat seq)) (ofN (List.length (chainL head0 (fewT 30 (fewT 30 a)))) + 1))) (chainL head0 (fewT 30 (fewT 30 a)))))
                                    0).1).2 !=
                            0) =
                          false →
                        List.length (List.take 300 key) ≤ 1000000 ∧
                          (((auditV (List.take 300 key) (chainL head0 (fewT 30 (fewT 30 a)))
                                      [(mkV (List.take 300 key) 0
                                            (walkV (ofN 0, ofN 0, List.replicate 32 0#8)
                                                (List.drop 0
                                                  (List.take (Int.toNat (Int.tmod (ofN (BitVec.toNat seq)) (ofN (List.length (chainL head0 (fewT 30 (fewT 30 a)))) + 1)))
                                                    (chainL head0 (fewT 30 (fewT 30 a)))))
                                                0).1).1]).1 !=
                                  6) =
                                false →
                              List.length (List.take 300 key) ≤ 1000000) ∧
                            (((auditV (List.take 300 key) (chainL head0 (fewT 30 (fewT 30 a)))
                                          [(mkV (List.take 300 key) 0
                                                (walkV (ofN 0, ofN 0, List.replicate 32 0#8)
                                                    (List.drop 0
                                                      (List.take (Int.toNat (Int.tmod (ofN (BitVec.toNat seq)) (ofN (List.length (chainL head0 (fewT 30 (fewT 30 a)))) + 1)))
                                                        (chainL head0 (fewT 30 (fewT 30 a)))))
                                                    0).1).1]).1 !=
                                      6 ||
                                    (auditV (List.take 300 key) (chainL head0 (fewT 30 (fewT 30 b)))
                                          [(mkV (List.take 300 key) 0
                                                (walkV (ofN 0, ofN 0, List.replicate 32 0#8)
                                                    (List.drop 0
                                                      (List.take (Int.toNat (Int.tmod (ofN (BitVec.toNat seq)) (ofN (List.length (chainL head0 (fewT 30 (fewT 30 a)))) + 1)))
                                                        (chainL head0 (fewT 30 (fewT 30 a)))))
                                                    0).1).1]).1 !=
                                      6) =
                                  true →
                                true = true) ∧
                              (((auditV (List.take 300 key) (chainL head0 (fewT 30 (fewT 30 a)))
                                          [(mkV (List.take 300 key) 0
                                                (walkV (ofN 0, ofN 0, List.replicate 32 0#8)
                                                    (List.drop 0
                                                      (List.take (Int.toNat (Int.tmod (ofN (BitVec.toNat seq)) (ofN (List.length (chainL head0 (fewT 30 (fewT 30 a)))) + 1)))
                                                        (chainL head0 (fewT 30 (fewT 30 a)))))
                                                    0).1).1]).1 !=
                                      6 ||
                                    (auditV (List.take 300 key) (chainL head0 (fewT 30 (fewT 30 b)))
                                          [(mkV (List.take 300 key) 0
                                                (walkV (ofN 0, ofN 0, List.replicate 32 0#8)
                                                    (List.drop 0
                                                      (List.take (Int.toNat (Int.tmod (ofN (BitVec.toNat seq)) (ofN (List.length (chainL head0 (fewT 30 (fewT 30 a)))) + 1)))
                                                        (chainL head0 (fewT 30 (fewT 30 a)))))
                                                    0).1).1]).1 !=
                                      6) =
                                  false →
                                ((decide
                                          (ofN (List.length (chainL head0 (fewT 30 (fewT 30 a)))) <
                                            (mkV (List.take 300 key) 0
                                                    (walkV (ofN 0, ofN 0, List.replicate 32 0#8)
                                                        (List.drop 0
                                                          (List.take (Int.toNat (Int.tmod (ofN (BitVec.toNat seq)) (ofN (List.length (chainL head0 (fewT 30 (fewT 30 a)))) + 1)))
                                                            (chainL head0 (fewT 30 (fewT 30 a)))))
                                                        0).1).1.2.1) ||
                                        decide
                                          (ofN (List.length (chainL head0 (fewT 30 (fewT 30 b)))) <
                                            (mkV (List.take 300 key) 0
                                                    (walkV (ofN 0, ofN 0, List.replicate 32 0#8)
                                                        (List.drop 0
                                                          (List.take (Int.toNat (Int.tmod (ofN (BitVec.toNat seq)) (ofN (List.length (chainL head0 (fewT 30 (fewT 30 a)))) + 1)))
                                                            (chainL head0 (fewT 30 (fewT 30 a)))))
                                                        0).1).1.2.1)) =
                                      true →
                                    false = true) ∧
                                  ((decide
                                          (ofN (List.length (chainL head0 (fewT 30 (fewT 30 a)))) <
                                            (mkV (List.take 300 key) 0
                                                    (walkV (ofN 0, ofN 0, List.replicate 32 0#8)
                                                        (List.drop 0
                                                          (List.take (Int.toNat (Int.tmod (ofN (BitVec.toNat seq)) (ofN (List.length (chainL head0 (fewT 30 (fewT 30 a)))) + 1)))
                                                            (chainL head0 (fewT 30 (fewT 30 a)))))
                                                        0).1).1.2.1) ||
                                        decide
                                          (ofN (List.length (chainL head0 (fewT 30 (fewT 30 b)))) <
                                            (mkV (List.take 300 key) 0
                                                    (walkV (ofN 0, ofN 0, List.replicate 32 0#8)
                                                        (List.drop 0
                                                          (List.take (Int.toNat (Int.tmod (ofN (BitVec.toNat seq)) (ofN (List.length (chainL head0 (fewT 30 (fewT 30 a)))) + 1)))
                                                            (chainL head0 (fewT 30 (fewT 30 a)))))
                                                        0).1).1.2.1)) =
                                      false →
                                    inI64
                                        ((mkV (List.take 300 key) 0
                                                  (walkV (ofN 0, ofN 0, List.replicate 32 0#8)
                                                      (List.drop 0
                                                        (List.take (Int.toNat (Int.tmod (ofN (BitVec.toNat seq)) (ofN (List.length (chainL head0 (fewT 30 (fewT 30 a)))) + 1)))
                                                          (chainL head0 (fewT 30 (fewT 30 a)))))
                                                      0).1).1.2.1 -
                                          1) ∧
                                      (∃ (x : Nat),
                                          (ofN x ≤
                                                (mkV (List.take 300 key) 0
                                                        (walkV (ofN 0, ofN 0, List.replicate 32 0#8)
                                                            (List.drop 0
                                                              (List.take (Int.toNat (Int.tmod (ofN (BitVec.toNat seq)) (ofN (List.length (chainL head0 (fewT 30 (fewT 30 a)))) + 1)))
                                                                (chainL head0 (fewT 30 (fewT 30 a)))))
                                                            0).1).1.2.1 ∧
                                              ∀ (j : Nat),
                                                x ≤ j →
                                                  ofN j <
                                                      (mkV (List.take 300 key) 0
                                                              (walkV (ofN 0, ofN 0, List.replicate 32 0#8)
                                                                  (List.drop 0
                                                                    (List.take (Int.toNat (Int.tmod (ofN (BitVec.toNat seq)) (ofN (List.length (chainL head0 (fewT 30 (fewT 30 a)))) + 1)))
                                                                      (chainL head0 (fewT 30 (fewT 30 a)))))
                                                                  0).1).1.2.1 →
                                                    List.getD (chainL head0 (fewT 30 (fewT 30 a))) j
                                                        (T.dflt
                                                          T_Rec) =
                                                      List.getD (chainL head0 (fewT 30 (fewT 30 b))) j
                                                        (T.dflt
                                                          T_Rec)) ∧
                                            (mkV (List.take 300 key) 0
                                                        (walkV (ofN 0, ofN 0, List.replicate 32 0#8)
                                                            (List.drop 0
                                                              (List.take (Int.toNat (Int.tmod (ofN (BitVec.toNat seq)) (ofN (List.length (chainL head0 (fewT 30 (fewT 30 a)))) + 1)))
                                                                (chainL head0 (fewT 30 (fewT 30 a)))))
                                                            0).1).1.2.1 -
                                                1 =
                                              ofN x - 1) ∧
                                        ∀ (x : Nat),
                                          (ofN x ≤
                                                (mkV (List.take 300 key) 0
                                                        (walkV (ofN 0, ofN 0, List.replicate 32 0#8)
                                                            (List.drop 0
                                                              (List.take (Int.toNat (Int.tmod (ofN (BitVec.toNat seq)) (ofN (List.length (chainL head0 (fewT 30 (fewT 30 a)))) + 1)))
                                                                (chainL head0 (fewT 30 (fewT 30 a)))))
                                                            0).1).1.2.1 ∧
                                              ∀ (j : Nat),
                                                x ≤ j →
                                                  ofN j <
                                                      (mkV (List.take 300 key) 0
                                                              (walkV (ofN 0, ofN 0, List.replicate 32 0#8)
                                                                  (List.drop 0
                                                                    (List.take (Int.toNat (Int.tmod (ofN (BitVec.toNat seq)) (ofN (List.length (chainL head0 (fewT 30 (fewT 30 a)))) + 1)))
                                                                      (chainL head0 (fewT 30 (fewT 30 a)))))
                                                                  0).1).1.2.1 →
                                                    List.getD (chainL head0 (fewT 30 (fewT 30 a))) j
                                                        (T.dflt
                                                          T_Rec) =
                                                      List.getD (chainL head0 (fewT 30 (fewT 30 b))) j
                                                        (T.dflt
                                                          T_Rec)) →
                                            (decide (0 ≤ ofN x - 1) = true →
                                                within (ofN x - 1) (List.length (chainL head0 (fewT 30 (fewT 30 a)))) ∧
                                                  within (ofN x - 1) (List.length (chainL head0 (fewT 30 (fewT 30 b)))) ∧
                                                    ((!sameV
                                                              (List.getD (chainL head0 (fewT 30 (fewT 30 a))) (Int.toNat (ofN x - 1))
                                                                (T.dflt
                                                                  T_Rec))
                                                              (List.getD (chainL head0 (fewT 30 (fewT 30 b))) (Int.toNat (ofN x - 1))
                                                                (T.dflt
                                                                  T_Rec))) =
                                                          true →
                                                        within (ofN x - 1) (List.length (chainL head0 (fewT 30 (fewT 30 a)))) ∧
                                                          within (ofN x - 1) (List.length (chainL head0 (fewT 30 (fewT 30 b)))) ∧
                                                            twiceV
                                                                (List.getD (chainL head0 (fewT 30 (fewT 30 a))) (Int.toNat (ofN x - 1))
                                                                  (T.dflt
                                                                    T_Rec))
                                                                (List.getD (chainL head0 (fewT 30 (fewT 30 b))) (Int.toNat (ofN x - 1))
                                                                  (T.dflt
                                                                    T_Rec)) =
                                                              true) ∧
                                                      ((!sameV
                                                              (List.getD (chainL head0 (fewT 30 (fewT 30 a))) (Int.toNat (ofN x - 1))
                                                                (T.dflt
                                                                  T_Rec))
                                                              (List.getD (chainL head0 (fewT 30 (fewT 30 b))) (Int.toNat (ofN x - 1))
                                                                (T.dflt
                                                                  T_Rec))) =
                                                          false →
                                                        inI64 (ofN x - 1 - 1) ∧
                                                          ∃ (x' : Nat),
                                                            (ofN x' ≤
                                                                  (mkV (List.take 300 key) 0
                                                                          (walkV (ofN 0, ofN 0, List.replicate 32 0#8)
                                                                              (List.drop 0
                                                                                (List.take (Int.toNat (Int.tmod (ofN (BitVec.toNat seq)) (ofN (List.length (chainL head0 (fewT 30 (fewT 30 a)))) + 1)))
                                                                                  (chainL head0 (fewT 30 (fewT 30 a)))))
                                                                              0).1).1.2.1 ∧
                                                                ∀ (j : Nat),
                                                                  x' ≤ j →
                                                                    ofN j <
                                                                        (mkV (List.take 300 key) 0
                                                                                (walkV (ofN 0, ofN 0, List.replicate 32 0#8)
                                                                                    (List.drop 0
                                                                                      (List.take
                                                                                        (Int.toNat (Int.tmod (ofN (BitVec.toNat seq)) (ofN (List.length (chainL head0 (fewT 30 (fewT 30 a)))) + 1)))
                                                                                        (chainL head0 (fewT 30 (fewT 30 a)))))
                                                                                    0).1).1.2.1 →
                                                                      List.getD (chainL head0 (fewT 30 (fewT 30 a))) j
                                                                          (T.dflt
                                                                            T_Rec) =
                                                                        List.getD (chainL head0 (fewT 30 (fewT 30 b))) j
                                                                          (T.dflt
                                                                            T_Rec)) ∧
                                                              x' < x ∧ ofN x - 1 - 1 = ofN x' - 1)) ∧
                                              (decide (0 ≤ ofN x - 1) = false → true = true))))) ∧
          (made = false →
            List.length (List.take 300 key) ≤ 1000000 ∧
              (((auditV (List.take 300 key) (fewT 30 a) [m]).1 != 6) = false → List.length (List.take 300 key) ≤ 1000000) ∧
                (((auditV (List.take 300 key) (fewT 30 a) [m]).1 != 6 || (auditV (List.take 300 key) (fewT 30 b) [m]).1 != 6) = true → true = true) ∧
                  (((auditV (List.take 300 key) (fewT 30 a) [m]).1 != 6 || (auditV (List.take 300 key) (fewT 30 b) [m]).1 != 6) = false →
                    ((decide (ofN (List.length (fewT 30 a)) < m.2.1) || decide (ofN (List.length (fewT 30 b)) < m.2.1)) = true → false = true) ∧
                      ((decide (ofN (List.length (fewT 30 a)) < m.2.1) || decide (ofN (List.length (fewT 30 b)) < m.2.1)) = false →
                        inI64 (m.2.1 - 1) ∧
                          (∃ (x : Nat),
                              (ofN x ≤ m.2.1 ∧
                                  ∀ (j : Nat),
                                    x ≤ j →
                                      ofN j < m.2.1 →
                                        List.getD (fewT 30 a) j
                                            (T.dflt T_Rec) =
                                          List.getD (fewT 30 b) j
                                            (T.dflt T_Rec)) ∧
                                m.2.1 - 1 = ofN x - 1) ∧
                            ∀ (x : Nat),
                              (ofN x ≤ m.2.1 ∧
                                  ∀ (j : Nat),
                                    x ≤ j →
                                      ofN j < m.2.1 →
                                        List.getD (fewT 30 a) j
                                            (T.dflt T_Rec) =
                                          List.getD (fewT 30 b) j
                                            (T.dflt T_Rec)) →
                                (decide (0 ≤ ofN x - 1) = true →
                                    within (ofN x - 1) (List.length (fewT 30 a)) ∧
                                      within (ofN x - 1) (List.length (fewT 30 b)) ∧
                                        ((!sameV
                                                  (List.getD (fewT 30 a) (Int.toNat (ofN x - 1))
                                                    (T.dflt T_Rec))
                                                  (List.getD (fewT 30 b) (Int.toNat (ofN x - 1))
                                                    (T.dflt T_Rec))) =
                                              true →
                                            within (ofN x - 1) (List.length (fewT 30 a)) ∧
                                              within (ofN x - 1) (List.length (fewT 30 b)) ∧
                                                twiceV
                                                    (List.getD (fewT 30 a) (Int.toNat (ofN x - 1))
                                                      (T.dflt T_Rec))
                                                    (List.getD (fewT 30 b) (Int.toNat (ofN x - 1))
                                                      (T.dflt T_Rec)) =
                                                  true) ∧
                                          ((!sameV
                                                  (List.getD (fewT 30 a) (Int.toNat (ofN x - 1))
                                                    (T.dflt T_Rec))
                                                  (List.getD (fewT 30 b) (Int.toNat (ofN x - 1))
                                                    (T.dflt T_Rec))) =
                                              false →
                                            inI64 (ofN x - 1 - 1) ∧
                                              ∃ (x' : Nat),
                                                (ofN x' ≤ m.2.1 ∧
                                                    ∀ (j : Nat),
                                                      x' ≤ j →
                                                        ofN j < m.2.1 →
                                                          List.getD (fewT 30 a) j
                                                              (T.dflt
                                                                T_Rec) =
                                                            List.getD (fewT 30 b) j
                                                              (T.dflt
                                                                T_Rec)) ∧
                                                  x' < x ∧ ofN x - 1 - 1 = ofN x' - 1)) ∧
                                  (decide (0 ≤ ofN x - 1) = false → true = true))))) := by
  have fa2 := few_fine (few_fine fa 30) 30
  have fb2 := few_fine (few_fine fb 30) 30
  have fA := chain_fine _ head0 rfl fa2
  have fB := chain_fine _ head0 rfl fb2
  have lA : (chainL head0 (fewT 30 (fewT 30 a))).length ≤ 30 := Nat.le_trans (chain_len _ _) (few_len _ _)
  have wA := walk_chain (fewT 30 (fewT 30 a)) head0 0
  have hk : (List.take 300 key).length ≤ 1000000 := by rw [List.length_take]; omega
  generalize List.take 300 key = K at hk ⊢
  have ha1 := few_fine fa 30
  have hb1 := few_fine fb 30
  have la1 := few_len 30 a
  refine ⟨fun h => Bool.noConfusion h, fun _ => ⟨fun _ => ?_, fun _ => ?_⟩⟩
  · generalize chainL head0 (fewT 30 (fewT 30 a)) = A at *
    generalize chainL head0 (fewT 30 (fewT 30 b)) = B at *
    have hn : (0 : Int) ≤ Int.tmod (ofN (BitVec.toNat seq)) (ofN A.length + 1) ∧ Int.tmod (ofN (BitVec.toNat seq)) (ofN A.length + 1) ≤ ofN A.length := by
      have a1 := Int.tmod_nonneg (a := ofN (BitVec.toNat seq)) (ofN A.length + 1) (Int.natCast_nonneg _)
      have a2 := Int.tmod_lt_of_pos (ofN (BitVec.toNat seq)) (b := ofN A.length + 1) (by unfold ofN; omega)
      exact ⟨a1, by omega⟩
    have e0 : ((ofN 0, ofN 0, List.replicate 32 0#8) : HeadT) = head0 := rfl
    rw [e0]
    have hh := isHead_walk (List.drop 0 (List.take (Int.toNat (Int.tmod (ofN (BitVec.toNat seq)) (ofN A.length + 1))) A)) head0 0 isHead0
    have hmk := mk_ok (key := K) (site := 0) (.inl rfl) hh
    generalize mkV K 0 _ = M at hmk ⊢
    refine ⟨by unfold inI64 ofN; omega, by unfold ofN; omega, hn, hk, fun g => by rw [hmk] at g; exact absurd g (by decide), fun _ => ⟨hk, fun _ => hk, fun _ => rfl, fun g => ?_⟩⟩
    exact prefix_loop lA fA fB g
  · generalize fewT 30 a = A at *
    generalize fewT 30 b = B at *
    refine ⟨hk, fun _ => hk, fun _ => rfl, fun g => ?_⟩
    exact prefix_loop la1 ha1 hb1 g

def an_Forks (A B : List Rec) : Nat → SState → Option LoopAnn
  | 9, S => some { X := Nat × Bool, slots := fun y => [(21, .sv (.dv (.bool y.2))), (22, .sv (.dv (.i64 y.1)))], objs := fun _ => [], inv := fun y => (y.1 : Int) ≤ x_int S 13 ∧ (y.1 : Int) ≤ x_int S 14 ∧ (y.2 = true ↔ A.take y.1 = B.take y.1), meas := fun y => (x_int S 13).toNat - y.1 }
  | 19, _ => some { X := Nat, slots := fun j => [(112, .sv (.dv (.i64 j)))], objs := fun _ => [], inv := fun j => j ≤ 3, meas := fun j => 3 - j }
  | _, _ => none

theorem law16_CheckForks_vc (key : Bytes) (a b l : List Rec) (i k : B8) (fa : ∀ r ∈ a, fine r) (fb : ∀ r ∈ b, fine r) (fl : ∀ r ∈ l, fine r) :
    (false = true → false = true) ∧
      (false = false →
        inI64 (ofN (List.length (chainL head0 (fewT 30 a))) + 1) ∧
          ofN (List.length (chainL head0 (fewT 30 a))) + 1 ≠ 0 ∧
            inI64 (ofN (List.length (chainL head0 (fewT 30 b))) + 1) ∧
              ofN (List.length (chainL head0 (fewT 30 b))) + 1 ≠ 0 ∧
                (0 ≤ Int.tmod (ofN (BitVec.toNat i)) (ofN (List.length (chainL head0 (fewT 30 a))) + 1) ∧
                    Int.tmod (ofN (BitVec.toNat i)) (ofN (List.length (chainL head0 (fewT 30 a))) + 1) ≤ ofN (List.length (chainL head0 (fewT 30 a)))) ∧
                  (0 ≤ Int.tmod (ofN (BitVec.toNat k)) (ofN (List.length (chainL head0 (fewT 30 b))) + 1) ∧
                      Int.tmod (ofN (BitVec.toNat k)) (ofN (List.length (chainL head0 (fewT 30 b))) + 1) ≤ ofN (List.length (chainL head0 (fewT 30 b)))) ∧
                    (∃ (x : Nat × Bool),
                        (ofN x.1 ≤ Int.tmod (ofN (BitVec.toNat i)) (ofN (List.length (chainL head0 (fewT 30 a))) + 1) ∧
                            ofN x.1 ≤ Int.tmod (ofN (BitVec.toNat k)) (ofN (List.length (chainL head0 (fewT 30 b))) + 1) ∧
                              (x.2 = true ↔ List.take x.1 (chainL head0 (fewT 30 a)) = List.take x.1 (chainL head0 (fewT 30 b)))) ∧
                          true = x.2 ∧ 0 = ofN x.1) ∧
                      ∀ (x : Nat × Bool),
                        ofN x.1 ≤ Int.tmod (ofN (BitVec.toNat i)) (ofN (List.length (chainL head0 (fewT 30 a))) + 1) ∧
                            ofN x.1 ≤ Int.tmod (ofN (BitVec.toNat k)) (ofN (List.length (chainL head0 (fewT 30 b))) + 1) ∧
                              (x.2 = true ↔ List.take x.1 (chainL head0 (fewT 30 a)) = List.take x.1 (chainL head0 (fewT 30 b))) →
                          (decide
                                  (ofN x.1 <
                                    min (Int.tmod (ofN (BitVec.toNat i)) (ofN (List.length (chainL head0 (fewT 30 a))) + 1))
                                      (Int.tmod (ofN (BitVec.toNat k)) (ofN (List.length (chainL head0 (fewT 30 b))) + 1))) =
                                true →
                              (x.2 = true → within (ofN x.1) (List.length (chainL head0 (fewT 30 a)))) ∧
                                (x.2 = true → within (ofN x.1) (List.length (chainL head0 (fewT 30 b)))) ∧
                                  inI64 (ofN x.1 + 1) ∧
                                    ∃ (x' : Nat × Bool),
                                      (ofN x'.1 ≤ Int.tmod (ofN (BitVec.toNat i)) (ofN (List.length (chainL head0 (fewT 30 a))) + 1) ∧
                                          ofN x'.1 ≤ Int.tmod (ofN (BitVec.toNat k)) (ofN (List.length (chainL head0 (fewT 30 b))) + 1) ∧
                                            (x'.2 = true ↔ List.take x'.1 (chainL head0 (fewT 30 a)) = List.take x'.1 (chainL head0 (fewT 30 b)))) ∧
                                        Int.toNat (Int.tmod (ofN (BitVec.toNat i)) (ofN (List.length (chainL head0 (fewT 30 a))) + 1)) - x'.1 <
                                            Int.toNat (Int.tmod (ofN (BitVec.toNat i)) (ofN (List.length (chainL head0 (fewT 30 a))) + 1)) - x.1 ∧
                                          (x.2 &&
                                                sameV
                                                  (List.getD (chainL head0 (fewT 30 a)) (Int.toNat (ofN x.1))
                                                    (T.dflt T_Rec))
                                                  (List.getD (chainL head0 (fewT 30 b)) (Int.toNat (ofN x.1))
                                                    (T.dflt T_Rec))) =
                                              x'.2 ∧
                                            ofN x.1 + 1 = ofN x'.1) ∧
                            (decide
                                  (ofN x.1 <
                                    min (Int.tmod (ofN (BitVec.toNat i)) (ofN (List.length (chainL head0 (fewT 30 a))) + 1))
                                      (Int.tmod (ofN (BitVec.toNat k)) (ofN (List.length (chainL head0 (fewT 30 b))) + 1))) =
                                false →
                              List.length (List.take 300 key) ≤ 1000000 ∧
                                List.length (List.take 300 key) ≤ 1000000 ∧
                                  (((mkV (List.take 300 key) 0
                                                (walkV (ofN 0, ofN 0, List.replicate 32 0#8)
                                                    (List.drop 0 (List.take (Int.toNat (Int.tmod (ofN (BitVec.toNat i)) (ofN (List.length (chainL head0 (fewT 30 a))) + 1))) (chainL head0 (fewT 30 a))))
                                                    0).1).2 !=
                                            0 ||
                                          (mkV (List.take 300 key) 1
                                                (walkV (ofN 0, ofN 0, List.replicate 32 0#8)
                                                    (List.drop 0 (List.take (Int.toNat (Int.tmod (ofN (BitVec.toNat k)) (ofN (List.length (chainL head0 (fewT 30 b))) + 1))) (chainL head0 (fewT 30 b))))
                                                    0).1).2 !=
                                            0) =
                                        true →
                                      false = true) ∧
                                    (((mkV (List.take 300 key) 0
                                                (walkV (ofN 0, ofN 0, List.replicate 32 0#8)
                                                    (List.drop 0 (List.take (Int.toNat (Int.tmod (ofN (BitVec.toNat i)) (ofN (List.length (chainL head0 (fewT 30 a))) + 1))) (chainL head0 (fewT 30 a))))
                                                    0).1).2 !=
                                            0 ||
                                          (mkV (List.take 300 key) 1
                                                (walkV (ofN 0, ofN 0, List.replicate 32 0#8)
                                                    (List.drop 0 (List.take (Int.toNat (Int.tmod (ofN (BitVec.toNat k)) (ofN (List.length (chainL head0 (fewT 30 b))) + 1))) (chainL head0 (fewT 30 b))))
                                                    0).1).2 !=
                                            0) =
                                        false →
                                      (x.2 = true → true = true) ∧
                                        (x.2 = false →
                                          (∃ (x : Nat), x ≤ 3 ∧ 0 = ofN x) ∧
                                            ∀ (x : Nat),
                                              x ≤ 3 →
                                                (decide (ofN x < ofN (List.length [fewT 30 l, chainL head0 (fewT 30 a), chainL head0 (fewT 30 b)])) = true →
                                                    within (ofN x) (List.length [fewT 30 l, chainL head0 (fewT 30 a), chainL head0 (fewT 30 b)]) ∧
                                                      List.length (List.take 300 key) ≤ 1000000 ∧
                                                        (((auditV (List.take 300 key)
                                                                    (List.getD [fewT 30 l, chainL head0 (fewT 30 a), chainL head0 (fewT 30 b)] (Int.toNat (ofN x))
                                                                      (T.dflt
                                                                        (T.slc
                                                                          T_Rec)))
                                                                    [(mkV (List.take 300 key) 0
                                                                          (walkV (ofN 0, ofN 0, List.replicate 32 0#8)
                                                                              (List.drop 0
                                                                                (List.take (Int.toNat (Int.tmod (ofN (BitVec.toNat i)) (ofN (List.length (chainL head0 (fewT 30 a))) + 1)))
                                                                                  (chainL head0 (fewT 30 a))))
                                                                              0).1).1,
                                                                      (mkV (List.take 300 key) 1
                                                                          (walkV (ofN 0, ofN 0, List.replicate 32 0#8)
                                                                              (List.drop 0
                                                                                (List.take (Int.toNat (Int.tmod (ofN (BitVec.toNat k)) (ofN (List.length (chainL head0 (fewT 30 b))) + 1)))
                                                                                  (chainL head0 (fewT 30 b))))
                                                                              0).1).1]).1 ==
                                                                6) =
                                                              true →
                                                            0 ≤ Int.tmod (ofN (BitVec.toNat i)) (ofN (List.length (chainL head0 (fewT 30 a))) + 1) ∧
                                                              Int.tmod (ofN (BitVec.toNat i)) (ofN (List.length (chainL head0 (fewT 30 a))) + 1) ≤ ofN (List.length (chainL head0 (fewT 30 a)))) ∧
                                                          (((auditV (List.take 300 key)
                                                                        (List.getD [fewT 30 l, chainL head0 (fewT 30 a), chainL head0 (fewT 30 b)] (Int.toNat (ofN x))
                                                                          (T.dflt
                                                                            (T.slc
                                                                              T_Rec)))
                                                                        [(mkV (List.take 300 key) 0
                                                                              (walkV (ofN 0, ofN 0, List.replicate 32 0#8)
                                                                                  (List.drop 0
                                                                                    (List.take (Int.toNat (Int.tmod (ofN (BitVec.toNat i)) (ofN (List.length (chainL head0 (fewT 30 a))) + 1)))
                                                                                      (chainL head0 (fewT 30 a))))
                                                                                  0).1).1,
                                                                          (mkV (List.take 300 key) 1
                                                                              (walkV (ofN 0, ofN 0, List.replicate 32 0#8)
                                                                                  (List.drop 0
                                                                                    (List.take (Int.toNat (Int.tmod (ofN (BitVec.toNat k)) (ofN (List.length (chainL head0 (fewT 30 b))) + 1)))
                                                                                      (chainL head0 (fewT 30 b))))
                                                                                  0).1).1]).1 ==
                                                                    6 &&
                                                                  !collV
                                                                      (List.getD [fewT 30 l, chainL head0 (fewT 30 a), chainL head0 (fewT 30 b)] (Int.toNat (ofN x))
                                                                        (T.dflt
                                                                          (T.slc
                                                                            T_Rec)))
                                                                      (List.drop 0
                                                                        (List.take (Int.toNat (Int.tmod (ofN (BitVec.toNat i)) (ofN (List.length (chainL head0 (fewT 30 a))) + 1)))
                                                                          (chainL head0 (fewT 30 a))))) =
                                                                true →
                                                              0 ≤ Int.tmod (ofN (BitVec.toNat k)) (ofN (List.length (chainL head0 (fewT 30 b))) + 1) ∧
                                                                Int.tmod (ofN (BitVec.toNat k)) (ofN (List.length (chainL head0 (fewT 30 b))) + 1) ≤ ofN (List.length (chainL head0 (fewT 30 b)))) ∧
                                                            (((auditV (List.take 300 key)
                                                                            (List.getD [fewT 30 l, chainL head0 (fewT 30 a), chainL head0 (fewT 30 b)] (Int.toNat (ofN x))
                                                                              (T.dflt
                                                                                (T.slc
                                                                                  T_Rec)))
                                                                            [(mkV (List.take 300 key) 0
                                                                                  (walkV (ofN 0, ofN 0, List.replicate 32 0#8)
                                                                                      (List.drop 0
                                                                                        (List.take (Int.toNat (Int.tmod (ofN (BitVec.toNat i)) (ofN (List.length (chainL head0 (fewT 30 a))) + 1)))
                                                                                          (chainL head0 (fewT 30 a))))
                                                                                      0).1).1,
                                                                              (mkV (List.take 300 key) 1
                                                                                  (walkV (ofN 0, ofN 0, List.replicate 32 0#8)
                                                                                      (List.drop 0
                                                                                        (List.take (Int.toNat (Int.tmod (ofN (BitVec.toNat k)) (ofN (List.length (chainL head0 (fewT 30 b))) + 1)))
                                                                                          (chainL head0 (fewT 30 b))))
                                                                                      0).1).1]).1 ==
                                                                        6 &&
                                                                      !collV
                                                                          (List.getD [fewT 30 l, chainL head0 (fewT 30 a), chainL head0 (fewT 30 b)] (Int.toNat (ofN x))
                                                                            (T.dflt
                                                                              (T.slc
                                                                                T_Rec)))
                                                                          (List.drop 0
                                                                            (List.take (Int.toNat (Int.tmod (ofN (BitVec.toNat i)) (ofN (List.length (chainL head0 (fewT 30 a))) + 1)))
                                                                              (chainL head0 (fewT 30 a)))) &&
                                                                    !collV
                                                                        (List.getD [fewT 30 l, chainL head0 (fewT 30 a), chainL head0 (fewT 30 b)] (Int.toNat (ofN x))
                                                                          (T.dflt
                                                                            (T.slc
                                                                              T_Rec)))
                                                                        (List.drop 0
                                                                          (List.take (Int.toNat (Int.tmod (ofN (BitVec.toNat k)) (ofN (List.length (chainL head0 (fewT 30 b))) + 1)))
                                                                            (chainL head0 (fewT 30 b))))) =
                                                                  true →
                                                                false = true) ∧
                                                              (((auditV (List.take 300 key)
                                                                            (List.getD [fewT 30 l, chainL head0 (fewT 30 a), chainL head0 (fewT 30 b)] (Int.toNat (ofN x))
                                                                              (T.dflt
                                                                                (T.slc
                                                                                  T_Rec)))
                                                                            [(mkV (List.take 300 key) 0
                                                                                  (walkV (ofN 0, ofN 0, List.replicate 32 0#8)
                                                                                      (List.drop 0
                                                                                        (List.take (Int.toNat (Int.tmod (ofN (BitVec.toNat i)) (ofN (List.length (chainL head0 (fewT 30 a))) + 1)))
                                                                                          (chainL head0 (fewT 30 a))))
                                                                                      0).1).1,
                                                                              (mkV (List.take 300 key) 1
                                                                                  (walkV (ofN 0, ofN 0, List.replicate 32 0#8)
                                                                                      (List.drop 0
                                                                                        (List.take (Int.toNat (Int.tmod (ofN (BitVec.toNat k)) (ofN (List.length (chainL head0 (fewT 30 b))) + 1)))
                                                                                          (chainL head0 (fewT 30 b))))
                                                                                      0).1).1]).1 ==
                                                                        6 &&
                                                                      !collV
                                                                          (List.getD [fewT 30 l, chainL head0 (fewT 30 a), chainL head0 (fewT 30 b)] (Int.toNat (ofN x))
                                                                            (T.dflt
                                                                              (T.slc
                                                                                T_Rec)))
                                                                          (List.drop 0
                                                                            (List.take (Int.toNat (Int.tmod (ofN (BitVec.toNat i)) (ofN (List.length (chainL head0 (fewT 30 a))) + 1)))
                                                                              (chainL head0 (fewT 30 a)))) &&
                                                                    !collV
                                                                        (List.getD [fewT 30 l, chainL head0 (fewT 30 a), chainL head0 (fewT 30 b)] (Int.toNat (ofN x))
                                                                          (T.dflt
                                                                            (T.slc
                                                                              T_Rec)))
                                                                        (List.drop 0
                                                                          (List.take (Int.toNat (Int.tmod (ofN (BitVec.toNat k)) (ofN (List.length (chainL head0 (fewT 30 b))) + 1)))
                                                                            (chainL head0 (fewT 30 b))))) =
                                                                  false →
                                                                inI64 (ofN x + 1) ∧ ∃ (x' : Nat), x' ≤ 3 ∧ 3 - x' < 3 - x ∧ ofN x + 1 = ofN x')) ∧
                                                  (decide (ofN x < ofN (List.length [fewT 30 l, chainL head0 (fewT 30 a), chainL head0 (fewT 30 b)])) = false → true = true))))) := by
  have fA := chain_fine _ head0 rfl (few_fine fa 30)
  have fB := chain_fine _ head0 rfl (few_fine fb 30)
  have fl1 := few_fine fl 30
  have lA : (chainL head0 (fewT 30 a)).length ≤ 30 := Nat.le_trans (chain_len _ _) (few_len _ _)
  have lB : (chainL head0 (fewT 30 b)).length ≤ 30 := Nat.le_trans (chain_len _ _) (few_len _ _)
  have wA := walk_chain (fewT 30 a) head0 0
  have wB := walk_chain (fewT 30 b) head0 0
  have hk : (List.take 300 key).length ≤ 1000000 := by rw [List.length_take]; omega
  have e0 : ((ofN 0, ofN 0, List.replicate 32 0#8) : HeadT) = head0 := rfl
  rw [e0]
  generalize List.take 300 key = K at hk ⊢
  generalize chainL head0 (fewT 30 a) = A at *
  generalize chainL head0 (fewT 30 b) = B at *
  generalize fewT 30 l = L at *
  have hp : (0 : Int) ≤ Int.tmod (ofN (BitVec.toNat i)) (ofN A.length + 1) ∧ Int.tmod (ofN (BitVec.toNat i)) (ofN A.length + 1) ≤ ofN A.length := by
    have a1 := Int.tmod_nonneg (a := ofN (BitVec.toNat i)) (ofN A.length + 1) (Int.natCast_nonneg _)
    have a2 := Int.tmod_lt_of_pos (ofN (BitVec.toNat i)) (b := ofN A.length + 1) (by unfold ofN; omega)
    exact ⟨a1, by omega⟩
  have hq : (0 : Int) ≤ Int.tmod (ofN (BitVec.toNat k)) (ofN B.length + 1) ∧ Int.tmod (ofN (BitVec.toNat k)) (ofN B.length + 1) ≤ ofN B.length := by
    have a1 := Int.tmod_nonneg (a := ofN (BitVec.toNat k)) (ofN B.length + 1) (Int.natCast_nonneg _)
    have a2 := Int.tmod_lt_of_pos (ofN (BitVec.toNat k)) (b := ofN B.length + 1) (by unfold ofN; omega)
    exact ⟨a1, by omega⟩
  generalize Int.tmod (ofN (BitVec.toNat i)) (ofN A.length + 1) = p at hp ⊢
  generalize Int.tmod (ofN (BitVec.toNat k)) (ofN B.length + 1) = q at hq ⊢
  obtain ⟨p, rfl⟩ : ∃ n : Nat, p = (n : Int) := ⟨p.toNat, (Int.toNat_of_nonneg hp.1).symm⟩
  obtain ⟨q, rfl⟩ : ∃ n : Nat, q = (n : Int) := ⟨q.toNat, (Int.toNat_of_nonneg hq.1).symm⟩
  have hp1 : p ≤ A.length := Int.ofNat_le.1 hp.2
  have hq1 : q ≤ B.length := Int.ofNat_le.1 hq.2
  rw [Int.toNat_natCast, Int.toNat_natCast, List.drop_zero, List.drop_zero]
  have m1 := mk_ok (key := K) (site := 0) (.inl rfl) (isHead_walk (List.take p A) head0 0 isHead0)
  have m2 := mk_ok (key := K) (site := 1) (.inr rfl) (isHead_walk (List.take q B) head0 0 isHead0)
  refine ⟨fun h => Bool.noConfusion h, fun _ => ⟨by unfold inI64 ofN; omega, by unfold ofN; omega, by unfold inI64 ofN; omega, by unfold ofN; omega, hp, hq,
    ⟨(0, true), ⟨hp.1, hq.1, ⟨fun _ => rfl, fun _ => rfl⟩⟩, rfl, rfl⟩, fun x ⟨h1, h2, h3⟩ => ⟨fun hc => ?_, fun hc => ⟨hk, hk, fun g => ?_, fun _ => ⟨fun _ => rfl, fun hx => ⟨⟨0, by omega, rfl⟩, fun y hy => ⟨fun hd => ?_, fun _ => rfl⟩⟩⟩⟩⟩⟩⟩
  · have hc := of_decide_eq_true hc
    unfold ofN at h1 h2 hc
    have c1 : x.1 < p := by omega
    have c2 : x.1 < q := by omega
    rw [show Int.toNat (ofN x.1) = x.1 from rfl]
    refine ⟨fun _ => by unfold within ofN; omega, fun _ => by unfold within ofN; omega, by unfold inI64 ofN; omega, (x.1 + 1, _), ⟨?_, ?_, ?_⟩, ?_, rfl, ?_⟩
    · show ofN (x.1 + 1) ≤ (p : Int)
      unfold ofN; omega
    · show ofN (x.1 + 1) ≤ (q : Int)
      unfold ofN; omega
    · show (x.2 && sameV (List.getD A x.1 (T.dflt T_Rec)) (List.getD B x.1 (T.dflt T_Rec))) = true ↔ A.take (x.1 + 1) = B.take (x.1 + 1)
      rw [take_snoc' (l := A) (i := x.1) (d := T_Rec.dflt) (by omega), take_snoc' (l := B) (i := x.1) (d := T_Rec.dflt) (by omega), Bool.and_eq_true, h3, sameV_iff]
      constructor
      · rintro ⟨e1, e2⟩
        have e2 : List.getD A x.1 T_Rec.dflt = List.getD B x.1 T_Rec.dflt := e2
        rw [e1, e2]
      · intro e
        have := List.append_inj e (by rw [List.length_take, List.length_take]; omega)
        exact ⟨this.1, by simpa using this.2⟩
    · show p - (x.1 + 1) < p - x.1
      omega
    · show ofN x.1 + 1 = ofN (x.1 + 1)
      unfold ofN; omega
  · rw [m1, m2] at g
    exact absurd g (by decide)
  · have hc := of_decide_eq_false hc
    unfold ofN at h1 h2 hc
    have hne : ¬ A.take x.1 = B.take x.1 := fun e => by
      have := h3.2 e
      rw [hx] at this; cases this
    have hd := of_decide_eq_true hd
    have hd : y < 3 := by
      have hd : (y : Int) < ((3 : Nat) : Int) := hd
      omega
    have fc : ∀ r ∈ List.getD [L, A, B] y (T.dflt (T.slc T_Rec)), fine r := by
      match y, hd with
      | 0, _ => exact fl1
      | 1, _ => exact fA
      | 2, _ => exact fB
    rw [show Int.toNat (ofN y) = y from rfl]
    generalize List.getD [L, A, B] y (T.dflt (T.slc T_Rec)) = c at fc ⊢
    refine ⟨by unfold within; show (0 : Int) ≤ ofN y ∧ ofN y < ((3 : Nat) : Int); unfold ofN; omega, hk, fun _ => hp, fun _ => hq, fun g => ?_, fun _ => ⟨by unfold inI64 ofN; omega, y + 1, by omega, by omega, by unfold ofN; omega⟩⟩
    simp only [Bool.and_eq_true, beq_iff_eq, Bool.not_eq_true'] at g
    exact absurd (forks_key hp1 hq1 fA fB fc wA wB m1 m2 g.1.1 g.1.2 g.2 (by omega) (by omega)) hne

end Go.Sal
