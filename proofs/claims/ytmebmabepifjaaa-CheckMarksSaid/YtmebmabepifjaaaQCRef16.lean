/- Contracts of ref16: marks, audits. -/
import Derived.Test.YtmebmabepifjaaaQCEnd16
import Derived.Test.YtmebmabepifjaaaQCMac4
import Derived.Test.YtmebmabepifjaaaQSalChk4
set_option maxRecDepth 100000
namespace Go.Sal
open Go.Vse Go.Sal.Nm

def c_IsHead : PC := D [T_Head] [.bool] (fun _ => none) (fun x => (isHeadV x.1, ()))

theorem ref16_IsHead_vc (h : HeadT) :
    (h.1 == ofN 0 && (h.2.1 == ofN 0 && eqL T.u8 h.2.2 (List.replicate 32 0#8)) || decide (1 ≤ h.1) && decide (h.1 ≤ 1073741824) && decide (1 ≤ h.2.1) && decide (h.2.1 ≤ 1073741824)) = isHeadV h := by
  have e0 : ofN 0 = (0 : Int) := rfl
  rw [e0, eqL_u8, Bool.eq_iff_iff]
  unfold isHeadV head0 zero32
  simp only [Bool.and_eq_true, Bool.or_eq_true, beq_iff_eq, decide_eq_true_eq, Prod.ext_iff, and_assoc]

theorem mcheck_eq (m : Mark) : (mcheckV m == 0) = mayV m := by
  unfold mcheckV
  cases h : mayV m with
  | true => rfl
  | false => rfl
theorem mcheck_ne (m : Mark) : (mcheckV m != 0) = !mayV m := by
  unfold mcheckV
  cases h : mayV m with
  | true => rfl
  | false => rfl
theorem better_eq (a b : Mark) : (decide (b.2.1 < a.2.1) || (a.2.1 == b.2.1 && decide (b.2.2.1 < a.2.2.1))) = betterV a b := by
  rw [kind_eq]; rfl
theorem fail4_eq (l : List Rec) (m : Mark) : (decide (m.2.1 ≤ ofN l.length) && !hasV l (headM m)) = failV l 4 m := by
  unfold failV
  have e : decide (m.2.1 ≤ ofN l.length) = !decide ((l.length : Int) < m.2.1) := by
    rw [Bool.eq_iff_iff]
    simp only [decide_eq_true_eq, Bool.not_eq_true', decide_eq_false_iff_not]
    have aux : ∀ x y : Int, x ≤ y ↔ ¬ y < x := by intro x y; omega
    exact aux _ _
  have e4 : decide ((4 : Int) = 4) = true := by decide
  have e5 : decide ((4 : Int) = 5) = false := by decide
  rw [e, e4, e5, Bool.true_and, Bool.false_and, Bool.or_false]
theorem fail5_eq (l : List Rec) (m : Mark) : decide (ofN l.length < m.2.1) = failV l 5 m := by
  unfold failV
  have e4 : decide ((5 : Int) = 4) = false := by decide
  have e5 : decide ((5 : Int) = 5) = true := by decide
  rw [e4, e5, Bool.false_and, Bool.false_and, Bool.false_or, Bool.true_and]

theorem ref16_Check_vc (m : Mark) :
    ((decide (m.1 < 0) || decide (1 < m.1) || !isHeadV (m.2.1, m.2.2.1, m.2.2.2.1)) = true → 160 = mcheckV m) ∧
      ((decide (m.1 < 0) || decide (1 < m.1) || !isHeadV (m.2.1, m.2.2.1, m.2.2.2.1)) = false → 0 = mcheckV m) := by
  have e : (decide (m.1 < 0) || decide (1 < m.1) || !isHeadV (m.2.1, m.2.2.1, m.2.2.2.1)) = !mayV m := by
    have h1 : (decide (m.1 < 0) || decide (1 < m.1)) = !(decide (m.1 = 0) || decide (m.1 = 1)) := by
      rw [Bool.eq_iff_iff]
      simp only [Bool.or_eq_true, decide_eq_true_eq, Bool.not_eq_true', Bool.or_eq_false_iff, decide_eq_false_iff_not]
      have aux : ∀ x : Int, (x < 0 ∨ 1 < x) ↔ (¬ x = 0 ∧ ¬ x = 1) := by intro x; omega
      exact aux _
    rw [h1, ← Bool.not_and]; rfl
  rw [e]
  unfold mcheckV
  refine ⟨fun g => ?_, fun g => ?_⟩
  · have g : mayV m = false := by simpa using g
    rw [if_neg (by rw [g]; decide)]
  · have g : mayV m = true := by simpa using g
    rw [if_pos g]

theorem ref16_body_vc (m : Mark) (h : mayV m = true) (hd : m.2.2.2.1.length = 32) :
    List.length [77#8, BitVec.ofInt 8 m.1] + List.length (varintN (BitVec.toNat (BitVec.ofInt 64 m.2.1))) ≤ ROOM ∧
      List.length ([77#8, BitVec.ofInt 8 m.1] ++ varintN (BitVec.toNat (BitVec.ofInt 64 m.2.1))) + List.length (varintN (BitVec.toNat (BitVec.ofInt 64 m.2.2.1))) ≤ ROOM ∧
        List.length ([77#8, BitVec.ofInt 8 m.1] ++ varintN (BitVec.toNat (BitVec.ofInt 64 m.2.1)) ++ varintN (BitVec.toNat (BitVec.ofInt 64 m.2.2.1))) +
              List.length (List.take 32 (List.drop 0 m.2.2.2.1)) ≤
            ROOM ∧
          [77#8, BitVec.ofInt 8 m.1] ++ varintN (BitVec.toNat (BitVec.ofInt 64 m.2.1)) ++ varintN (BitVec.toNat (BitVec.ofInt 64 m.2.2.1)) ++ List.take 32 (List.drop 0 m.2.2.2.1) = mbodyV m := by
  obtain ⟨_, h1, h2, h3, h4⟩ := may_bounds h
  have aux : ∀ x : Int, x ≤ 1073741824 → x < 18446744073709551616 := by intro x; omega
  have aux2 : ∀ x : Int, x ≤ 1073741824 → x.toNat < 18446744073709551616 := by intro x; omega
  have e1 : (BitVec.ofInt 64 m.2.1).toNat = m.2.1.toNat := toNat64 h1 (aux _ h2)
  have e2 : (BitVec.ofInt 64 m.2.2.1).toNat = m.2.2.1.toNat := toNat64 h3 (aux _ h4)
  have e3 : List.take 32 (List.drop 0 m.2.2.2.1) = m.2.2.2.1 := by rw [List.drop_zero, List.take_of_length_le (by omega)]
  have v1 := vlen m.2.1.toNat (aux2 _ h2)
  have v2 := vlen m.2.2.1.toNat (aux2 _ h4)
  rw [e1, e2, e3]
  refine ⟨?_, ?_, ?_, rfl⟩ <;> simp only [List.length_append, List.length_cons, List.length_nil] <;> unfold ROOM <;> omega

theorem ref16_seal_vc (key : Bytes) (m : Mark) (h : mayV m = true) (hk : key.length ≤ 1000000) (hd : m.2.2.2.1.length = 32) :
    (List.length key ≤ 1000000 ∧ List.length (List.map UInt8.toBitVec [109, 97, 114, 107]) ≤ 1000) ∧
      mayV m = true ∧
        (List.length (List.take 32 (List.drop 0 (deriveV key (List.map UInt8.toBitVec [109, 97, 114, 107]) (BitVec.ofInt 64 m.1)))) ≤ 1000000 ∧ List.length (mbodyV m) ≤ 1000000) ∧
          macV (List.take 32 (List.drop 0 (deriveV key (List.map UInt8.toBitVec [109, 97, 114, 107]) (BitVec.ofInt 64 m.1)))) (mbodyV m) = sealV key m := by
  have e1 : List.map UInt8.toBitVec [109, 97, 114, 107] = markKey := by decide
  have e2 : ∀ z : Bytes, z.length = 32 → List.take 32 (List.drop 0 z) = z := fun z hz => by rw [List.drop_zero, List.take_of_length_le (by omega)]
  have hd2 : (deriveV key markKey (BitVec.ofInt 64 m.1)).length = 32 := macV_len _ _
  have hb := mbody_len h hd
  rw [e1, e2 _ hd2]
  exact ⟨⟨hk, by decide⟩, h, ⟨by omega, by omega⟩, rfl⟩

theorem ref16_Make_vc (key : Bytes) (site : Int) (h : HeadT) (hk : key.length ≤ 1000000) :
    ((mcheckV (site, h.1, h.2.1, h.2.2, List.replicate 32 0#8) != 0) = true →
        (ofN 0 = (mkV key site h).1.1 ∧
            ofN 0 = (mkV key site h).1.2.1 ∧ ofN 0 = (mkV key site h).1.2.2.1 ∧ List.replicate 32 0#8 = (mkV key site h).1.2.2.2.1 ∧ List.replicate 32 0#8 = (mkV key site h).1.2.2.2.2) ∧
          160 = (mkV key site h).2) ∧
      ((mcheckV (site, h.1, h.2.1, h.2.2, List.replicate 32 0#8) != 0) = false →
        (mayV (site, h.1, h.2.1, h.2.2, List.replicate 32 0#8) = true ∧ List.length key ≤ 1000000) ∧
          (site = (mkV key site h).1.1 ∧
              h.1 = (mkV key site h).1.2.1 ∧
                h.2.1 = (mkV key site h).1.2.2.1 ∧ h.2.2 = (mkV key site h).1.2.2.2.1 ∧ sealV key (site, h.1, h.2.1, h.2.2, List.replicate 32 0#8) = (mkV key site h).1.2.2.2.2) ∧
            0 = (mkV key site h).2) := by
  refine ⟨fun g => ?_, fun g => ?_⟩
  · have g : (mcheckV (markOf site h) != 0) = true := g
    rw [mcheck_ne] at g
    have g : mayV (markOf site h) = false := by simpa using g
    have e : mkV key site h = (mark0, 160) := if_neg (by rw [g]; decide)
    rw [e]
    exact ⟨⟨rfl, rfl, rfl, rfl, rfl⟩, rfl⟩
  · have g : (mcheckV (markOf site h) != 0) = false := g
    rw [mcheck_ne] at g
    have g : mayV (markOf site h) = true := by simpa using g
    have e : mkV key site h = (withMac (markOf site h) (sealV key (markOf site h)), 0) := if_pos g
    rw [e]
    exact ⟨⟨g, hk⟩, ⟨rfl, rfl, rfl, rfl, rfl⟩, rfl⟩

theorem ref16_Sealed_vc (key : Bytes) (m : Mark) (hk : key.length ≤ 1000000) :
    ((mcheckV m == 0) = true → mayV m = true ∧ List.length key ≤ 1000000) ∧ (mcheckV m == 0 && eqL T.u8 m.2.2.2.2 (sealV key m)) = sealedV key m := by
  rw [mcheck_eq, eqL_u8]
  exact ⟨fun g => ⟨g, hk⟩, rfl⟩

theorem ref16_Bytes_vc (m : Mark) (hd : m.2.2.2.1.length = 32) (he : m.2.2.2.2.length = 32) :
    ((mcheckV m != 0) = true → nilOf (T.den T.u8) = (mbytesV m).1 ∧ 160 = (mbytesV m).2) ∧
      ((mcheckV m != 0) = false →
        mayV m = true ∧ List.length (mbodyV m) + List.length (List.take 32 (List.drop 0 m.2.2.2.2)) ≤ ROOM ∧ mbodyV m ++ List.take 32 (List.drop 0 m.2.2.2.2) = (mbytesV m).1 ∧ 0 = (mbytesV m).2) := by
  rw [mcheck_ne]
  unfold mbytesV
  refine ⟨fun g => ?_, fun g => ?_⟩
  · have g : mayV m = false := by simpa using g
    rw [if_neg (by rw [g]; decide)]; exact ⟨rfl, rfl⟩
  · have g : mayV m = true := by simpa using g
    have hb := mbody_len g hd
    have e : List.take 32 (List.drop 0 m.2.2.2.2) = m.2.2.2.2 := by rw [List.drop_zero, List.take_of_length_le (by omega)]
    rw [if_pos g, e]
    exact ⟨g, by unfold ROOM; omega, rfl, rfl⟩

theorem ref16_Has_vc (l : List Rec) (h : HeadT) :
    ((decide (h.1 < 0) || decide (ofN (List.length l) < h.1)) = true → false = hasV l h) ∧
      ((decide (h.1 < 0) || decide (ofN (List.length l) < h.1)) = false →
        (0 ≤ h.1 ∧ h.1 ≤ ofN (List.length l)) ∧
          ((walkV (ofN 0, ofN 0, List.replicate 32 0#8) (List.drop 0 (List.take (Int.toNat h.1) l)) 0).2.2 == 0 &&
              ((walkV (ofN 0, ofN 0, List.replicate 32 0#8) (List.drop 0 (List.take (Int.toNat h.1) l)) 0).1.1 == h.1 &&
                ((walkV (ofN 0, ofN 0, List.replicate 32 0#8) (List.drop 0 (List.take (Int.toNat h.1) l)) 0).1.2.1 == h.2.1 &&
                  eqL T.u8 (walkV (ofN 0, ofN 0, List.replicate 32 0#8) (List.drop 0 (List.take (Int.toNat h.1) l)) 0).1.2.2 h.2.2))) =
            hasV l h) := by
  have e0 : ((ofN 0, ofN 0, List.replicate 32 0#8) : HeadT) = head0 := rfl
  rw [e0, List.drop_zero, eqL_u8]
  unfold hasV
  refine ⟨fun g => ?_, fun g => ?_⟩
  · simp only [Bool.or_eq_true, decide_eq_true_eq, ofN] at g
    have aux : ∀ x y : Int, (x < 0 ∨ y < x) → ¬ (0 ≤ x ∧ x ≤ y) := by intro x y; omega
    rw [if_neg (aux _ _ g)]
  · simp only [Bool.or_eq_false_iff, decide_eq_false_iff_not, ofN] at g
    have aux : ∀ x y : Int, (¬ x < 0 ∧ ¬ y < x) → (0 ≤ x ∧ x ≤ y) := by intro x y; omega
    have g := aux _ _ g
    rw [if_pos g]
    refine ⟨g, ?_⟩
    rw [Bool.eq_iff_iff]
    simp only [Bool.and_eq_true, beq_iff_eq, decide_eq_true_eq, Prod.ext_iff]

def c_Newest : PC := D [.slc .u8, .slc T_Mark] [.i64, .bool] (fun x => some (x.1.length ≤ 1000000)) (fun x => (bestR (newV x.1 x.2.1 x.2.1.length), someV (newV x.1 x.2.1 x.2.1.length), ()))

def an_cNewest (key : Bytes) (l : List Mark) : Nat → SState → Option LoopAnn
  | 3, _ => some { X := Nat, slots := fun i => [(6, .sv (.dv (.i64 (bestV (newV key l i))))), (11, .sv (.dv (.i64 i)))], objs := fun _ => [], inv := fun i => i ≤ l.length, meas := fun i => l.length - i }
  | _, _ => none

theorem check_Newest_vc (key : Bytes) (l : List Mark) (hk : key.length ≤ 1000000) (hl : l.length ≤ LIM) :
    (∃ (x : Nat), x ≤ List.length l ∧ -1 = bestV (newV key l x) ∧ 0 = ofN x) ∧
      ∀ (x : Nat),
        x ≤ List.length l →
          (decide (ofN x < ofN (List.length l)) = true →
              within (ofN x) (List.length l) ∧
                List.length key ≤ 1000000 ∧
                  ((!sealedV key (List.getD l (Int.toNat (ofN x)) (T.dflt T_Mark))) = true →
                      inI64 (ofN x + 1) ∧ ∃ (x' : Nat), x' ≤ List.length l ∧ List.length l - x' < List.length l - x ∧ bestV (newV key l x) = bestV (newV key l x') ∧ ofN x + 1 = ofN x') ∧
                    ((!sealedV key (List.getD l (Int.toNat (ofN x)) (T.dflt T_Mark))) = false →
                      (decide (bestV (newV key l x) < 0) = false → within (bestV (newV key l x)) (List.length l)) ∧
                        ((decide (bestV (newV key l x) < 0) ||
                                decide
                                  ((List.getD l (Int.toNat (bestV (newV key l x))) (T.dflt T_Mark)).2.1 <
                                    (List.getD l (Int.toNat (ofN x)) (T.dflt T_Mark)).2.1)) =
                              false →
                            within (bestV (newV key l x)) (List.length l)) ∧
                          ((decide (bestV (newV key l x) < 0) ||
                                  decide
                                    ((List.getD l (Int.toNat (bestV (newV key l x))) (T.dflt T_Mark)).2.1 <
                                      (List.getD l (Int.toNat (ofN x)) (T.dflt T_Mark)).2.1)) =
                                false →
                              ((List.getD l (Int.toNat (ofN x)) (T.dflt T_Mark)).2.1 ==
                                    (List.getD l (Int.toNat (bestV (newV key l x))) (T.dflt T_Mark)).2.1) =
                                  true →
                                within (bestV (newV key l x)) (List.length l)) ∧
                            ((decide (bestV (newV key l x) < 0) ||
                                      decide
                                        ((List.getD l (Int.toNat (bestV (newV key l x))) (T.dflt T_Mark)).2.1 <
                                          (List.getD l (Int.toNat (ofN x)) (T.dflt T_Mark)).2.1) ||
                                    (List.getD l (Int.toNat (ofN x)) (T.dflt T_Mark)).2.1 ==
                                        (List.getD l (Int.toNat (bestV (newV key l x))) (T.dflt T_Mark)).2.1 &&
                                      decide
                                        ((List.getD l (Int.toNat (bestV (newV key l x))) (T.dflt T_Mark)).2.2.1 <
                                          (List.getD l (Int.toNat (ofN x)) (T.dflt T_Mark)).2.2.1)) =
                                  true →
                                inI64 (ofN x + 1) ∧ ∃ (x' : Nat), x' ≤ List.length l ∧ List.length l - x' < List.length l - x ∧ ofN x = bestV (newV key l x') ∧ ofN x + 1 = ofN x') ∧
                              ((decide (bestV (newV key l x) < 0) ||
                                      decide
                                        ((List.getD l (Int.toNat (bestV (newV key l x))) (T.dflt T_Mark)).2.1 <
                                          (List.getD l (Int.toNat (ofN x)) (T.dflt T_Mark)).2.1) ||
                                    (List.getD l (Int.toNat (ofN x)) (T.dflt T_Mark)).2.1 ==
                                        (List.getD l (Int.toNat (bestV (newV key l x))) (T.dflt T_Mark)).2.1 &&
                                      decide
                                        ((List.getD l (Int.toNat (bestV (newV key l x))) (T.dflt T_Mark)).2.2.1 <
                                          (List.getD l (Int.toNat (ofN x)) (T.dflt T_Mark)).2.2.1)) =
                                  false →
                                inI64 (ofN x + 1) ∧ ∃ (x' : Nat), x' ≤ List.length l ∧ List.length l - x' < List.length l - x ∧ bestV (newV key l x) = bestV (newV key l x') ∧ ofN x + 1 = ofN x'))) ∧
            (decide (ofN x < ofN (List.length l)) = false →
              (decide (bestV (newV key l x) < 0) = true → 0 = bestR (newV key l (List.length l)) ∧ false = someV (newV key l (List.length l))) ∧
                (decide (bestV (newV key l x) < 0) = false → bestV (newV key l x) = bestR (newV key l (List.length l)) ∧ true = someV (newV key l (List.length l)))) := by
  have hl' : l.length ≤ 9223372036854775807 := hl
  refine ⟨⟨0, by omega, rfl, rfl⟩, fun x hx => ⟨fun hc => ?_, fun hc => ?_⟩⟩
  · have hc := of_decide_eq_true hc
    have hc : x < l.length := by unfold ofN at hc; omega
    rw [show Int.toNat (ofN x) = x from rfl]
    have wi : within (ofN x) l.length := by unfold within ofN; omega
    have hi : inI64 (ofN x + 1) := by unfold inI64 ofN; omega
    have hx1 : ofN x + 1 = ofN (x + 1) := by unfold ofN; omega
    refine ⟨wi, hk, fun g => ⟨hi, x + 1, by omega, by omega, by rw [newV_not (by simpa using g)], hx1⟩, fun g => ?_⟩
    have g : sealedV key (l.getD x T_Mark.dflt) = true := by simpa using g
    cases ho : newV key l x with
    | none =>
      exact ⟨fun h => absurd h (by decide), fun h => absurd (Bool.or_eq_false_iff.1 h).1 (by decide), fun h => absurd (Bool.or_eq_false_iff.1 h).1 (by decide),
        fun _ => ⟨hi, x + 1, by omega, by omega, by rw [newV_first g ho]; rfl, hx1⟩, fun h => absurd (Bool.or_eq_false_iff.1 (Bool.or_eq_false_iff.1 h).1).1 (by decide)⟩
    | some j =>
      have hj := newV_lt ho
      have wj : within (bestV (some j)) l.length := by show within (j : Int) l.length; unfold within; omega
      have hz : decide (bestV (some j) < 0) = false := decide_eq_false (by show ¬ (j : Int) < 0; omega)
      refine ⟨fun _ => wj, fun _ => wj, fun _ _ => wj, fun h => ⟨hi, x + 1, by omega, by omega, ?_, hx1⟩, fun h => ⟨hi, x + 1, by omega, by omega, ?_, hx1⟩⟩
      · rw [hz, Bool.false_or, better_eq] at h
        have h : betterV (l.getD x T_Mark.dflt) (l.getD j T_Mark.dflt) = true := h
        rw [newV_next g ho, if_pos h]; rfl
      · rw [hz, Bool.false_or, better_eq] at h
        have h : betterV (l.getD x T_Mark.dflt) (l.getD j T_Mark.dflt) = false := h
        rw [newV_next g ho, if_neg (by rw [h]; decide)]
  · have hc := of_decide_eq_false hc
    have hc : x = l.length := by unfold ofN at hc; omega
    subst hc
    cases ho : newV key l l.length with
    | none => exact ⟨fun _ => ⟨rfl, rfl⟩, fun h => absurd h (by decide)⟩
    | some j => exact ⟨fun h => absurd (of_decide_eq_true h) (by show ¬ (j : Int) < 0; omega), fun _ => ⟨rfl, rfl⟩⟩

def an_rNewest (key : Bytes) (l : List Mark) : Nat → SState → Option LoopAnn
  | 3, _ => some { X := Nat, slots := fun i => [(6, .sv (.dv (.i64 (bestR (newV key l i))))), (7, .sv (.dv (.bool (someV (newV key l i))))), (8, .sv (.dv (.i64 i)))], objs := fun _ => [], inv := fun i => i ≤ l.length, meas := fun i => l.length - i }
  | _, _ => none

theorem ref16_Newest_vc (key : Bytes) (l : List Mark) (hk : key.length ≤ 1000000) (hl : l.length ≤ LIM) :
    (∃ (x : Nat), x ≤ List.length l ∧ 0 = bestR (newV key l x) ∧ false = someV (newV key l x) ∧ 0 = ofN x) ∧
      ∀ (x : Nat),
        x ≤ List.length l →
          (decide (ofN x < ofN (List.length l)) = true →
              within (ofN x) (List.length l) ∧
                within (ofN x) (List.length l) ∧
                  List.length key ≤ 1000000 ∧
                    ((!sealedV key (List.getD l (Int.toNat (ofN x)) (T.dflt T_Mark))) = true →
                        inI64 (ofN x + 1) ∧
                          ∃ (x' : Nat),
                            x' ≤ List.length l ∧
                              List.length l - x' < List.length l - x ∧ bestR (newV key l x) = bestR (newV key l x') ∧ someV (newV key l x) = someV (newV key l x') ∧ ofN x + 1 = ofN x') ∧
                      ((!sealedV key (List.getD l (Int.toNat (ofN x)) (T.dflt T_Mark))) = false →
                        within (bestR (newV key l x)) (List.length l) ∧
                          ((!someV (newV key l x) ||
                                    decide
                                      ((List.getD l (Int.toNat (bestR (newV key l x))) (T.dflt T_Mark)).2.1 <
                                        (List.getD l (Int.toNat (ofN x)) (T.dflt T_Mark)).2.1) ||
                                  (List.getD l (Int.toNat (ofN x)) (T.dflt T_Mark)).2.1 ==
                                      (List.getD l (Int.toNat (bestR (newV key l x))) (T.dflt T_Mark)).2.1 &&
                                    decide
                                      ((List.getD l (Int.toNat (bestR (newV key l x))) (T.dflt T_Mark)).2.2.1 <
                                        (List.getD l (Int.toNat (ofN x)) (T.dflt T_Mark)).2.2.1)) =
                                true →
                              inI64 (ofN x + 1) ∧
                                ∃ (x' : Nat), x' ≤ List.length l ∧ List.length l - x' < List.length l - x ∧ ofN x = bestR (newV key l x') ∧ true = someV (newV key l x') ∧ ofN x + 1 = ofN x') ∧
                            ((!someV (newV key l x) ||
                                    decide
                                      ((List.getD l (Int.toNat (bestR (newV key l x))) (T.dflt T_Mark)).2.1 <
                                        (List.getD l (Int.toNat (ofN x)) (T.dflt T_Mark)).2.1) ||
                                  (List.getD l (Int.toNat (ofN x)) (T.dflt T_Mark)).2.1 ==
                                      (List.getD l (Int.toNat (bestR (newV key l x))) (T.dflt T_Mark)).2.1 &&
                                    decide
                                      ((List.getD l (Int.toNat (bestR (newV key l x))) (T.dflt T_Mark)).2.2.1 <
                                        (List.getD l (Int.toNat (ofN x)) (T.dflt T_Mark)).2.2.1)) =
                                false →
                              inI64 (ofN x + 1) ∧
                                ∃ (x' : Nat),
                                  x' ≤ List.length l ∧
                                    List.length l - x' < List.length l - x ∧ bestR (newV key l x) = bestR (newV key l x') ∧ someV (newV key l x) = someV (newV key l x') ∧ ofN x + 1 = ofN x'))) ∧
            (decide (ofN x < ofN (List.length l)) = false → bestR (newV key l x) = bestR (newV key l (List.length l)) ∧ someV (newV key l x) = someV (newV key l (List.length l))) := by
  have hl' : l.length ≤ 9223372036854775807 := hl
  refine ⟨⟨0, by omega, rfl, rfl, rfl⟩, fun x hx => ⟨fun hc => ?_, fun hc => ?_⟩⟩
  · have hc := of_decide_eq_true hc
    have hc : x < l.length := by unfold ofN at hc; omega
    rw [show Int.toNat (ofN x) = x from rfl]
    have wi : within (ofN x) l.length := by unfold within ofN; omega
    have hi : inI64 (ofN x + 1) := by unfold inI64 ofN; omega
    have hx1 : ofN x + 1 = ofN (x + 1) := by unfold ofN; omega
    refine ⟨wi, wi, hk, fun g => ⟨hi, x + 1, by omega, by omega, by rw [newV_not (by simpa using g)], by rw [newV_not (by simpa using g)], hx1⟩, fun g => ?_⟩
    have g : sealedV key (l.getD x T_Mark.dflt) = true := by simpa using g
    cases ho : newV key l x with
    | none =>
      exact ⟨by show within 0 l.length; unfold within; omega, fun _ => ⟨hi, x + 1, by omega, by omega, by rw [newV_first g ho]; rfl, by rw [newV_first g ho]; rfl, hx1⟩,
        fun h => absurd (Bool.or_eq_false_iff.1 (Bool.or_eq_false_iff.1 h).1).1 (by decide)⟩
    | some j =>
      have hj := newV_lt ho
      have hz : (!someV (some j)) = false := rfl
      refine ⟨by show within (j : Int) l.length; unfold within; omega, fun h => ?_, fun h => ?_⟩
      · rw [hz, Bool.false_or, better_eq] at h
        have h : betterV (l.getD x T_Mark.dflt) (l.getD j T_Mark.dflt) = true := h
        exact ⟨hi, x + 1, by omega, by omega, by rw [newV_next g ho, if_pos h]; rfl, by rw [newV_next g ho, if_pos h]; rfl, hx1⟩
      · rw [hz, Bool.false_or, better_eq] at h
        have h : betterV (l.getD x T_Mark.dflt) (l.getD j T_Mark.dflt) = false := h
        have hn : ¬ betterV (l.getD x T_Mark.dflt) (l.getD j T_Mark.dflt) = true := by rw [h]; decide
        exact ⟨hi, x + 1, by omega, by omega, by rw [newV_next g ho, if_neg hn], by rw [newV_next g ho, if_neg hn], hx1⟩
  · have hc := of_decide_eq_false hc
    have hc : x = l.length := by unfold ofN at hc; omega
    subst hc
    exact ⟨rfl, rfl⟩

def an_rAudit (key : Bytes) (l : List Rec) (ms : List Mark) : Nat → SState → Option LoopAnn
  | 5, _ => some { X := Nat, slots := fun i => [(10, .sv (.dv (.i64 i)))], objs := fun _ => [], inv := fun i => i ≤ ms.length ∧ firstV (fun m => !sealedV key m) (ms.drop i) i = firstV (fun m => !sealedV key m) ms 0, meas := fun i => ms.length - i }
  | 10, _ => some { X := Nat, slots := fun k => [(11, .sv (.dv (.i64 k)))], objs := fun _ => [], inv := fun k => k ≤ ms.length ∧ forkR ms (ms.length - k) = forkV ms, meas := fun k => ms.length - k }
  | 13, S => some { X := Nat, slots := fun i => [(12, .sv (.dv (.i64 i)))], objs := fun _ => [], inv := fun i => i ≤ (x_int S 11).toNat ∧ clashV ms (x_int S 11).toNat ((x_int S 11).toNat - i) = clashV ms (x_int S 11).toNat (x_int S 11).toNat, meas := fun i => (x_int S 11).toNat - i }
  | 18, _ => some { X := Nat, slots := fun i => [(13, .sv (.dv (.i64 i)))], objs := fun _ => [], inv := fun i => i ≤ ms.length ∧ firstV (failV l 4) (ms.drop i) i = firstV (failV l 4) ms 0, meas := fun i => ms.length - i }
  | 23, _ => some { X := Nat, slots := fun i => [(14, .sv (.dv (.i64 i)))], objs := fun _ => [], inv := fun i => i ≤ ms.length ∧ firstV (failV l 5) (ms.drop i) i = firstV (failV l 5) ms 0, meas := fun i => ms.length - i }
  | _, _ => none

theorem ref16_Audit_vc (key : Bytes) (l : List Rec) (ms : List Mark) (hk : key.length ≤ 1000000) (hm : ms.length ≤ LIM) :
    (((walkV (ofN 0, ofN 0, List.replicate 32 0#8) l 0).2.2 != 0) = true →
        1 = (auditV key l ms).1 ∧ (walkV (ofN 0, ofN 0, List.replicate 32 0#8) l 0).2.1 = (auditV key l ms).2.1 ∧ ofN 0 = (auditV key l ms).2.2) ∧
      (((walkV (ofN 0, ofN 0, List.replicate 32 0#8) l 0).2.2 != 0) = false →
        (∃ (x : Nat),
            (x ≤ List.length ms ∧
                firstV (fun (m : Int × Int × Int × List (BitVec 8) × List (BitVec 8)) => !sealedV key m) (List.drop x ms) x =
                  firstV (fun (m : Int × Int × Int × List (BitVec 8) × List (BitVec 8)) => !sealedV key m) ms 0) ∧
              0 = ofN x) ∧
          ∀ (x : Nat),
            x ≤ List.length ms ∧
                firstV (fun (m : Int × Int × Int × List (BitVec 8) × List (BitVec 8)) => !sealedV key m) (List.drop x ms) x =
                  firstV (fun (m : Int × Int × Int × List (BitVec 8) × List (BitVec 8)) => !sealedV key m) ms 0 →
              (decide (ofN x < ofN (List.length ms)) = true →
                  within (ofN x) (List.length ms) ∧
                    List.length key ≤ 1000000 ∧
                      ((!sealedV key (List.getD ms (Int.toNat (ofN x)) (T.dflt T_Mark))) = true →
                          2 = (auditV key l ms).1 ∧ ofN x = (auditV key l ms).2.1 ∧ ofN 0 = (auditV key l ms).2.2) ∧
                        ((!sealedV key (List.getD ms (Int.toNat (ofN x)) (T.dflt T_Mark))) = false →
                          inI64 (ofN x + 1) ∧
                            ∃ (x' : Nat),
                              (x' ≤ List.length ms ∧
                                  firstV (fun (m : Int × Int × Int × List (BitVec 8) × List (BitVec 8)) => !sealedV key m) (List.drop x' ms) x' =
                                    firstV (fun (m : Int × Int × Int × List (BitVec 8) × List (BitVec 8)) => !sealedV key m) ms 0) ∧
                                List.length ms - x' < List.length ms - x ∧ ofN x + 1 = ofN x')) ∧
                (decide (ofN x < ofN (List.length ms)) = false →
                  (∃ (x : Nat), (x ≤ List.length ms ∧ forkR ms (List.length ms - x) = forkV ms) ∧ 0 = ofN x) ∧
                    ∀ (x : Nat),
                      x ≤ List.length ms ∧ forkR ms (List.length ms - x) = forkV ms →
                        (decide (ofN x < ofN (List.length ms)) = true →
                            (∃ (x_1 : Nat), (x_1 ≤ Int.toNat (ofN x) ∧ clashV ms (Int.toNat (ofN x)) (Int.toNat (ofN x) - x_1) = clashV ms (Int.toNat (ofN x)) (Int.toNat (ofN x))) ∧ 0 = ofN x_1) ∧
                              ∀ (x_1 : Nat),
                                x_1 ≤ Int.toNat (ofN x) ∧ clashV ms (Int.toNat (ofN x)) (Int.toNat (ofN x) - x_1) = clashV ms (Int.toNat (ofN x)) (Int.toNat (ofN x)) →
                                  (decide (ofN x_1 < ofN x) = true →
                                      within (ofN x_1) (List.length ms) ∧
                                        within (ofN x) (List.length ms) ∧
                                          (((List.getD ms (Int.toNat (ofN x_1)) (T.dflt T_Mark)).2.1 ==
                                                  (List.getD ms (Int.toNat (ofN x)) (T.dflt T_Mark)).2.1) =
                                                true →
                                              within (ofN x_1) (List.length ms)) ∧
                                            (((List.getD ms (Int.toNat (ofN x_1)) (T.dflt T_Mark)).2.1 ==
                                                    (List.getD ms (Int.toNat (ofN x)) (T.dflt T_Mark)).2.1) =
                                                  true →
                                                within (ofN x) (List.length ms)) ∧
                                              (((List.getD ms (Int.toNat (ofN x_1)) (T.dflt T_Mark)).2.1 ==
                                                        (List.getD ms (Int.toNat (ofN x)) (T.dflt T_Mark)).2.1 &&
                                                      !((List.getD ms (Int.toNat (ofN x_1)) (T.dflt T_Mark)).2.1 ==
                                                            (List.getD ms (Int.toNat (ofN x)) (T.dflt T_Mark)).2.1 &&
                                                          ((List.getD ms (Int.toNat (ofN x_1)) (T.dflt T_Mark)).2.2.1 ==
                                                              (List.getD ms (Int.toNat (ofN x)) (T.dflt T_Mark)).2.2.1 &&
                                                            eqL T.u8
                                                              (List.getD ms (Int.toNat (ofN x_1)) (T.dflt T_Mark)).2.2.2.1
                                                              (List.getD ms (Int.toNat (ofN x)) (T.dflt T_Mark)).2.2.2.1))) =
                                                    true →
                                                  3 = (auditV key l ms).1 ∧ ofN x_1 = (auditV key l ms).2.1 ∧ ofN x = (auditV key l ms).2.2) ∧
                                                (((List.getD ms (Int.toNat (ofN x_1)) (T.dflt T_Mark)).2.1 ==
                                                        (List.getD ms (Int.toNat (ofN x)) (T.dflt T_Mark)).2.1 &&
                                                      !((List.getD ms (Int.toNat (ofN x_1)) (T.dflt T_Mark)).2.1 ==
                                                            (List.getD ms (Int.toNat (ofN x)) (T.dflt T_Mark)).2.1 &&
                                                          ((List.getD ms (Int.toNat (ofN x_1)) (T.dflt T_Mark)).2.2.1 ==
                                                              (List.getD ms (Int.toNat (ofN x)) (T.dflt T_Mark)).2.2.1 &&
                                                            eqL T.u8
                                                              (List.getD ms (Int.toNat (ofN x_1)) (T.dflt T_Mark)).2.2.2.1
                                                              (List.getD ms (Int.toNat (ofN x)) (T.dflt T_Mark)).2.2.2.1))) =
                                                    false →
                                                  inI64 (ofN x_1 + 1) ∧
                                                    ∃ (x' : Nat),
                                                      (x' ≤ Int.toNat (ofN x) ∧ clashV ms (Int.toNat (ofN x)) (Int.toNat (ofN x) - x') = clashV ms (Int.toNat (ofN x)) (Int.toNat (ofN x))) ∧
                                                        Int.toNat (ofN x) - x' < Int.toNat (ofN x) - x_1 ∧ ofN x_1 + 1 = ofN x')) ∧
                                    (decide (ofN x_1 < ofN x) = false →
                                      inI64 (ofN x + 1) ∧
                                        ∃ (x' : Nat), (x' ≤ List.length ms ∧ forkR ms (List.length ms - x') = forkV ms) ∧ List.length ms - x' < List.length ms - x ∧ ofN x + 1 = ofN x')) ∧
                          (decide (ofN x < ofN (List.length ms)) = false →
                            (∃ (x : Nat), (x ≤ List.length ms ∧ firstV (failV l 4) (List.drop x ms) x = firstV (failV l 4) ms 0) ∧ 0 = ofN x) ∧
                              ∀ (x : Nat),
                                x ≤ List.length ms ∧ firstV (failV l 4) (List.drop x ms) x = firstV (failV l 4) ms 0 →
                                  (decide (ofN x < ofN (List.length ms)) = true →
                                      within (ofN x) (List.length ms) ∧
                                        (decide
                                                ((List.getD ms (Int.toNat (ofN x)) (T.dflt T_Mark)).2.1 ≤
                                                  ofN (List.length l)) =
                                              true →
                                            within (ofN x) (List.length ms)) ∧
                                          ((decide
                                                    ((List.getD ms (Int.toNat (ofN x)) (T.dflt T_Mark)).2.1 ≤
                                                      ofN (List.length l)) &&
                                                  !hasV l
                                                      ((List.getD ms (Int.toNat (ofN x)) (T.dflt T_Mark)).2.1,
                                                        (List.getD ms (Int.toNat (ofN x)) (T.dflt T_Mark)).2.2.1,
                                                        (List.getD ms (Int.toNat (ofN x)) (T.dflt T_Mark)).2.2.2.1)) =
                                                true →
                                              4 = (auditV key l ms).1 ∧ ofN x = (auditV key l ms).2.1 ∧ ofN 0 = (auditV key l ms).2.2) ∧
                                            ((decide
                                                    ((List.getD ms (Int.toNat (ofN x)) (T.dflt T_Mark)).2.1 ≤
                                                      ofN (List.length l)) &&
                                                  !hasV l
                                                      ((List.getD ms (Int.toNat (ofN x)) (T.dflt T_Mark)).2.1,
                                                        (List.getD ms (Int.toNat (ofN x)) (T.dflt T_Mark)).2.2.1,
                                                        (List.getD ms (Int.toNat (ofN x)) (T.dflt T_Mark)).2.2.2.1)) =
                                                false →
                                              inI64 (ofN x + 1) ∧
                                                ∃ (x' : Nat),
                                                  (x' ≤ List.length ms ∧ firstV (failV l 4) (List.drop x' ms) x' = firstV (failV l 4) ms 0) ∧
                                                    List.length ms - x' < List.length ms - x ∧ ofN x + 1 = ofN x')) ∧
                                    (decide (ofN x < ofN (List.length ms)) = false →
                                      (∃ (x : Nat), (x ≤ List.length ms ∧ firstV (failV l 5) (List.drop x ms) x = firstV (failV l 5) ms 0) ∧ 0 = ofN x) ∧
                                        ∀ (x : Nat),
                                          x ≤ List.length ms ∧ firstV (failV l 5) (List.drop x ms) x = firstV (failV l 5) ms 0 →
                                            (decide (ofN x < ofN (List.length ms)) = true →
                                                within (ofN x) (List.length ms) ∧
                                                  (decide
                                                          (ofN (List.length l) <
                                                            (List.getD ms (Int.toNat (ofN x)) (T.dflt T_Mark)).2.1) =
                                                        true →
                                                      5 = (auditV key l ms).1 ∧ ofN x = (auditV key l ms).2.1 ∧ ofN 0 = (auditV key l ms).2.2) ∧
                                                    (decide
                                                          (ofN (List.length l) <
                                                            (List.getD ms (Int.toNat (ofN x)) (T.dflt T_Mark)).2.1) =
                                                        false →
                                                      inI64 (ofN x + 1) ∧
                                                        ∃ (x' : Nat),
                                                          (x' ≤ List.length ms ∧ firstV (failV l 5) (List.drop x' ms) x' = firstV (failV l 5) ms 0) ∧
                                                            List.length ms - x' < List.length ms - x ∧ ofN x + 1 = ofN x')) ∧
                                              (decide (ofN x < ofN (List.length ms)) = false → 6 = (auditV key l ms).1 ∧ ofN 0 = (auditV key l ms).2.1 ∧ ofN 0 = (auditV key l ms).2.2))))) := by
  have hm' : ms.length ≤ 9223372036854775807 := hm
  have e0 : ((ofN 0, ofN 0, List.replicate 32 0#8) : HeadT) = head0 := rfl
  rw [e0]
  refine ⟨fun hw => ?_, fun hw => ⟨⟨0, ⟨by omega, rfl⟩, rfl⟩, fun x ⟨k1, k2⟩ => ⟨fun hc => ?_, fun hc => ?_⟩⟩⟩
  · rw [audit_chain (by simpa using hw)]; exact ⟨rfl, rfl, rfl⟩
  · have hw : (walkV head0 l 0).2.2 = 0 := by simpa using hw
    have hc := of_decide_eq_true hc
    have hc : x < ms.length := by unfold ofN at hc; omega
    rw [show Int.toNat (ofN x) = x from rfl]
    have hs := firstV_step (p := fun m => !sealedV key m) hc
    rw [k2] at hs
    refine ⟨by unfold within ofN; omega, hk, fun g => ?_, fun g => ⟨by unfold inI64 ofN; omega, x + 1, ⟨by omega, ?_⟩, by omega, by unfold ofN; omega⟩⟩
    · rw [if_pos g] at hs
      rw [audit_sealed hw hs]; exact ⟨rfl, rfl, rfl⟩
    · rw [if_neg (by show ¬ (!sealedV key (ms.getD x T_Mark.dflt)) = true; rw [g]; decide)] at hs
      exact hs.symm
  · have hw : (walkV head0 l 0).2.2 = 0 := by simpa using hw
    have hc := of_decide_eq_false hc
    have hc : x = ms.length := by unfold ofN at hc; omega
    rw [hc, firstV_end] at k2
    have k2 := k2.symm
    clear hc k1
    refine ⟨⟨0, ⟨by omega, rfl⟩, rfl⟩, fun x ⟨h1, h2⟩ => ⟨fun hc => ?_, fun hc => ?_⟩⟩
    · have hc := of_decide_eq_true hc
      have hc : x < ms.length := by unfold ofN at hc; omega
      rw [show Int.toNat (ofN x) = x from rfl]
      have hs := forkR_step hc
      rw [h2] at hs
      refine ⟨⟨0, ⟨by omega, rfl⟩, rfl⟩, fun i ⟨g1, g2⟩ => ⟨fun hd => ?_, fun hd => ?_⟩⟩
      · have hd := of_decide_eq_true hd
        have hd : i < x := by unfold ofN at hd; omega
        rw [show Int.toNat (ofN i) = i from rfl, apart_eq]
        have wi : within (ofN i) ms.length := by unfold within ofN; omega
        have wx : within (ofN x) ms.length := by unfold within ofN; omega
        have hcs := clashV_step (l := ms) hd
        refine ⟨wi, wx, fun _ => wi, fun _ => wx, fun g => ?_, fun g => ?_⟩
        · rw [if_pos g] at hcs
          rw [hcs] at g2
          rw [← g2] at hs
          have hf : forkV ms = some (i, x) := hs
          rw [audit_fork hw k2 hf]
          exact ⟨rfl, rfl, rfl⟩
        · rw [if_neg (by rw [g]; decide)] at hcs
          exact ⟨by unfold inI64 ofN; omega, i + 1, ⟨by omega, hcs.symm.trans g2⟩, by omega, by unfold ofN; omega⟩
      · have hd := of_decide_eq_false hd
        have hd : i = x := by unfold ofN at hd; omega
        subst hd
        rw [Nat.sub_self] at g2
        have g2 : none = clashV ms i i := g2
        rw [← g2] at hs
        exact ⟨by unfold inI64 ofN; omega, i + 1, ⟨hc, hs.symm⟩, by omega, by unfold ofN; omega⟩
    · have hc := of_decide_eq_false hc
      have hc : x = ms.length := by unfold ofN at hc; omega
      rw [hc, Nat.sub_self] at h2
      have hf : forkV ms = none := h2.symm
      clear hc h1 h2
      refine ⟨⟨0, ⟨by omega, rfl⟩, rfl⟩, fun x ⟨h1, h2⟩ => ⟨fun hc => ?_, fun hc => ?_⟩⟩
      · have hc := of_decide_eq_true hc
        have hc : x < ms.length := by unfold ofN at hc; omega
        rw [show Int.toNat (ofN x) = x from rfl]
        have hs := firstV_step (p := failV l 4) hc
        rw [h2] at hs
        have e4 := fail4_eq l (ms.getD x T_Mark.dflt)
        have wx : within (ofN x) ms.length := by unfold within ofN; omega
        refine ⟨wx, fun _ => wx, fun g => ?_, fun g => ⟨by unfold inI64 ofN; omega, x + 1, ⟨by omega, ?_⟩, by omega, by unfold ofN; omega⟩⟩
        · rw [if_pos (e4.symm.trans g)] at hs
          rw [audit_other hw k2 hf hs]; exact ⟨rfl, rfl, rfl⟩
        · have g : failV l 4 (ms.getD x T_Mark.dflt) = false := e4.symm.trans g
          rw [if_neg (by rw [g]; decide)] at hs
          exact hs.symm
      · have hc := of_decide_eq_false hc
        have hc : x = ms.length := by unfold ofN at hc; omega
        rw [hc, firstV_end] at h2
        have f4 := h2.symm
        clear hc h1 h2
        refine ⟨⟨0, ⟨by omega, rfl⟩, rfl⟩, fun x ⟨h1, h2⟩ => ⟨fun hc => ?_, fun hc => ?_⟩⟩
        · have hc := of_decide_eq_true hc
          have hc : x < ms.length := by unfold ofN at hc; omega
          rw [show Int.toNat (ofN x) = x from rfl]
          have hs := firstV_step (p := failV l 5) hc
          rw [h2] at hs
          have e5 := fail5_eq l (ms.getD x T_Mark.dflt)
          refine ⟨by unfold within ofN; omega, fun g => ?_, fun g => ⟨by unfold inI64 ofN; omega, x + 1, ⟨by omega, ?_⟩, by omega, by unfold ofN; omega⟩⟩
          · rw [if_pos (e5.symm.trans g)] at hs
            rw [audit_short hw k2 hf f4 hs]; exact ⟨rfl, rfl, rfl⟩
          · have g : failV l 5 (ms.getD x T_Mark.dflt) = false := e5.symm.trans g
            rw [if_neg (by rw [g]; decide)] at hs
            exact hs.symm
        · have hc := of_decide_eq_false hc
          have hc : x = ms.length := by unfold ofN at hc; omega
          rw [hc, firstV_end] at h2
          rw [audit_good hw k2 hf f4 h2.symm]; exact ⟨rfl, rfl, rfl⟩

def c_some : PC := D [.slc T_Mark] [.slc T_Mark] (fun _ => none) (fun x => (x.1.take 12, ()))

theorem law16_some_vc (l : List Mark) :
    (decide (12 < ofN (List.length l)) = true → (ofN 0 ≤ 12 ∧ 12 ≤ ofN (List.length l)) ∧ List.drop 0 (List.take (Int.toNat 12) l) = List.take 12 l) ∧
      (decide (12 < ofN (List.length l)) = false → l = List.take 12 l) := by
  refine ⟨fun g => ⟨⟨by decide, ?_⟩, List.drop_zero⟩, fun g => ?_⟩
  · have g := of_decide_eq_true g
    unfold ofN at *; omega
  · have g := of_decide_eq_false g
    unfold ofN at g
    exact (List.take_of_length_le (by omega)).symm

theorem law16_CheckHeads_vc (key : Bytes) (l : List Rec) (h : HeadT) (ms : List Mark) :
    List.length (List.take 300 key) ≤ 1000000 ∧
      List.length (List.take 300 key) ≤ 1000000 ∧
        (hasV (fewT 30 l) h == hasV (fewT 30 l) h &&
                bestR (newV (List.take 300 key) (List.take 12 ms) (List.length (List.take 12 ms))) == bestR (newV (List.take 300 key) (List.take 12 ms) (List.length (List.take 12 ms))) &&
              someV (newV (List.take 300 key) (List.take 12 ms) (List.length (List.take 12 ms))) == someV (newV (List.take 300 key) (List.take 12 ms) (List.length (List.take 12 ms))) &&
            true) =
          true := by
  have hk : (List.take 300 key).length ≤ 1000000 := by rw [List.length_take]; omega
  exact ⟨hk, hk, by simp⟩

theorem law16_CheckAudits_vc (key : Bytes) (l : List Rec) (ms : List Mark) :
    List.length (List.take 300 key) ≤ 1000000 ∧
      List.length (List.take 300 key) ≤ 1000000 ∧
        ((auditV (List.take 300 key) (fewT 30 l) (List.take 12 ms)).1 == (auditV (List.take 300 key) (fewT 30 l) (List.take 12 ms)).1 &&
              ((auditV (List.take 300 key) (fewT 30 l) (List.take 12 ms)).2.1 == (auditV (List.take 300 key) (fewT 30 l) (List.take 12 ms)).2.1 &&
                (auditV (List.take 300 key) (fewT 30 l) (List.take 12 ms)).2.2 == (auditV (List.take 300 key) (fewT 30 l) (List.take 12 ms)).2.2) &&
            true) =
          true := by
  have hk : (List.take 300 key).length ≤ 1000000 := by rw [List.length_take]; omega
  exact ⟨hk, hk, by simp⟩

theorem ref16_IsHead_spec : Vse.Spec P f_ref16_IsHead c_IsHead :=
  spec_fn (l := []) trivial h_ref16_IsHead rfl rfl fun x _ _ => body_ok an_none (ref16_IsHead_vc x.1) (by kernel_rfl)

theorem ref16_Check_spec : Vse.Spec P f_ref16_Check c_mCheck :=
  spec_fn (l := [(f_ref16_IsHead, c_IsHead)]) ⟨ref16_IsHead_spec, trivial⟩ h_ref16_Check rfl rfl fun x _ _ => body_ok an_none (ref16_Check_vc x.1) (by kernel_rfl)

theorem ref16_body_spec : Vse.Spec P f_ref16_body c_mbody :=
  spec_fn (l := [(f_ref01_Varint, c_Varint)]) ⟨ref01_Varint_spec, trivial⟩ h_ref16_body rfl rfl fun x h ok => body_ok an_none (ref16_body_vc x.1 (got h) ok.1.2.2.2.1.1) (by kernel_rfl)

theorem ref16_seal_spec : Vse.Spec P f_ref16_seal c_seal :=
  spec_fn (l := [(f_ref04_Derive, c_Derive), (f_ref16_body, c_mbody), (f_ref04_Of, c_r4Of)]) ⟨ref04_Derive_spec, ref16_body_spec, ref04_Of_spec, trivial⟩ h_ref16_seal rfl rfl
    fun x h ok => body_ok an_none (ref16_seal_vc x.1 x.2.1 (got h).1 (got h).2 ok.2.1.2.2.2.1.1) (by kernel_rfl)

theorem ref16_Make_spec : Vse.Spec P f_ref16_Make c_mMake :=
  spec_fn (l := [(f_ref16_Check, c_mCheck), (f_ref16_seal, c_seal)]) ⟨ref16_Check_spec, ref16_seal_spec, trivial⟩ h_ref16_Make rfl rfl fun x h _ => body_ok an_none (ref16_Make_vc x.1 x.2.1 x.2.2.1 (got h)) (by kernel_rfl)

theorem ref16_Sealed_spec : Vse.Spec P f_ref16_Sealed c_Sealed :=
  spec_fn (l := [(f_ref16_Check, c_mCheck), (f_ref16_seal, c_seal)]) ⟨ref16_Check_spec, ref16_seal_spec, trivial⟩ h_ref16_Sealed rfl rfl fun x h _ => body_ok an_none (ref16_Sealed_vc x.1 x.2.1 (got h)) (by kernel_rfl)

theorem ref16_Bytes_spec : Vse.Spec P f_ref16_Bytes c_mBytes :=
  spec_fn (l := [(f_ref16_Check, c_mCheck), (f_ref16_body, c_mbody)]) ⟨ref16_Check_spec, ref16_body_spec, trivial⟩ h_ref16_Bytes rfl rfl fun x _ ok => body_ok an_none (ref16_Bytes_vc x.1 ok.1.2.2.2.1.1 ok.1.2.2.2.2.1) (by kernel_rfl)

theorem ref16_Has_spec : Vse.Spec P f_ref16_Has c_Has :=
  spec_fn (l := [(f_ref13_Walk, c_Walk)]) ⟨ref13_Walk_spec, trivial⟩ h_ref16_Has rfl rfl fun x _ _ => body_ok an_none (ref16_Has_vc x.1 x.2.1) (by kernel_rfl)

theorem check_Newest_spec : Vse.Spec P f_check_Newest c_Newest :=
  spec_fn (l := [(f_check_Sealed, c_Sealed)]) ⟨check_Sealed_spec, trivial⟩ h_check_Newest rfl rfl fun x h ok => body_ok (an_cNewest x.1 x.2.1) (check_Newest_vc x.1 x.2.1 (got h) ok.2.1.1) (by kernel_rfl)

theorem ref16_Newest_spec : Vse.Spec P f_ref16_Newest c_Newest :=
  spec_fn (l := [(f_ref16_Sealed, c_Sealed)]) ⟨ref16_Sealed_spec, trivial⟩ h_ref16_Newest rfl rfl fun x h ok => body_ok (an_rNewest x.1 x.2.1) (ref16_Newest_vc x.1 x.2.1 (got h) ok.2.1.1) (by kernel_rfl)

theorem ref16_Audit_spec : Vse.Spec P f_ref16_Audit c_Audit :=
  spec_fn (l := [(f_ref13_Walk, c_Walk), (f_ref16_Sealed, c_Sealed), (f_ref16_Has, c_Has)]) ⟨ref13_Walk_spec, ref16_Sealed_spec, ref16_Has_spec, trivial⟩ h_ref16_Audit rfl rfl
    fun x h ok => body_ok (an_rAudit x.1 x.2.1 x.2.2.1) (ref16_Audit_vc x.1 x.2.1 x.2.2.1 (got h) ok.2.2.1.1) (by kernel_rfl)

theorem law16_some_spec : Vse.Spec P f_law16_some c_some :=
  spec_fn (l := []) trivial h_law16_some rfl rfl fun x _ _ => body_ok an_none (law16_some_vc x.1) (by kernel_rfl)

theorem law16_CheckHeads_spec : Vse.Spec P f_law16_CheckHeads (c_law16 [.slc .u8, .slc T_Rec, T_Head, .slc T_Mark]) :=
  spec_fn (l := [(f_law16_cut, c_cut16), (f_law16_few, c_few16), (f_law16_some, c_some), (f_check_Newest, c_Newest), (f_ref16_Newest, c_Newest), (f_check_Has, c_Has), (f_ref16_Has, c_Has), (f_law16_awake, c_true16)])
    ⟨law16_cut_spec, law16_few_spec, law16_some_spec, check_Newest_spec, ref16_Newest_spec, check_Has_spec, ref16_Has_spec, law16_awake_spec, trivial⟩ h_law16_CheckHeads rfl rfl
    fun x _ _ => body_ok an_none (law16_CheckHeads_vc x.1 x.2.1 x.2.2.1 x.2.2.2.1) (by kernel_rfl)

theorem law16_CheckAudits_spec : Vse.Spec P f_law16_CheckAudits (c_law16 [.slc .u8, .slc T_Rec, .slc T_Mark]) :=
  spec_fn (l := [(f_law16_cut, c_cut16), (f_law16_few, c_few16), (f_law16_some, c_some), (f_check_Audit, c_Audit), (f_ref16_Audit, c_Audit), (f_law16_awake, c_true16)])
    ⟨law16_cut_spec, law16_few_spec, law16_some_spec, check_Audit_spec, ref16_Audit_spec, law16_awake_spec, trivial⟩ h_law16_CheckAudits rfl rfl
    fun x _ _ => body_ok an_none (law16_CheckAudits_vc x.1 x.2.1 x.2.2.1) (by kernel_rfl)

end Go.Sal
