/- Contracts of check: marks. -/
import Derived.Test.YtmebmabepifjaaaQCMac
import Derived.Test.YtmebmabepifjaaaQCEnd13
import Derived.Test.YtmebmabepifjaaaQSalChk
set_option maxRecDepth 100000
namespace Go.Sal
open Go.Vse Go.Sal.Nm

def c_may : PC := D [T_Mark] [.bool] (fun _ => none) (fun x => (mayV x.1, ()))

theorem may_bounds {m : Mark} (h : mayV m = true) : (m.1 = (0 : Int) ∨ m.1 = (1 : Int)) ∧ (0 : Int) ≤ m.2.1 ∧ m.2.1 ≤ (1073741824 : Int) ∧ (0 : Int) ≤ m.2.2.1 ∧ m.2.2.1 ≤ (1073741824 : Int) := by
  unfold mayV isHeadV headM head0 at h
  simp only [Bool.and_eq_true, Bool.or_eq_true, decide_eq_true_eq, Prod.mk.injEq] at h
  have aux : ∀ x y : Int, ((x = 0 ∧ y = 0) ∨ (1 ≤ x ∧ x ≤ 1073741824 ∧ 1 ≤ y ∧ y ≤ 1073741824)) → 0 ≤ x ∧ x ≤ 1073741824 ∧ 0 ≤ y ∧ y ≤ 1073741824 := by intro x y; omega
  exact ⟨h.1, aux _ _ (h.2.imp (fun q => ⟨q.1, q.2.1⟩) id)⟩
theorem mbody_len {m : Mark} (h : mayV m = true) (hd : m.2.2.2.1.length = 32) : (mbodyV m).length ≤ 60 := by
  obtain ⟨_, h1, h2, h3, h4⟩ := may_bounds h
  have v1 := vlen m.2.1.toNat (by have aux : ∀ x : Int, x ≤ 1073741824 → x.toNat < 18446744073709551616 := by intro x; omega
                                  exact aux _ h2)
  have v2 := vlen m.2.2.1.toNat (by have aux : ∀ x : Int, x ≤ 1073741824 → x.toNat < 18446744073709551616 := by intro x; omega
                                    exact aux _ h4)
  unfold mbodyV
  simp only [List.length_append, List.length_cons, List.length_nil]
  omega
theorem readN_le : ∀ (b : Bytes) (i x : Nat), (readN b i x).2.1 ≤ i + b.length
  | [], i, x => Nat.le_refl _
  | c :: r, i, x => by
    unfold readN
    split
    · simp
    · split
      · simp
      · have := readN_le r (i + 1) (x + (c.toNat - 128) * 128 ^ i)
        simp; omega

theorem check_may_vc (m : Mark) :
    ((m.1 == 0 || m.1 == 1) &&
        (m.2.1 == ofN 0 && (m.2.2.1 == ofN 0 && eqL T.u8 m.2.2.2.1 (List.replicate 32 0#8)) ||
          decide (1 ≤ m.2.1) && decide (m.2.1 ≤ 1073741824) && decide (1 ≤ m.2.2.1) && decide (m.2.2.1 ≤ 1073741824))) =
      mayV m := by
  have e0 : ofN 0 = (0 : Int) := rfl
  rw [e0, eqL_u8, Bool.eq_iff_iff]
  unfold mayV isHeadV headM head0 zero32
  simp only [Bool.and_eq_true, Bool.or_eq_true, beq_iff_eq, decide_eq_true_eq, Prod.mk.injEq, and_assoc]

def c_mbody : PC := O [T_Mark] .u8 t_uint8 1 [] (fun x => some (mayV x.1 = true)) (fun x => (mbodyV x.1, ()))

theorem check_body_vc (m : Mark) (h : mayV m = true) (hd : m.2.2.2.1.length = 32) :
    List.length [77#8, BitVec.ofInt 8 m.1] + List.length (varintN (BitVec.toNat (BitVec.ofInt 64 m.2.1))) ≤ ROOM ∧
      List.length ([77#8, BitVec.ofInt 8 m.1] ++ varintN (BitVec.toNat (BitVec.ofInt 64 m.2.1))) + List.length (varintN (BitVec.toNat (BitVec.ofInt 64 m.2.2.1))) ≤ ROOM ∧
        List.length ([77#8, BitVec.ofInt 8 m.1] ++ varintN (BitVec.toNat (BitVec.ofInt 64 m.2.1)) ++ varintN (BitVec.toNat (BitVec.ofInt 64 m.2.2.1))) +
              List.length (List.take 32 (List.drop 0 m.2.2.2.1)) ≤
            ROOM ∧
          [77#8, BitVec.ofInt 8 m.1] ++ varintN (BitVec.toNat (BitVec.ofInt 64 m.2.1)) ++ varintN (BitVec.toNat (BitVec.ofInt 64 m.2.2.1)) ++ List.take 32 (List.drop 0 m.2.2.2.1) = mbodyV m := by
  obtain ⟨_, h1, h2, h3, h4⟩ := may_bounds h
  have aux : ∀ x : Int, x ≤ 1073741824 → x < 18446744073709551616 := by intro x; omega
  have aux2 : ∀ x : Int, x ≤ 1073741824 → x.toNat < 18446744073709551616 := by intro x; omega
  have e1 : (BitVec.ofInt 64 m.2.1).toNat = m.2.1.toNat := toNat64 h1 (aux _ h2)
  have e2 : (BitVec.ofInt 64 m.2.2.1).toNat = m.2.2.1.toNat := toNat64 h3 (aux _ h4)
  have e3 : List.take 32 (List.drop 0 m.2.2.2.1) = m.2.2.2.1 := by rw [List.drop_zero, List.take_of_length_le (by omega)]
  have v1 := vlen m.2.1.toNat (aux2 _ h2)
  have v2 := vlen m.2.2.1.toNat (aux2 _ h4)
  rw [e1, e2, e3]
  refine ⟨?_, ?_, ?_, rfl⟩ <;> simp only [List.length_append, List.length_cons, List.length_nil] <;> unfold ROOM <;> omega

def c_seal : PC := D [.slc .u8, T_Mark] [T_Dig] (fun x => some (mayV x.2.1 = true ∧ x.1.length ≤ 1000000)) (fun x => (sealV x.1 x.2.1, ()))

theorem check_seal_vc (key : Bytes) (m : Mark) (h : mayV m = true) (hk : key.length ≤ 1000000) (hd : m.2.2.2.1.length = 32) :
    (List.length key ≤ 1000000 ∧ List.length (List.map UInt8.toBitVec [109, 97, 114, 107]) ≤ 1000) ∧
      mayV m = true ∧
        (List.length (List.take 32 (List.drop 0 (deriveV key (List.map UInt8.toBitVec [109, 97, 114, 107]) (BitVec.ofInt 64 m.1)))) ≤ 1000000 ∧
            List.length (List.flatten [mbodyV m]) ≤ 1000000 ∧ List.length [mbodyV m] ≤ 1000000) ∧
          macV (List.take 32 (List.drop 0 (deriveV key (List.map UInt8.toBitVec [109, 97, 114, 107]) (BitVec.ofInt 64 m.1)))) (List.flatten [mbodyV m]) = sealV key m := by
  have e1 : List.map UInt8.toBitVec [109, 97, 114, 107] = markKey := by decide
  have e2 : ∀ z : Bytes, z.length = 32 → List.take 32 (List.drop 0 z) = z := fun z hz => by rw [List.drop_zero, List.take_of_length_le (by omega)]
  have e3 : List.flatten [mbodyV m] = mbodyV m := by simp
  have hd2 : (deriveV key markKey (BitVec.ofInt 64 m.1)).length = 32 := macV_len _ _
  have hb := mbody_len h hd
  rw [e1, e2 _ hd2, e3]
  exact ⟨⟨hk, by decide⟩, h, ⟨by omega, by omega, by simp⟩, rfl⟩

def c_mMake : PC := D [.slc .u8, .i64, T_Head] [T_Mark, .i64] (fun x => some (x.1.length ≤ 1000000)) (fun x => ((mkV x.1 x.2.1 x.2.2.1).1, (mkV x.1 x.2.1 x.2.2.1).2, ()))

theorem check_Make_vc (key : Bytes) (site : Int) (h : HeadT) (hk : key.length ≤ 1000000) :
    ((!mayV (site, h.1, h.2.1, h.2.2, List.replicate 32 0#8)) = true →
        (ofN 0 = (mkV key site h).1.1 ∧
            ofN 0 = (mkV key site h).1.2.1 ∧ ofN 0 = (mkV key site h).1.2.2.1 ∧ List.replicate 32 0#8 = (mkV key site h).1.2.2.2.1 ∧ List.replicate 32 0#8 = (mkV key site h).1.2.2.2.2) ∧
          160 = (mkV key site h).2) ∧
      ((!mayV (site, h.1, h.2.1, h.2.2, List.replicate 32 0#8)) = false →
        (mayV (site, h.1, h.2.1, h.2.2, List.replicate 32 0#8) = true ∧ List.length key ≤ 1000000) ∧
          (site = (mkV key site h).1.1 ∧
              h.1 = (mkV key site h).1.2.1 ∧
                h.2.1 = (mkV key site h).1.2.2.1 ∧ h.2.2 = (mkV key site h).1.2.2.2.1 ∧ sealV key (site, h.1, h.2.1, h.2.2, List.replicate 32 0#8) = (mkV key site h).1.2.2.2.2) ∧
            0 = (mkV key site h).2) := by
  refine ⟨fun g => ?_, fun g => ?_⟩
  · have g : (!mayV (markOf site h)) = true := g
    have g : mayV (markOf site h) = false := by simpa using g
    have e : mkV key site h = (mark0, 160) := if_neg (by rw [g]; decide)
    rw [e]
    exact ⟨⟨rfl, rfl, rfl, rfl, rfl⟩, rfl⟩
  · have g : (!mayV (markOf site h)) = false := g
    have g : mayV (markOf site h) = true := by simpa using g
    have e : mkV key site h = (withMac (markOf site h) (sealV key (markOf site h)), 0) := if_pos g
    rw [e]
    exact ⟨⟨g, hk⟩, ⟨rfl, rfl, rfl, rfl, rfl⟩, rfl⟩

def c_mCheck : PC := D [T_Mark] [.i64] (fun _ => none) (fun x => (mcheckV x.1, ()))

theorem check_Check_vc (m : Mark) :
    ((!mayV m) = true → 160 = mcheckV m) ∧ ((!mayV m) = false → 0 = mcheckV m) := by
  unfold mcheckV
  refine ⟨fun g => ?_, fun g => ?_⟩
  · have g : mayV m = false := by simpa using g
    rw [if_neg (by rw [g]; decide)]
  · have g : mayV m = true := by simpa using g
    rw [if_pos g]

def c_Sealed : PC := D [.slc .u8, T_Mark] [.bool] (fun x => some (x.1.length ≤ 1000000)) (fun x => (sealedV x.1 x.2.1, ()))

theorem check_Sealed_vc (key : Bytes) (m : Mark) (hk : key.length ≤ 1000000) :
    (mayV m = true → mayV m = true ∧ List.length key ≤ 1000000) ∧ (mayV m && alikeV m.2.2.2.2 (sealV key m)) = sealedV key m := by
  exact ⟨fun g => ⟨g, hk⟩, rfl⟩

def c_mBytes : PC := D [T_Mark] [.slc .u8, .i64] (fun _ => none) (fun x => ((mbytesV x.1).1, (mbytesV x.1).2, ()))

theorem check_Bytes_vc (m : Mark) (hd : m.2.2.2.1.length = 32) (he : m.2.2.2.2.length = 32) :
    ((!mayV m) = true → nilOf (T.den T.u8) = (mbytesV m).1 ∧ 160 = (mbytesV m).2) ∧
      ((!mayV m) = false →
        mayV m = true ∧ List.length (mbodyV m) + List.length (List.take 32 (List.drop 0 m.2.2.2.2)) ≤ ROOM ∧ mbodyV m ++ List.take 32 (List.drop 0 m.2.2.2.2) = (mbytesV m).1 ∧ 0 = (mbytesV m).2) := by
  unfold mbytesV
  refine ⟨fun g => ?_, fun g => ?_⟩
  · have g : mayV m = false := by simpa using g
    rw [if_neg (by rw [g]; decide)]; exact ⟨rfl, rfl⟩
  · have g : mayV m = true := by simpa using g
    have hb := mbody_len g hd
    have e : List.take 32 (List.drop 0 m.2.2.2.2) = m.2.2.2.2 := by rw [List.drop_zero, List.take_of_length_le (by omega)]
    rw [if_pos g, e]
    exact ⟨g, by unfold ROOM; omega, rfl, rfl⟩

def c_mnum : PC := D [.slc .u8] [.i64, .slc .u8] (fun _ => none) (fun x => ((mnumV x.1).1, (mnumV x.1).2, ()))

theorem check_number_vc (b : Bytes) :
    ((ofN (readN b 0 0).2.2 != 0 || decide (1073741824#64 < BitVec.ofNat 64 (readN b 0 0).1)) = true → -1 = (mnumV b).1 ∧ nilOf (T.den T.u8) = (mnumV b).2) ∧
      ((ofN (readN b 0 0).2.2 != 0 || decide (1073741824#64 < BitVec.ofNat 64 (readN b 0 0).1)) = false →
        (0 ≤ ofN (readN b 0 0).2.1 ∧ ofN (readN b 0 0).2.1 ≤ ofN (List.length b)) ∧
          BitVec.toInt (BitVec.setWidth 64 (BitVec.ofNat 64 (readN b 0 0).1)) = (mnumV b).1 ∧ List.drop (Int.toNat (ofN (readN b 0 0).2.1)) (List.take (List.length b) b) = (mnumV b).2) := by
  have hle := readN_le b 0 0
  have hcmp : decide (1073741824#64 < BitVec.ofNat 64 (readN b 0 0).1) = decide (1073741824 < numB b) := by
    rw [Bool.eq_iff_iff]
    simp only [decide_eq_true_eq, BitVec.lt_def]
    exact Iff.rfl
  have herr : (ofN (readN b 0 0).2.2 != 0) = !decide ((readN b 0 0).2.2 = 0) := by
    rw [Bool.eq_iff_iff]
    simp only [bne_iff_ne, ne_eq, Bool.not_eq_true', decide_eq_false_iff_not, ofN]
    omega
  rw [hcmp, herr]
  unfold mnumV
  refine ⟨fun g => ?_, fun g => ?_⟩
  · simp only [Bool.or_eq_true, Bool.not_eq_true', decide_eq_false_iff_not, decide_eq_true_eq] at g
    rw [if_neg (by omega)]; exact ⟨rfl, rfl⟩
  · simp only [Bool.or_eq_false_iff, Bool.not_eq_false', decide_eq_true_eq, decide_eq_false_iff_not] at g
    rw [if_pos (by omega)]
    refine ⟨⟨by unfold ofN; omega, by unfold ofN; omega⟩, ?_, ?_⟩
    · rw [BitVec.setWidth_eq, BitVec.toInt_eq_toNat_cond, if_pos (by show 2 * numB b < _; omega)]; rfl
    · rw [List.take_length]; rfl

def c_mParse : PC := D [.slc .u8] [T_Mark, .i64] (fun _ => none) (fun x => ((parseM x.1).1, (parseM x.1).2, ()))

theorem check_Parse_vc (b : Bytes) :
    (decide (ofN (List.length b) < 2) = false → within 0 (List.length b)) ∧
      ((decide (ofN (List.length b) < 2) || List.getD b (Int.toNat 0) 0#8 != 77#8) = true →
          (ofN 0 = (parseM b).1.1 ∧ ofN 0 = (parseM b).1.2.1 ∧ ofN 0 = (parseM b).1.2.2.1 ∧ List.replicate 32 0#8 = (parseM b).1.2.2.2.1 ∧ List.replicate 32 0#8 = (parseM b).1.2.2.2.2) ∧
            160 = (parseM b).2) ∧
        ((decide (ofN (List.length b) < 2) || List.getD b (Int.toNat 0) 0#8 != 77#8) = false →
          within 1 (List.length b) ∧
            (ofN 0 ≤ 2 ∧ 2 ≤ ofN (List.length b)) ∧
              ((ofN (List.length (mnumV (mnumV (List.drop (Int.toNat 2) (List.take (List.length b) b))).2).2) != 64) = true →
                  (ofN 0 = (parseM b).1.1 ∧ ofN 0 = (parseM b).1.2.1 ∧ ofN 0 = (parseM b).1.2.2.1 ∧ List.replicate 32 0#8 = (parseM b).1.2.2.2.1 ∧ List.replicate 32 0#8 = (parseM b).1.2.2.2.2) ∧
                    160 = (parseM b).2) ∧
                ((ofN (List.length (mnumV (mnumV (List.drop (Int.toNat 2) (List.take (List.length b) b))).2).2) != 64) = false →
                  (ofN 0 ≤ 32 ∧ 32 ≤ ofN (List.length (mnumV (mnumV (List.drop (Int.toNat 2) (List.take (List.length b) b))).2).2)) ∧
                    32 ≤ List.length (List.drop 0 (List.take (Int.toNat 32) (mnumV (mnumV (List.drop (Int.toNat 2) (List.take (List.length b) b))).2).2)) ∧
                      (ofN 0 ≤ 32 ∧ 32 ≤ ofN (List.length (mnumV (mnumV (List.drop (Int.toNat 2) (List.take (List.length b) b))).2).2)) ∧
                        32 ≤
                            List.length
                              (List.drop (Int.toNat 32)
                                (List.take (List.length (mnumV (mnumV (List.drop (Int.toNat 2) (List.take (List.length b) b))).2).2)
                                  (mnumV (mnumV (List.drop (Int.toNat 2) (List.take (List.length b) b))).2).2)) ∧
                          ((!mayV
                                    (ofN (BitVec.toNat (List.getD b (Int.toNat 1) 0#8)), (mnumV (List.drop (Int.toNat 2) (List.take (List.length b) b))).1,
                                      (mnumV (mnumV (List.drop (Int.toNat 2) (List.take (List.length b) b))).2).1,
                                      List.take 32 (List.drop 0 (List.take (Int.toNat 32) (mnumV (mnumV (List.drop (Int.toNat 2) (List.take (List.length b) b))).2).2)),
                                      List.take 32
                                        (List.drop (Int.toNat 32)
                                          (List.take (List.length (mnumV (mnumV (List.drop (Int.toNat 2) (List.take (List.length b) b))).2).2)
                                            (mnumV (mnumV (List.drop (Int.toNat 2) (List.take (List.length b) b))).2).2)))) =
                                true →
                              (ofN 0 = (parseM b).1.1 ∧
                                  ofN 0 = (parseM b).1.2.1 ∧ ofN 0 = (parseM b).1.2.2.1 ∧ List.replicate 32 0#8 = (parseM b).1.2.2.2.1 ∧ List.replicate 32 0#8 = (parseM b).1.2.2.2.2) ∧
                                160 = (parseM b).2) ∧
                            ((!mayV
                                    (ofN (BitVec.toNat (List.getD b (Int.toNat 1) 0#8)), (mnumV (List.drop (Int.toNat 2) (List.take (List.length b) b))).1,
                                      (mnumV (mnumV (List.drop (Int.toNat 2) (List.take (List.length b) b))).2).1,
                                      List.take 32 (List.drop 0 (List.take (Int.toNat 32) (mnumV (mnumV (List.drop (Int.toNat 2) (List.take (List.length b) b))).2).2)),
                                      List.take 32
                                        (List.drop (Int.toNat 32)
                                          (List.take (List.length (mnumV (mnumV (List.drop (Int.toNat 2) (List.take (List.length b) b))).2).2)
                                            (mnumV (mnumV (List.drop (Int.toNat 2) (List.take (List.length b) b))).2).2)))) =
                                false →
                              (ofN (BitVec.toNat (List.getD b (Int.toNat 1) 0#8)) = (parseM b).1.1 ∧
                                  (mnumV (List.drop (Int.toNat 2) (List.take (List.length b) b))).1 = (parseM b).1.2.1 ∧
                                    (mnumV (mnumV (List.drop (Int.toNat 2) (List.take (List.length b) b))).2).1 = (parseM b).1.2.2.1 ∧
                                      List.take 32 (List.drop 0 (List.take (Int.toNat 32) (mnumV (mnumV (List.drop (Int.toNat 2) (List.take (List.length b) b))).2).2)) = (parseM b).1.2.2.2.1 ∧
                                        List.take 32
                                            (List.drop (Int.toNat 32)
                                              (List.take (List.length (mnumV (mnumV (List.drop (Int.toNat 2) (List.take (List.length b) b))).2).2)
                                                (mnumV (mnumV (List.drop (Int.toNat 2) (List.take (List.length b) b))).2).2)) =
                                          (parseM b).1.2.2.2.2) ∧
                                0 = (parseM b).2))) := by
  have e2 : List.drop (Int.toNat 2) (List.take b.length b) = b.drop 2 := by rw [List.take_length]; rfl
  rw [e2]
  have e3 : List.drop (Int.toNat 32) (List.take (mnumV (mnumV (b.drop 2)).2).2.length (mnumV (mnumV (b.drop 2)).2).2) = (mnumV (mnumV (b.drop 2)).2).2.drop 32 := by rw [List.take_length]; rfl
  have e4 : List.drop 0 (List.take (Int.toNat 32) (mnumV (mnumV (b.drop 2)).2).2) = (mnumV (mnumV (b.drop 2)).2).2.take 32 := by rw [List.drop_zero]; rfl
  rw [e3, e4]
  have e5 : List.take 32 ((mnumV (mnumV (b.drop 2)).2).2.take 32) = (mnumV (mnumV (b.drop 2)).2).2.take 32 := by rw [List.take_take]; rfl
  rw [e5]
  have bad : ¬ (2 ≤ b.length ∧ b.getD 0 0#8 = 77#8 ∧ (mnumV (mnumV (b.drop 2)).2).2.length = 64 ∧ mayV (parseAt b) = true) → parseM b = (mark0, 160) := fun h => if_neg h
  refine ⟨fun g => ?_, fun g => ?_, fun g => ⟨?_, ⟨by decide, ?_⟩, fun g1 => ?_, fun g1 => ?_⟩⟩
  · have g := of_decide_eq_false g
    unfold ofN at g; unfold within; omega
  · simp only [Bool.or_eq_true, decide_eq_true_eq, bne_iff_ne, ne_eq, ofN] at g
    have g : b.length < 2 ∨ ¬ b.getD 0 0#8 = 77#8 := g.imp (fun q => by omega) id
    rw [bad (fun q => by rcases g with g | g; · omega
                         · exact g q.2.1)]
    exact ⟨⟨rfl, rfl, rfl, rfl, rfl⟩, rfl⟩
  · simp only [Bool.or_eq_false_iff, decide_eq_false_iff_not, ofN] at g
    unfold within; omega
  · simp only [Bool.or_eq_false_iff, decide_eq_false_iff_not, ofN] at g
    unfold ofN; omega
  · simp only [bne_iff_ne, ne_eq, ofN] at g1
    rw [bad (fun q => by omega)]
    exact ⟨⟨rfl, rfl, rfl, rfl, rfl⟩, rfl⟩
  · simp only [bne_eq_false_iff_eq, ofN] at g1
    have h64 : (mnumV (mnumV (b.drop 2)).2).2.length = 64 := by omega
    have e6 : List.take 32 ((mnumV (mnumV (b.drop 2)).2).2.drop 32) = (mnumV (mnumV (b.drop 2)).2).2.drop 32 := List.take_of_length_le (by rw [List.length_drop]; omega)
    rw [e6]
    refine ⟨⟨by decide, by unfold ofN; omega⟩, by rw [List.length_take]; omega, ⟨by decide, by unfold ofN; omega⟩, by rw [List.length_drop]; omega, fun g2 => ?_, fun g2 => ?_⟩
    · have g2 : (!mayV (parseAt b)) = true := g2
      have g2 : mayV (parseAt b) = false := by simpa using g2
      rw [bad (fun q => by rw [g2] at q; exact Bool.noConfusion q.2.2.2)]
      exact ⟨⟨rfl, rfl, rfl, rfl, rfl⟩, rfl⟩
    · have g2 : (!mayV (parseAt b)) = false := g2
      have g2 : mayV (parseAt b) = true := by simpa using g2
      simp only [Bool.or_eq_false_iff, decide_eq_false_iff_not, bne_eq_false_iff_eq, ofN] at g
      have e : parseM b = (parseAt b, 0) := if_pos ⟨by omega, g.2, h64, g2⟩
      rw [e]
      exact ⟨⟨rfl, rfl, rfl, rfl, rfl⟩, rfl⟩

def c_Has : PC := D [.slc T_Rec, T_Head] [.bool] (fun _ => none) (fun x => (hasV x.1 x.2.1, ()))

theorem check_Has_vc (l : List Rec) (h : HeadT) :
    ((decide (h.1 < 0) || decide (ofN (List.length l) < h.1)) = true → false = hasV l h) ∧
      ((decide (h.1 < 0) || decide (ofN (List.length l) < h.1)) = false →
        (0 ≤ h.1 ∧ h.1 ≤ ofN (List.length l)) ∧
          ((walkV (ofN 0, ofN 0, List.replicate 32 0#8) (List.drop 0 (List.take (Int.toNat h.1) l)) 0).2.2 == 0 &&
              ((walkV (ofN 0, ofN 0, List.replicate 32 0#8) (List.drop 0 (List.take (Int.toNat h.1) l)) 0).1.1 == h.1 &&
                ((walkV (ofN 0, ofN 0, List.replicate 32 0#8) (List.drop 0 (List.take (Int.toNat h.1) l)) 0).1.2.1 == h.2.1 &&
                  eqL T.u8 (walkV (ofN 0, ofN 0, List.replicate 32 0#8) (List.drop 0 (List.take (Int.toNat h.1) l)) 0).1.2.2 h.2.2))) =
            hasV l h) := by
  have e0 : ((ofN 0, ofN 0, List.replicate 32 0#8) : HeadT) = head0 := rfl
  rw [e0, List.drop_zero, eqL_u8]
  unfold hasV
  refine ⟨fun g => ?_, fun g => ?_⟩
  · simp only [Bool.or_eq_true, decide_eq_true_eq, ofN] at g
    have aux : ∀ x y : Int, (x < 0 ∨ y < x) → ¬ (0 ≤ x ∧ x ≤ y) := by intro x y; omega
    rw [if_neg (aux _ _ g)]
  · simp only [Bool.or_eq_false_iff, decide_eq_false_iff_not, ofN] at g
    have aux : ∀ x y : Int, (¬ x < 0 ∧ ¬ y < x) → (0 ≤ x ∧ x ≤ y) := by intro x y; omega
    have g := aux _ _ g
    rw [if_pos g]
    refine ⟨g, ?_⟩
    rw [Bool.eq_iff_iff]
    simp only [Bool.and_eq_true, beq_iff_eq, decide_eq_true_eq, Prod.ext_iff]

theorem check_may_spec : Vse.Spec P f_check_may c_may :=
  spec_fn (l := []) trivial h_check_may rfl rfl fun x _ _ => body_ok an_none (check_may_vc x.1) (by kernel_rfl)

theorem check_body_spec : Vse.Spec P f_check_body c_mbody :=
  spec_fn (l := [(f_word_Varint, c_Varint)]) ⟨word_Varint_spec, trivial⟩ h_check_body rfl rfl fun x h ok => body_ok an_none (check_body_vc x.1 (got h) ok.1.2.2.2.1.1) (by kernel_rfl)

theorem check_seal_spec : Vse.Spec P f_check_seal c_seal :=
  spec_fn (l := [(f_mac_Derive, c_Derive), (f_check_body, c_mbody), (f_mac_Sum, c_macSum)]) ⟨mac_Derive_spec, check_body_spec, mac_Sum_spec, trivial⟩ h_check_seal rfl rfl
    fun x h ok => body_ok an_none (check_seal_vc x.1 x.2.1 (got h).1 (got h).2 ok.2.1.2.2.2.1.1) (by kernel_rfl)

theorem check_Make_spec : Vse.Spec P f_check_Make c_mMake :=
  spec_fn (l := [(f_check_may, c_may), (f_check_seal, c_seal)]) ⟨check_may_spec, check_seal_spec, trivial⟩ h_check_Make rfl rfl
    fun x h _ => body_ok an_none (check_Make_vc x.1 x.2.1 x.2.2.1 (got h)) (by kernel_rfl)

theorem check_Check_spec : Vse.Spec P f_check_Check c_mCheck :=
  spec_fn (l := [(f_check_may, c_may)]) ⟨check_may_spec, trivial⟩ h_check_Check rfl rfl fun x _ _ => body_ok an_none (check_Check_vc x.1) (by kernel_rfl)

theorem check_Sealed_spec : Vse.Spec P f_check_Sealed c_Sealed :=
  spec_fn (l := [(f_check_may, c_may), (f_check_seal, c_seal), (f_mac_Same, c_macSame)]) ⟨check_may_spec, check_seal_spec, mac_Same_spec, trivial⟩ h_check_Sealed rfl rfl
    fun x h _ => body_ok an_none (check_Sealed_vc x.1 x.2.1 (got h)) (by kernel_rfl)

theorem check_Bytes_spec : Vse.Spec P f_check_Bytes c_mBytes :=
  spec_fn (l := [(f_check_may, c_may), (f_check_body, c_mbody)]) ⟨check_may_spec, check_body_spec, trivial⟩ h_check_Bytes rfl rfl
    fun x _ ok => body_ok an_none (check_Bytes_vc x.1 ok.1.2.2.2.1.1 ok.1.2.2.2.2.1) (by kernel_rfl)

theorem check_number_spec : Vse.Spec P f_check_number c_mnum :=
  spec_fn (l := [(f_word_Read, c_Read)]) ⟨word_Read_spec, trivial⟩ h_check_number rfl rfl fun x _ _ => body_ok an_none (check_number_vc x.1) (by kernel_rfl)

theorem check_Parse_spec : Vse.Spec P f_check_Parse c_mParse :=
  spec_fn (l := [(f_check_number, c_mnum), (f_check_may, c_may)]) ⟨check_number_spec, check_may_spec, trivial⟩ h_check_Parse rfl rfl fun x _ _ => body_ok an_none (check_Parse_vc x.1) (by kernel_rfl)

theorem check_Has_spec : Vse.Spec P f_check_Has c_Has :=
  spec_fn (l := [(f_record_Walk, c_Walk)]) ⟨record_Walk_spec, trivial⟩ h_check_Has rfl rfl fun x _ _ => body_ok an_none (check_Has_vc x.1 x.2.1) (by kernel_rfl)

end Go.Sal
