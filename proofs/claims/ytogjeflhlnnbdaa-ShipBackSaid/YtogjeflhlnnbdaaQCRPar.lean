/- Contracts of ref13: the record of bytes, read loosely. -/
import Derived.Test.YtogjeflhlnnbdaaQCPse
import Derived.Test.YtogjeflhlnnbdaaQSalPar3
import Derived.Test.YtogjeflhlnnbdaaQSalChk4
set_option maxRecDepth 100000
namespace Go.Sal
open Go.Vse Go.Sal.Nm

abbrev T_Rdr : T := .pair (.slc .u8) .bool

def c_rtake : PC := M T_Rdr [.i64] [.slc .u8] (fun _ _ => none) (fun s x => (rT x.1 s, vT x.1 s, ()))
def c_rbyte : PC := M T_Rdr [] [.i64] (fun _ _ => none) (fun s _ => (rB s, vB s, ()))
def c_rnum : PC := M T_Rdr [] [.i64] (fun _ _ => none) (fun s _ => (rN s, vN s, ()))
def c_rdig : PC := M T_Rdr [] [T_Dig] (fun _ _ => none) (fun s _ => (rD s, vD s, ()))
def c_rParse : PC := D [.slc .u8] [T_Rec, .i64] (fun _ => none) (fun x => ((parseR x.1).1, (parseR x.1).2, ()))

theorem okTake_one (s : Bytes) : okTake 1 s = okByte s := by
  unfold okTake okByte
  rw [Bool.eq_iff_iff]
  simp only [Bool.and_eq_true, decide_eq_true_eq]
  omega
theorem okTake_dig (s : Bytes) : okTake 32 s = okDig s := by
  unfold okTake okDig
  rw [Bool.eq_iff_iff]
  simp only [Bool.and_eq_true, decide_eq_true_eq]
  omega
theorem vT1_len (s : Bytes) (bad : Bool) : 1 ≤ (vT 1 (s, bad)).length := by
  have ev : vT 1 (s, bad) = bif (!bad && okTake 1 s) then s.take 1 else zerosP 1 := rfl
  rw [ev]
  cases hb : (!bad && okTake 1 s) with
  | false => exact Nat.le_refl _
  | true =>
    rw [okTake_one] at hb
    simp only [Bool.and_eq_true] at hb
    have := of_decide_eq_true hb.2
    rw [cond_true, List.length_take]; omega
theorem rT1_eq (s : Bytes) (bad : Bool) : rT 1 (s, bad) = rB (s, bad) := by
  have er : rT 1 (s, bad) = bif (!bad && okTake 1 s) then (s.drop 1, false) else (s, true) := rfl
  rw [er, okTake_one]; rfl
theorem vT32_eq (s : Bytes) (bad : Bool) : (vT 32 (s, bad)).length = 32 ∧ vT 32 (s, bad) = vD (s, bad) := by
  have ev : vT 32 (s, bad) = bif (!bad && okTake 32 s) then s.take 32 else zerosP 32 := rfl
  have ed : vD (s, bad) = bif (!bad && okDig s) then valDig s else zero32 := rfl
  rw [ev, ed, okTake_dig]
  cases hb : (!bad && okDig s) with
  | false => exact ⟨rfl, rfl⟩
  | true =>
    simp only [Bool.and_eq_true] at hb
    have := of_decide_eq_true hb.2
    refine ⟨?_, rfl⟩
    rw [cond_true, List.length_take]; omega
theorem rT32_eq (s : Bytes) (bad : Bool) : rT 32 (s, bad) = rD (s, bad) := by
  have er : rT 32 (s, bad) = bif (!bad && okTake 32 s) then (s.drop 32, false) else (s, true) := rfl
  rw [er, okTake_dig]; rfl
theorem rP_len (q : RSt) : ∀ j, (rP q j).1.length = j
  | 0 => rfl
  | j + 1 => by simp [rP, rP_len q j]

theorem ref13_take_vc (s : Bytes) (bad : Bool) (n : Int) :
    ((bad || decide (n < 0) || decide (ofN (List.length s) < n)) = true →
        (max 0 (min n 300) = max 0 (min n 300) ∧ 0 ≤ max 0 (min n 300) ∧ max 0 (min n 300) ≤ ofN ROOM) ∧
          (Int.toNat (max 0 (min n 300)) ≤ Int.toNat (max 0 (min n 300)) ∧ List.take (Int.toNat (max 0 (min n 300))) (List.drop 0 (List.replicate (Int.toNat (max 0 (min n 300))) 0#8)) = vT n (s, bad)) ∧
            s = (rT n (s, bad)).1 ∧ true = (rT n (s, bad)).2) ∧
      ((bad || decide (n < 0) || decide (ofN (List.length s) < n)) = false →
        (0 ≤ n ∧ n ≤ ofN (List.length s)) ∧
          (0 ≤ n ∧ n ≤ ofN (List.length s)) ∧ List.drop 0 (List.take (Int.toNat n) s) = vT n (s, bad) ∧ List.drop (Int.toNat n) (List.take (List.length s) s) = (rT n (s, bad)).1 ∧ bad = (rT n (s, bad)).2) := by
  have hk : (!bad && okTake n s) = !(bad || decide (n < 0) || decide (ofN s.length < n)) := by
    cases bad with
    | true => rfl
    | false =>
      unfold okTake ofN
      rw [Bool.eq_iff_iff]
      simp only [Bool.not_false, Bool.true_and, Bool.and_eq_true, decide_eq_true_eq, Bool.false_or, Bool.not_eq_true', Bool.or_eq_false_iff, decide_eq_false_iff_not]
      omega
  have ev : vT n (s, bad) = bif (!bad && okTake n s) then s.take n.toNat else zerosP n := rfl
  have er : rT n (s, bad) = bif (!bad && okTake n s) then (s.drop n.toNat, false) else (s, true) := rfl
  rw [ev, er, hk]
  refine ⟨fun g => ?_, fun g => ?_⟩
  · rw [g]
    have h0 : (0 : Int) ≤ max 0 (min n 300) := Int.le_max_left _ _
    have h1 : max 0 (min n 300) ≤ (300 : Int) := Int.max_le.2 ⟨by decide, Int.min_le_right _ _⟩
    refine ⟨⟨rfl, h0, by unfold ofN ROOM; omega⟩, ⟨Nat.le_refl _, ?_⟩, rfl, rfl⟩
    rw [List.drop_zero, List.take_of_length_le (by simp)]
    rfl
  · rw [g]
    simp only [Bool.or_eq_false_iff, decide_eq_false_iff_not] at g
    have h : (0 : Int) ≤ n ∧ n ≤ ofN s.length := by omega
    refine ⟨h, h, by rw [List.drop_zero]; rfl, by rw [List.take_length]; rfl, g.1.1⟩

theorem ref13_byte_vc (s : Bytes) (bad : Bool) :
    within 0 (List.length (vT 1 (s, bad))) ∧ ofN (BitVec.toNat (List.getD (vT 1 (s, bad)) (Int.toNat 0) 0#8)) = vB (s, bad) ∧ (rT 1 (s, bad)).1 = (rB (s, bad)).1 ∧ (rT 1 (s, bad)).2 = (rB (s, bad)).2 := by
  have h1 := vT1_len s bad
  refine ⟨by unfold within; omega, ?_, congrArg Prod.fst (rT1_eq s bad), congrArg Prod.snd (rT1_eq s bad)⟩
  have ev : vT 1 (s, bad) = bif (!bad && okTake 1 s) then s.take 1 else zerosP 1 := rfl
  have eb : vB (s, bad) = bif (!bad && okByte s) then valByte s else 0 := rfl
  rw [ev, eb, okTake_one]
  cases hb : (!bad && okByte s) with
  | false => rfl
  | true =>
    simp only [Bool.and_eq_true] at hb
    have := of_decide_eq_true hb.2
    cases s with
    | nil => simp at this
    | cons a r => rfl

theorem ref13_num_vc (s : Bytes) (bad : Bool) :
    ((bad || ofN (readN s 0 0).2.2 != 0 || decide (1073741824#64 < BitVec.ofNat 64 (readN s 0 0).1)) = true → 0 = vN (s, bad) ∧ s = (rN (s, bad)).1 ∧ true = (rN (s, bad)).2) ∧
      ((bad || ofN (readN s 0 0).2.2 != 0 || decide (1073741824#64 < BitVec.ofNat 64 (readN s 0 0).1)) = false →
        (0 ≤ ofN (readN s 0 0).2.1 ∧ ofN (readN s 0 0).2.1 ≤ ofN (List.length s)) ∧
          BitVec.toInt (BitVec.setWidth 64 (BitVec.ofNat 64 (readN s 0 0).1)) = vN (s, bad) ∧
            List.drop (Int.toNat (ofN (readN s 0 0).2.1)) (List.take (List.length s) s) = (rN (s, bad)).1 ∧ bad = (rN (s, bad)).2) := by
  have hl := readP_le s 0 0
  have hk : (!bad && okNum s) = !(bad || ofN (readN s 0 0).2.2 != 0 || decide (1073741824#64 < BitVec.ofNat 64 (readN s 0 0).1)) := by
    cases bad with
    | true => rfl
    | false =>
      unfold okNum ofN
      rw [Bool.eq_iff_iff]
      simp only [Bool.not_false, Bool.true_and, Bool.and_eq_true, decide_eq_true_eq, Bool.false_or, Bool.not_eq_true', Bool.or_eq_false_iff, decide_eq_false_iff_not, bne_eq_false_iff_eq, BitVec.lt_def]
      have e : (1073741824#64).toNat = 1073741824 := rfl
      omega
  have ev : vN (s, bad) = bif (!bad && okNum s) then valNum s else 0 := rfl
  have er : rN (s, bad) = bif (!bad && okNum s) then (offNum s, false) else (s, true) := rfl
  rw [ev, er, hk]
  refine ⟨fun g => ?_, fun g => ?_⟩
  · rw [g]; exact ⟨rfl, rfl, rfl⟩
  · rw [g] at hk ⊢
    simp only [Bool.not_false, Bool.and_eq_true, Bool.not_eq_true'] at hk
    have h2 := hk.2
    unfold okNum at h2
    simp only [Bool.and_eq_true, decide_eq_true_eq] at h2
    refine ⟨by unfold ofN; omega, ?_, by rw [List.take_length]; rfl, hk.1⟩
    rw [BitVec.setWidth_eq, BitVec.toInt_eq_toNat_cond, if_pos (by omega)]
    rfl

def an_rdig (d : Bytes) : Nat → SState → Option LoopAnn
  | 4, S => some { X := Nat, slots := fun i => [(5, .sv (.dv (.i64 i)))], objs := fun i => [(x_labAt S 3, .cells [.run (.many .u8 32 (laidV d i))] false)], inv := fun i => i ≤ 32, meas := fun i => 32 - i }
  | _, _ => none

theorem ref13_dig_vc (s : Bytes) (bad : Bool) :
    (∃ (x : Nat), x ≤ 32 ∧ 0 = ofN x ∧ List.replicate 32 0#8 = laidV (vT 32 (s, bad)) x) ∧
      ∀ (x : Nat),
        x ≤ 32 →
          (decide (ofN x < 32) = true →
              within (ofN x) (List.length (vT 32 (s, bad))) ∧
                within (ofN x) 32 ∧
                  inI64 (ofN x + 1) ∧
                    ∃ (x' : Nat),
                      x' ≤ 32 ∧
                        32 - x' < 32 - x ∧ ofN x + 1 = ofN x' ∧ List.set (laidV (vT 32 (s, bad)) x) (Int.toNat (ofN x)) (List.getD (vT 32 (s, bad)) (Int.toNat (ofN x)) 0#8) = laidV (vT 32 (s, bad)) x') ∧
            (decide (ofN x < 32) = false → laidV (vT 32 (s, bad)) x = vD (s, bad) ∧ (rT 32 (s, bad)).1 = (rD (s, bad)).1 ∧ (rT 32 (s, bad)).2 = (rD (s, bad)).2) := by
  obtain ⟨h1, h2⟩ := vT32_eq s bad
  have h3 := rT32_eq s bad
  refine ⟨⟨0, by omega, rfl, rfl⟩, fun x hx => ⟨fun g => ?_, fun g => ?_⟩⟩
  · have g := of_decide_eq_true g
    have g : x < 32 := by unfold ofN at g; omega
    refine ⟨by unfold within ofN; omega, by unfold within ofN; omega, by unfold inI64 ofN; omega, x + 1, by omega, by omega, by unfold ofN; omega, laid_set (by omega) g rfl⟩
  · have g := of_decide_eq_false g
    have g : x = 32 := by unfold ofN at g; omega
    rw [g, laid_all, ← h2, List.take_of_length_le (by omega), h3]
    exact ⟨rfl, rfl, rfl⟩

def an_rparse (b : Bytes) : Nat → SState → Option LoopAnn
  | 15, S => some { X := Nat, slots := fun i => [(7, .sv (.dv (.i64 i)))], objs := fun i => [(x_labAt S 4, .cells (ofRuns (enc T_Rdr (rP (q8 b) i).2)) false), (x_labAt S 5, .cells [.run (.one (.i64 (vN (q2 b)))), .run (.one (.i64 (vN (q3 b)))), .run (.many .u8 32 (vD (q4 b))), .run (.one (.i64 (vB (q1 b)))), .run (.one (.i64 0)), .run (.one (.str (vT (vB (q5 b)) (q6 b)))), .own 10 T_Pie (rP (q8 b) i).1] false), (10, .tok t_api_Piece 33)], inv := fun i => ∀ j, j < i → goesP (q8 b) (vN (q7 b)) j = true, meas := fun i => 4098 - i }
  | _, _ => none

theorem ref13_Parse_vc (b : Bytes) :
    (decide (262144 < ofN (List.length b)) = true →
        (ofN 0 = (parseR b).1.1 ∧
            ofN 0 = (parseR b).1.2.1 ∧
              List.replicate 32 0#8 = (parseR b).1.2.2.1 ∧
                ofN 0 = (parseR b).1.2.2.2.1 ∧ ofN 0 = (parseR b).1.2.2.2.2.1 ∧ nilOf (BitVec 8) = (parseR b).1.2.2.2.2.2.1 ∧ nilOf (T.den (T.pair (T.arr 32 T.u8) T.i64)) = (parseR b).1.2.2.2.2.2.2) ∧
          2 = (parseR b).2) ∧
      (decide (262144 < ofN (List.length b)) = false →
        ((vB (rB (b, false)) == 1) = true →
            ((vB (rB (b, false)) == 2) = true →
                (∃ (x : Nat),
                    (∀ (j : Nat), j < x → goesP (q8 b) (vN (q7 b)) j = true) ∧
                      0 = ofN x ∧
                        ((rN (rB (rD (rN (rN (rB (rB (b, false)))))))).1 = (rP (q8 b) x).2.1 ∧ (rN (rB (rD (rN (rN (rB (rB (b, false)))))))).2 = (rP (q8 b) x).2.2) ∧
                          vN (rB (rB (b, false))) = vN (q2 b) ∧
                            vN (rN (rB (rB (b, false)))) = vN (q3 b) ∧
                              vD (rN (rN (rB (rB (b, false))))) = vD (q4 b) ∧
                                vB (rB (b, false)) = vB (q1 b) ∧
                                  vB (rD (rN (rN (rB (rB (b, false)))))) = 0 ∧ nilOf (BitVec 8) = vT (vB (q5 b)) (q6 b) ∧ (rP (q8 b) x).1 = nilOf (T.den (T.pair (T.arr 32 T.u8) T.i64))) ∧
                  ∀ (x : Nat),
                    (∀ (j : Nat), j < x → goesP (q8 b) (vN (q7 b)) j = true) →
                      ((decide (ofN x < vN (rB (rD (rN (rN (rB (rB (b, false)))))))) && decide (ofN x ≤ 4096) && !(rP (q8 b) x).2.2) = true →
                          List.length (rP (q8 b) x).1 + List.length [(vD (rN (rP (q8 b) x).2), vN (rP (q8 b) x).2)] ≤ ROOM ∧
                            inI64 (ofN x + 1) ∧
                              ∃ (x' : Nat),
                                (∀ (j : Nat), j < x' → goesP (q8 b) (vN (q7 b)) j = true) ∧
                                  4098 - x' < 4098 - x ∧
                                    ofN x + 1 = ofN x' ∧
                                      ((rD (rN (rP (q8 b) x).2)).1 = (rP (q8 b) x').2.1 ∧ (rD (rN (rP (q8 b) x).2)).2 = (rP (q8 b) x').2.2) ∧
                                        vN (q2 b) = vN (q2 b) ∧
                                          vN (q3 b) = vN (q3 b) ∧
                                            vD (q4 b) = vD (q4 b) ∧
                                              vB (q1 b) = vB (q1 b) ∧
                                                ofN 0 = 0 ∧ vT (vB (q5 b)) (q6 b) = vT (vB (q5 b)) (q6 b) ∧ (rP (q8 b) x).1 ++ [(vD (rN (rP (q8 b) x).2), vN (rP (q8 b) x).2)] = (rP (q8 b) x').1) ∧
                        ((decide (ofN x < vN (rB (rD (rN (rN (rB (rB (b, false)))))))) && decide (ofN x ≤ 4096) && !(rP (q8 b) x).2.2) = false →
                          (((rP (q8 b) x).2.2 || (bytesV (vN (q2 b), vN (q3 b), vD (q4 b), vB (q1 b), 0, vT (vB (q5 b)) (q6 b), (rP (q8 b) x).1)).2 != 0 ||
                                  (bytesV (vN (q2 b), vN (q3 b), vD (q4 b), vB (q1 b), 0, vT (vB (q5 b)) (q6 b), (rP (q8 b) x).1)).1 != b) =
                                true →
                              (ofN 0 = (parseR b).1.1 ∧
                                  ofN 0 = (parseR b).1.2.1 ∧
                                    List.replicate 32 0#8 = (parseR b).1.2.2.1 ∧
                                      ofN 0 = (parseR b).1.2.2.2.1 ∧
                                        ofN 0 = (parseR b).1.2.2.2.2.1 ∧ nilOf (BitVec 8) = (parseR b).1.2.2.2.2.2.1 ∧ nilOf (T.den (T.pair (T.arr 32 T.u8) T.i64)) = (parseR b).1.2.2.2.2.2.2) ∧
                                130 = (parseR b).2) ∧
                            (((rP (q8 b) x).2.2 || (bytesV (vN (q2 b), vN (q3 b), vD (q4 b), vB (q1 b), 0, vT (vB (q5 b)) (q6 b), (rP (q8 b) x).1)).2 != 0 ||
                                  (bytesV (vN (q2 b), vN (q3 b), vD (q4 b), vB (q1 b), 0, vT (vB (q5 b)) (q6 b), (rP (q8 b) x).1)).1 != b) =
                                false →
                              (vN (q2 b) = (parseR b).1.1 ∧
                                  vN (q3 b) = (parseR b).1.2.1 ∧
                                    vD (q4 b) = (parseR b).1.2.2.1 ∧
                                      vB (q1 b) = (parseR b).1.2.2.2.1 ∧ 0 = (parseR b).1.2.2.2.2.1 ∧ vT (vB (q5 b)) (q6 b) = (parseR b).1.2.2.2.2.2.1 ∧ (rP (q8 b) x).1 = (parseR b).1.2.2.2.2.2.2) ∧
                                0 = (parseR b).2))) ∧
              ((vB (rB (b, false)) == 2) = false →
                (((rB (rD (rN (rN (rB (rB (b, false))))))).2 ||
                          (bytesV
                                (vN (rB (rB (b, false))), vN (rN (rB (rB (b, false)))), vD (rN (rN (rB (rB (b, false))))), vB (rB (b, false)), vB (rD (rN (rN (rB (rB (b, false)))))), nilOf (BitVec 8),
                                  nilOf (T.den (T.pair (T.arr 32 T.u8) T.i64)))).2 !=
                            0 ||
                        (bytesV
                              (vN (rB (rB (b, false))), vN (rN (rB (rB (b, false)))), vD (rN (rN (rB (rB (b, false))))), vB (rB (b, false)), vB (rD (rN (rN (rB (rB (b, false)))))), nilOf (BitVec 8),
                                nilOf (T.den (T.pair (T.arr 32 T.u8) T.i64)))).1 !=
                          b) =
                      true →
                    (ofN 0 = (parseR b).1.1 ∧
                        ofN 0 = (parseR b).1.2.1 ∧
                          List.replicate 32 0#8 = (parseR b).1.2.2.1 ∧
                            ofN 0 = (parseR b).1.2.2.2.1 ∧
                              ofN 0 = (parseR b).1.2.2.2.2.1 ∧ nilOf (BitVec 8) = (parseR b).1.2.2.2.2.2.1 ∧ nilOf (T.den (T.pair (T.arr 32 T.u8) T.i64)) = (parseR b).1.2.2.2.2.2.2) ∧
                      130 = (parseR b).2) ∧
                  (((rB (rD (rN (rN (rB (rB (b, false))))))).2 ||
                          (bytesV
                                (vN (rB (rB (b, false))), vN (rN (rB (rB (b, false)))), vD (rN (rN (rB (rB (b, false))))), vB (rB (b, false)), vB (rD (rN (rN (rB (rB (b, false)))))), nilOf (BitVec 8),
                                  nilOf (T.den (T.pair (T.arr 32 T.u8) T.i64)))).2 !=
                            0 ||
                        (bytesV
                              (vN (rB (rB (b, false))), vN (rN (rB (rB (b, false)))), vD (rN (rN (rB (rB (b, false))))), vB (rB (b, false)), vB (rD (rN (rN (rB (rB (b, false)))))), nilOf (BitVec 8),
                                nilOf (T.den (T.pair (T.arr 32 T.u8) T.i64)))).1 !=
                          b) =
                      false →
                    (vN (rB (rB (b, false))) = (parseR b).1.1 ∧
                        vN (rN (rB (rB (b, false)))) = (parseR b).1.2.1 ∧
                          vD (rN (rN (rB (rB (b, false))))) = (parseR b).1.2.2.1 ∧
                            vB (rB (b, false)) = (parseR b).1.2.2.2.1 ∧
                              vB (rD (rN (rN (rB (rB (b, false)))))) = (parseR b).1.2.2.2.2.1 ∧
                                nilOf (BitVec 8) = (parseR b).1.2.2.2.2.2.1 ∧ nilOf (T.den (T.pair (T.arr 32 T.u8) T.i64)) = (parseR b).1.2.2.2.2.2.2) ∧
                      0 = (parseR b).2))) ∧
          ((vB (rB (b, false)) == 1) = false →
            ((vB (rB (b, false)) == 2) = true →
                (∃ (x : Nat),
                    (∀ (j : Nat), j < x → goesP (q8 b) (vN (q7 b)) j = true) ∧
                      0 = ofN x ∧
                        ((rN (rT (vB (rD (rN (rN (rB (rB (b, false))))))) (rB (rD (rN (rN (rB (rB (b, false))))))))).1 = (rP (q8 b) x).2.1 ∧
                            (rN (rT (vB (rD (rN (rN (rB (rB (b, false))))))) (rB (rD (rN (rN (rB (rB (b, false))))))))).2 = (rP (q8 b) x).2.2) ∧
                          vN (rB (rB (b, false))) = vN (q2 b) ∧
                            vN (rN (rB (rB (b, false)))) = vN (q3 b) ∧
                              vD (rN (rN (rB (rB (b, false))))) = vD (q4 b) ∧
                                vB (rB (b, false)) = vB (q1 b) ∧
                                  ofN 0 = 0 ∧
                                    vT (vB (rD (rN (rN (rB (rB (b, false))))))) (rB (rD (rN (rN (rB (rB (b, false))))))) = vT (vB (q5 b)) (q6 b) ∧
                                      (rP (q8 b) x).1 = nilOf (T.den (T.pair (T.arr 32 T.u8) T.i64))) ∧
                  ∀ (x : Nat),
                    (∀ (j : Nat), j < x → goesP (q8 b) (vN (q7 b)) j = true) →
                      ((decide (ofN x < vN (rT (vB (rD (rN (rN (rB (rB (b, false))))))) (rB (rD (rN (rN (rB (rB (b, false))))))))) && decide (ofN x ≤ 4096) && !(rP (q8 b) x).2.2) = true →
                          List.length (rP (q8 b) x).1 + List.length [(vD (rN (rP (q8 b) x).2), vN (rP (q8 b) x).2)] ≤ ROOM ∧
                            inI64 (ofN x + 1) ∧
                              ∃ (x' : Nat),
                                (∀ (j : Nat), j < x' → goesP (q8 b) (vN (q7 b)) j = true) ∧
                                  4098 - x' < 4098 - x ∧
                                    ofN x + 1 = ofN x' ∧
                                      ((rD (rN (rP (q8 b) x).2)).1 = (rP (q8 b) x').2.1 ∧ (rD (rN (rP (q8 b) x).2)).2 = (rP (q8 b) x').2.2) ∧
                                        vN (q2 b) = vN (q2 b) ∧
                                          vN (q3 b) = vN (q3 b) ∧
                                            vD (q4 b) = vD (q4 b) ∧
                                              vB (q1 b) = vB (q1 b) ∧
                                                ofN 0 = 0 ∧ vT (vB (q5 b)) (q6 b) = vT (vB (q5 b)) (q6 b) ∧ (rP (q8 b) x).1 ++ [(vD (rN (rP (q8 b) x).2), vN (rP (q8 b) x).2)] = (rP (q8 b) x').1) ∧
                        ((decide (ofN x < vN (rT (vB (rD (rN (rN (rB (rB (b, false))))))) (rB (rD (rN (rN (rB (rB (b, false))))))))) && decide (ofN x ≤ 4096) && !(rP (q8 b) x).2.2) = false →
                          (((rP (q8 b) x).2.2 || (bytesV (vN (q2 b), vN (q3 b), vD (q4 b), vB (q1 b), 0, vT (vB (q5 b)) (q6 b), (rP (q8 b) x).1)).2 != 0 ||
                                  (bytesV (vN (q2 b), vN (q3 b), vD (q4 b), vB (q1 b), 0, vT (vB (q5 b)) (q6 b), (rP (q8 b) x).1)).1 != b) =
                                true →
                              (ofN 0 = (parseR b).1.1 ∧
                                  ofN 0 = (parseR b).1.2.1 ∧
                                    List.replicate 32 0#8 = (parseR b).1.2.2.1 ∧
                                      ofN 0 = (parseR b).1.2.2.2.1 ∧
                                        ofN 0 = (parseR b).1.2.2.2.2.1 ∧ nilOf (BitVec 8) = (parseR b).1.2.2.2.2.2.1 ∧ nilOf (T.den (T.pair (T.arr 32 T.u8) T.i64)) = (parseR b).1.2.2.2.2.2.2) ∧
                                130 = (parseR b).2) ∧
                            (((rP (q8 b) x).2.2 || (bytesV (vN (q2 b), vN (q3 b), vD (q4 b), vB (q1 b), 0, vT (vB (q5 b)) (q6 b), (rP (q8 b) x).1)).2 != 0 ||
                                  (bytesV (vN (q2 b), vN (q3 b), vD (q4 b), vB (q1 b), 0, vT (vB (q5 b)) (q6 b), (rP (q8 b) x).1)).1 != b) =
                                false →
                              (vN (q2 b) = (parseR b).1.1 ∧
                                  vN (q3 b) = (parseR b).1.2.1 ∧
                                    vD (q4 b) = (parseR b).1.2.2.1 ∧
                                      vB (q1 b) = (parseR b).1.2.2.2.1 ∧ 0 = (parseR b).1.2.2.2.2.1 ∧ vT (vB (q5 b)) (q6 b) = (parseR b).1.2.2.2.2.2.1 ∧ (rP (q8 b) x).1 = (parseR b).1.2.2.2.2.2.2) ∧
                                0 = (parseR b).2))) ∧
              ((vB (rB (b, false)) == 2) = false →
                (((rT (vB (rD (rN (rN (rB (rB (b, false))))))) (rB (rD (rN (rN (rB (rB (b, false)))))))).2 ||
                          (bytesV
                                (vN (rB (rB (b, false))), vN (rN (rB (rB (b, false)))), vD (rN (rN (rB (rB (b, false))))), vB (rB (b, false)), ofN 0,
                                  vT (vB (rD (rN (rN (rB (rB (b, false))))))) (rB (rD (rN (rN (rB (rB (b, false))))))), nilOf (T.den (T.pair (T.arr 32 T.u8) T.i64)))).2 !=
                            0 ||
                        (bytesV
                              (vN (rB (rB (b, false))), vN (rN (rB (rB (b, false)))), vD (rN (rN (rB (rB (b, false))))), vB (rB (b, false)), ofN 0,
                                vT (vB (rD (rN (rN (rB (rB (b, false))))))) (rB (rD (rN (rN (rB (rB (b, false))))))), nilOf (T.den (T.pair (T.arr 32 T.u8) T.i64)))).1 !=
                          b) =
                      true →
                    (ofN 0 = (parseR b).1.1 ∧
                        ofN 0 = (parseR b).1.2.1 ∧
                          List.replicate 32 0#8 = (parseR b).1.2.2.1 ∧
                            ofN 0 = (parseR b).1.2.2.2.1 ∧
                              ofN 0 = (parseR b).1.2.2.2.2.1 ∧ nilOf (BitVec 8) = (parseR b).1.2.2.2.2.2.1 ∧ nilOf (T.den (T.pair (T.arr 32 T.u8) T.i64)) = (parseR b).1.2.2.2.2.2.2) ∧
                      130 = (parseR b).2) ∧
                  (((rT (vB (rD (rN (rN (rB (rB (b, false))))))) (rB (rD (rN (rN (rB (rB (b, false)))))))).2 ||
                          (bytesV
                                (vN (rB (rB (b, false))), vN (rN (rB (rB (b, false)))), vD (rN (rN (rB (rB (b, false))))), vB (rB (b, false)), ofN 0,
                                  vT (vB (rD (rN (rN (rB (rB (b, false))))))) (rB (rD (rN (rN (rB (rB (b, false))))))), nilOf (T.den (T.pair (T.arr 32 T.u8) T.i64)))).2 !=
                            0 ||
                        (bytesV
                              (vN (rB (rB (b, false))), vN (rN (rB (rB (b, false)))), vD (rN (rN (rB (rB (b, false))))), vB (rB (b, false)), ofN 0,
                                vT (vB (rD (rN (rN (rB (rB (b, false))))))) (rB (rD (rN (rN (rB (rB (b, false))))))), nilOf (T.den (T.pair (T.arr 32 T.u8) T.i64)))).1 !=
                          b) =
                      false →
                    (vN (rB (rB (b, false))) = (parseR b).1.1 ∧
                        vN (rN (rB (rB (b, false)))) = (parseR b).1.2.1 ∧
                          vD (rN (rN (rB (rB (b, false))))) = (parseR b).1.2.2.1 ∧
                            vB (rB (b, false)) = (parseR b).1.2.2.2.1 ∧
                              ofN 0 = (parseR b).1.2.2.2.2.1 ∧
                                vT (vB (rD (rN (rN (rB (rB (b, false))))))) (rB (rD (rN (rN (rB (rB (b, false))))))) = (parseR b).1.2.2.2.2.2.1 ∧
                                  nilOf (T.den (T.pair (T.arr 32 T.u8) T.i64)) = (parseR b).1.2.2.2.2.2.2) ∧
                      0 = (parseR b).2)))) := by
  have ans : ∀ {r : Rec} {e : Int}, parseR b = (r, e) → (r.1 = (parseR b).1.1 ∧ r.2.1 = (parseR b).1.2.1 ∧ r.2.2.1 = (parseR b).1.2.2.1 ∧ r.2.2.2.1 = (parseR b).1.2.2.2.1 ∧ r.2.2.2.2.1 = (parseR b).1.2.2.2.2.1 ∧ r.2.2.2.2.2.1 = (parseR b).1.2.2.2.2.2.1 ∧ r.2.2.2.2.2.2 = (parseR b).1.2.2.2.2.2.2) ∧ e = (parseR b).2 := fun h => by
    rw [h]; exact ⟨⟨rfl, rfl, rfl, rfl, rfl, rfl, rfl⟩, rfl⟩
  refine ⟨fun g => ?_, fun g => ?_⟩
  · have g := of_decide_eq_true g
    exact ans (r := rec0) (e := 2) (by unfold parseR; rw [if_neg (by unfold ofN at g; omega)])
  have g := of_decide_eq_false g
  have hlen : b.length ≤ 262144 := by unfold ofN at g; omega
  have fin : ∀ {X : Rec} {q : Bool}, recR b = X → (q9 b).2 = q → ((q || (bytesV X).2 != 0 || (bytesV X).1 != b) = true → parseR b = (rec0, 130)) ∧ ((q || (bytesV X).2 != 0 || (bytesV X).1 != b) = false → parseR b = (X, 0)) := by
    rintro X q rfl rfl
    refine ⟨fun h => ?_, fun h => ?_⟩
    · unfold parseR
      rw [if_pos hlen, if_neg (fun hh => ?_)]
      rw [hh.1, congrArg Prod.snd hh.2, congrArg Prod.fst hh.2] at h
      simp at h
    · simp only [Bool.or_eq_false_iff, bne_eq_false_iff_eq] at h
      unfold parseR
      rw [if_pos hlen, if_pos ⟨h.1.1, Prod.ext h.2 h.1.2⟩]
  refine ⟨fun k1 => ⟨fun k2 => ?_, fun k2 => ?_⟩, fun k1 => ⟨fun k2 => ?_, fun k2 => ?_⟩⟩
  · have e1 := eqI k1
    have e2 := eqI k2
    rw [e1] at e2; cases e2
  · have e1 : vB (q1 b) = 1 := eqI k1
    have e2 : ¬ vB (q1 b) = 2 := neI k2
    have hX : recR b = (vN (q2 b), vN (q3 b), vD (q4 b), vB (q1 b), vB (q5 b), [], []) := by
      unfold recR; rw [decide_eq_true e1, decide_eq_false e2]; rfl
    have hq : (q9 b).2 = (q6 b).2 := by
      unfold q9 q7; rw [decide_eq_true e1, decide_eq_false e2]; rfl
    exact ⟨fun h => ans (r := rec0) (e := 130) ((fin hX hq).1 h), fun h => ans ((fin hX hq).2 h)⟩
  · have e1 : ¬ vB (q1 b) = 1 := neI k1
    have e2 : vB (q1 b) = 2 := eqI k2
    have e7 : q7 b = rT (vB (q5 b)) (q6 b) := by unfold q7; rw [decide_eq_false e1]; rfl
    have e8 : q8 b = rN (rT (vB (q5 b)) (q6 b)) := by unfold q8; rw [e7]
    have ec : vN (rT (vB (q5 b)) (q6 b)) = vN (q7 b) := by rw [e7]
    refine ⟨⟨0, fun j hj => absurd hj (Nat.not_lt_zero _), rfl, ⟨congrArg Prod.fst e8.symm, congrArg Prod.snd e8.symm⟩, rfl, rfl, rfl, rfl, rfl, rfl, rfl⟩, fun x hx => ⟨fun c => ?_, fun c => ?_⟩⟩
    · have c' : goesP (q8 b) (vN (q7 b)) x = true := by rw [← ec]; exact c
      have hc := c'
      unfold goesP at hc
      simp only [Bool.and_eq_true, decide_eq_true_eq] at hc
      have hle := hc.1.2
      have hlp := rP_len (q8 b) x
      refine ⟨by rw [hlp]; simp only [List.length_cons, List.length_nil]; unfold ROOM; omega, by unfold inI64 ofN; omega, x + 1, fun j hj => ?_, by omega, rfl, ⟨rfl, rfl⟩, rfl, rfl, rfl, rfl, rfl, rfl, rfl⟩
      rcases Nat.lt_or_ge j x with h | h
      · exact hx j h
      · rw [show j = x by omega]; exact c'
    · have c' : goesP (q8 b) (vN (q7 b)) x = false := by rw [← ec]; exact c
      have he := endP_eq hx c'
      have hX : recR b = (vN (q2 b), vN (q3 b), vD (q4 b), vB (q1 b), 0, vT (vB (q5 b)) (q6 b), (rP (q8 b) x).1) := by
        unfold recR; rw [decide_eq_false e1, decide_eq_true e2, he]; rfl
      have hq : (q9 b).2 = (rP (q8 b) x).2.2 := by
        unfold q9; rw [decide_eq_true e2, he]; rfl
      exact ⟨fun h => ans (r := rec0) (e := 130) ((fin hX hq).1 h), fun h => ans ((fin hX hq).2 h)⟩
  · have e1 : ¬ vB (q1 b) = 1 := neI k1
    have e2 : ¬ vB (q1 b) = 2 := neI k2
    have hX : recR b = (vN (q2 b), vN (q3 b), vD (q4 b), vB (q1 b), 0, vT (vB (q5 b)) (q6 b), []) := by
      unfold recR; rw [decide_eq_false e1, decide_eq_false e2]; rfl
    have hq : (q9 b).2 = (rT (vB (q5 b)) (q6 b)).2 := by
      unfold q9 q7; rw [decide_eq_false e1, decide_eq_false e2]; rfl
    exact ⟨fun h => ans (r := rec0) (e := 130) ((fin hX hq).1 h), fun h => ans ((fin hX hq).2 h)⟩

theorem ref13_take_spec : Vse.Spec P f_ref13_Reader_take c_rtake :=
  spec_mt (l := []) trivial h_ref13_Reader_take rfl rfl fun s x _ _ _ => body_ok an_none (ref13_take_vc s.1 s.2 x.1) (by kernel_rfl)

theorem ref13_byte_spec : Vse.Spec P f_ref13_Reader_byte c_rbyte :=
  spec_mt (l := [(f_ref13_Reader_take, c_rtake)]) ⟨ref13_take_spec, trivial⟩ h_ref13_Reader_byte rfl rfl fun s _ _ _ _ => body_ok an_none (ref13_byte_vc s.1 s.2) (by kernel_rfl)

theorem ref13_num_spec : Vse.Spec P f_ref13_Reader_number c_rnum :=
  spec_mt (l := [(f_ref01_Read, c_Read)]) ⟨ref01_Read_spec, trivial⟩ h_ref13_Reader_number rfl rfl fun s _ _ _ _ => body_ok an_none (ref13_num_vc s.1 s.2) (by kernel_rfl)

theorem ref13_dig_spec : Vse.Spec P f_ref13_Reader_digest c_rdig :=
  spec_mt (l := [(f_ref13_Reader_take, c_rtake)]) ⟨ref13_take_spec, trivial⟩ h_ref13_Reader_digest rfl rfl fun s _ _ _ _ => body_ok (an_rdig (vT 32 s)) (ref13_dig_vc s.1 s.2) (by kernel_rfl)

theorem ref13_Parse_spec : Vse.Spec P f_ref13_Parse c_rParse :=
  spec_fn (l := [(f_ref13_Reader_byte, c_rbyte), (f_ref13_Reader_number, c_rnum), (f_ref13_Reader_digest, c_rdig), (f_ref13_Reader_take, c_rtake), (f_ref13_Bytes, c_Bytes)])
    ⟨ref13_byte_spec, ref13_num_spec, ref13_dig_spec, ref13_take_spec, ref13_Bytes_spec, trivial⟩ h_ref13_Parse rfl rfl fun x _ _ => body_ok (an_rparse x.1) (ref13_Parse_vc x.1) (by kernel_rfl)

end Go.Sal
