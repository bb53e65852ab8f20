/- NamesSlices: the parts of some bytes of a file are just these bytes. -/
import Derived.Test.YtmjkknlkgkjigaaQCNam2
set_option maxRecDepth 100000
namespace Go.Sal
open Go.Vse Go.Sal.Nm

def c_lw15 (ts : List T) : PC := D ts [.bool] (fun _ => none) (fun _ => (true, ()))
def an_Al : Ann := { at_ := fun _ _ => none, prune := 1 }
def pieceAt (sizes : List (BitVec 16)) (i : Nat) : Pie := (List.set (List.replicate 32 0#8) 0 (BitVec.ofInt 8 (i : Int)), 1 + Int.tmod ((sizes.getD i 0#16).toNat : Int) 40)
def piecesK (sizes : List (BitVec 16)) (k : Nat) : List Pie := (List.range k).map (pieceAt sizes)
def x_lab (S : SState) (t : Nat) : Nat :=
  match S.get t with
  | .sv (.ref (.row l)) => l
  | _ => 0
def x_by15 (S : SState) (t : Nat) : List (BitVec 8) :=
  match S.get t with
  | .sv (.ref (.row l)) => (match Go.Vse.look l S.hp with
    | .row _ _ .u8 xs _ => xs
    | _ => [])
  | _ => []
def x_pi (S : SState) (t : Nat) : List Pie :=
  match S.get t with
  | .sv (.own _ (.pair (.arr 32 .u8) .i64) xs) => xs
  | _ => []
def recF (l : List Pie) : Rec := (1, 1, List.replicate 32 0#8, 2, 0, [102#8], l)
def slSV (l : List Pie) : Fil × Int := statV (ofK [recF l] 1) [102#8]
def slP (l : List Pie) (from_ size : Int) : List Part := seekP (slSV l).1 (slSV l).2 from_ size
def gotI (file : List (BitVec 8)) (l : List Pie) (parts : List Part) (from_ size : Int) (s : Nat × List (BitVec 8)) : Prop :=
  s.1 ≤ parts.length ∧ s.2 = (file.drop from_.toNat).take (min (from_ + size) (sumN l (upV (endsK l l.length) from_ + s.1)) - from_).toNat
def an_SlL (sizes : List (BitVec 16)) (from_ size : Int) : Nat → SState → Option LoopAnn
  | 4, S => some { X := Nat, slots := fun k => [(11, .sv (.dv (.i64 (ofN k)))), (10, .sv (.dv (.i64 (sumN (piecesK sizes k) k)))), (9, .sv (.own 10 T_Pie (piecesK sizes k)))], objs := fun _ => [(10, .tok t_api_Piece 33), (x_tok S 9, .gone)], inv := fun k => k ≤ sizes.length ∧ k ≤ 12, meas := fun k => sizes.length - k }
  | 11, S => some { X := Nat × List (BitVec 8), slots := fun s => [(14, .sv (.dv (.i64 (ofN s.1))))], objs := fun s => [(x_lab S 13, .row t_uint8 1 .u8 s.2 false)], inv := fun s => s.1 ≤ (x_nat S 10).toNat ∧ s.2.length = (x_nat S 10).toNat, meas := fun s => (x_nat S 10).toNat - s.1 }
  | 22, S => some { X := Nat × List (BitVec 8), slots := fun s => [(21, .sv (.dv (.i64 (ofN s.1)))), (20, .sv (.own 11 .u8 s.2))], objs := fun _ => [(11, .tok t_uint8 1), (x_lab S 13, .row t_uint8 1 .u8 (x_by15 S 13) true), (x_tok S 20, .gone)], inv := fun s => gotI (x_by15 S 13) (x_pi S 9) (partsV (x_pi S 9) from_ size) from_ size s, meas := fun s => (partsV (x_pi S 9) from_ size).length - s.1 }
  | 27, S => some { X := Nat, slots := fun j => [(24, .sv (.dv (.i64 (ofN j)))), (23, .sv (.dv (.i64 (sumN (x_pi S 9) j))))], objs := fun _ => [], inv := fun j => j ≤ (x_pi S 9).length ∧ (j : Int) ≤ max (x_nat S 22) 0, meas := fun j => (x_pi S 9).length - j }
  | _, _ => none
def an_Sl (sizes : List (BitVec 16)) (from_ size : Int) : Ann := { at_ := an_SlL sizes from_ size, prune := 1, rows := [1013] }

theorem law15_alive_vc :
    (ofOk [fileR] ∧ List.length [fileR] ≤ 1000000) ∧
      (false = true → false = true) ∧
        (false = false →
          okF (ofK [fileR] (List.length [fileR])) ∧
            okF (ofK [fileR] (List.length [fileR])) ∧
              (true = true →
                  within 0
                    (List.length (seekP (statV (ofK [fileR] (List.length [fileR])) (List.map UInt8.toBitVec [97])).1 (statV (ofK [fileR] (List.length [fileR])) (List.map UInt8.toBitVec [97])).2 2 4))) ∧
                (true = true →
                    within 0
                      (List.length (seekP (statV (ofK [fileR] (List.length [fileR])) (List.map UInt8.toBitVec [97])).1 (statV (ofK [fileR] (List.length [fileR])) (List.map UInt8.toBitVec [97])).2 2 4))) ∧
                  (true = true →
                      within 1
                        (List.length
                          (seekP (statV (ofK [fileR] (List.length [fileR])) (List.map UInt8.toBitVec [97])).1 (statV (ofK [fileR] (List.length [fileR])) (List.map UInt8.toBitVec [97])).2 2 4))) ∧
                    (true = true →
                        within 1
                          (List.length
                            (seekP (statV (ofK [fileR] (List.length [fileR])) (List.map UInt8.toBitVec [97])).1 (statV (ofK [fileR] (List.length [fileR])) (List.map UInt8.toBitVec [97])).2 2 4))) ∧
                      true = true) := by
  have h0 : sizeV fileR.2.2.2.2.2.2 = (10, 0) := rfl
  have hm : mayV [] fileR = 0 := rfl
  have hs : seekP (statV (ofK [fileR] (List.length [fileR])) (List.map UInt8.toBitVec [97])).1 (statV (ofK [fileR] (List.length [fileR])) (List.map UInt8.toBitVec [97])).2 2 4 = [(List.replicate 32 0#8, 3, 2, 3), (List.replicate 32 0#8, 5, 0, 3)] := rfl
  rw [hs]
  refine ⟨⟨fun k hk => ?_, by decide⟩, fun q => q, fun _ => ⟨ofK_ok _ _, ofK_ok _ _, fun _ => ⟨by decide, by decide⟩, fun _ => ⟨by decide, by decide⟩, fun _ => ⟨by decide, by decide⟩, fun _ => ⟨by decide, by decide⟩, rfl⟩⟩
  have : k = 0 := by simp at hk; omega
  subst this
  exact hm

theorem mid15 (n : Nat) : 0 ≤ Int.tmod (n : Int) 40 ∧ Int.tmod (n : Int) 40 < 40 := ⟨Int.tmod_nonneg _ (Int.natCast_nonneg n), Int.tmod_lt_of_pos _ (by decide)⟩
theorem piecesK_len (sizes : List (BitVec 16)) (k : Nat) : (piecesK sizes k).length = k := by unfold piecesK; rw [List.length_map, List.length_range]
theorem piecesK_get (sizes : List (BitVec 16)) {k i : Nat} (h : i < k) : (piecesK sizes k)[i]'(by rw [piecesK_len]; exact h) = pieceAt sizes i := by
  unfold piecesK; simp
theorem piecesK_succ (sizes : List (BitVec 16)) (k : Nat) : piecesK sizes (k + 1) = piecesK sizes k ++ [pieceAt sizes k] := by
  unfold piecesK; rw [List.range_succ, List.map_append]; rfl
theorem pieceAt_ok (sizes : List (BitVec 16)) (i : Nat) : okPie (pieceAt sizes i) = true := by
  have h := mid15 (sizes.getD i 0#16).toNat
  have h1 : (1 : Int) ≤ 1 + Int.tmod ((sizes.getD i 0#16).toNat : Int) 40 := by omega
  have h2 : 1 + Int.tmod ((sizes.getD i 0#16).toNat : Int) 40 ≤ (4096 : Int) := by omega
  show (decide ((1 : Int) ≤ 1 + Int.tmod ((sizes.getD i 0#16).toNat : Int) 40) && decide (1 + Int.tmod ((sizes.getD i 0#16).toNat : Int) 40 ≤ (4096 : Int))) = true
  rw [decide_eq_true h1, decide_eq_true h2]; rfl
theorem piecesK_ok (sizes : List (BitVec 16)) (k : Nat) : (piecesK sizes k).all okPie = true := by
  rw [List.all_eq_true]
  intro p hp
  unfold piecesK at hp
  obtain ⟨i, _, rfl⟩ := List.mem_map.1 hp
  exact pieceAt_ok sizes i
theorem piecesK_size (sizes : List (BitVec 16)) {k : Nat} (h : k ≤ 12) : sizeV (piecesK sizes k) = (sumP (piecesK sizes k), 0) := by
  have h1 := sumP_le (piecesK_ok sizes k)
  rw [piecesK_len] at h1
  unfold sizeV
  rw [if_pos ⟨by rw [piecesK_len]; omega, piecesK_ok sizes k, by omega⟩]
theorem recF_check {l : List Pie} (h : sizeV l = (sumP l, 0)) : checkV (recF l) = 0 := by
  have hf : fitsV (recF l) = true := by
    unfold fitsV
    rw [if_neg (by show ¬ (2 : Int) = 1; decide), if_neg (by show ¬ (2 : Int) = 3; decide), if_pos (by show (2 : Int) = 2; rfl)]
    show ((0 : Int) == 0 && isPath [102#8] && (sizeV l).2 == 0) = true
    rw [h]; rfl
  unfold checkV
  rw [if_pos ⟨by show (1 : Int) ≤ 1; decide, by show (1 : Int) ≤ 1073741824; decide, by show (1 : Int) ≤ 1; decide, by show (1 : Int) ≤ 1073741824; decide, hf⟩]
theorem recF_may {l : List Pie} (h : sizeV l = (sumP l, 0)) : mayV [] (recF l) = 0 := by
  unfold mayV
  rw [recF_check h]; rfl
theorem recF_ok {l : List Pie} (h : sizeV l = (sumP l, 0)) : ofOk [recF l] := fun k hk => by
  have : k = 0 := by simp at hk; omega
  subst this
  exact recF_may h
theorem recF_stat {l : List Pie} (h : sizeV l = (sumP l, 0)) : statV (ofK [recF l] 1) [102#8] = (([102#8], sumP l, 1, l), 0) := by
  have e : ofK [recF l] 1 = [([102#8], fileOf (recF l))] := by
    show applyV [] (recF l) = _
    unfold applyV
    rw [recF_may h]; rfl
  rw [e]
  unfold statV
  have hg : mget .str [([102#8], fileOf (recF l))] [102#8] = some (fileOf (recF l)) := by
    rw [mget_consS, if_pos rfl]
  rw [hg]
  show (fileOf (recF l), (0 : Int)) = _
  unfold fileOf
  show (([102#8], (sizeV l).1, (1 : Int), l), (0 : Int)) = _
  rw [h]
theorem partsL_spec {l : List Pie} {from_ to_ : Int} : ∀ (n i : Nat), i + n = l.length →
    (∀ t, t < (partsL (sumN l i) from_ to_ (l.drop i)).length → ∃ h : i + t < l.length, sumN l (i + t) < to_ ∧ (partsL (sumN l i) from_ to_ (l.drop i)).getD t T_Part.dflt = (l[i + t].1, l[i + t].2, max (from_ - sumN l (i + t)) 0, min (to_ - sumN l (i + t)) l[i + t].2)) ∧
    (i + (partsL (sumN l i) from_ to_ (l.drop i)).length = l.length ∨ to_ ≤ sumN l (i + (partsL (sumN l i) from_ to_ (l.drop i)).length))
  | 0, i, h => by
    have hi : i = l.length := by omega
    subst hi
    rw [List.drop_length]
    exact ⟨fun t ht => absurd ht (Nat.not_lt_zero _), .inl rfl⟩
  | n + 1, i, h => by
    have hi : i < l.length := by omega
    obtain ⟨ih1, ih2⟩ := partsL_spec (l := l) (from_ := from_) (to_ := to_) n (i + 1) (by omega)
    have hS : sumN l (i + 1) = sumN l i + (l[i]).2 := by
      rw [sumN_succ hi]; simp [List.getD, hi]
    rw [List.drop_eq_getElem_cons hi]
    cases hd : decide (to_ ≤ sumN l i) with
    | true =>
      have e : partsL (sumN l i) from_ to_ (l[i] :: l.drop (i + 1)) = [] := by
        show (bif decide (to_ ≤ sumN l i) then [] else _) = _
        rw [hd]; rfl
      rw [e]
      exact ⟨fun t ht => absurd ht (Nat.not_lt_zero _), .inr (of_decide_eq_true hd)⟩
    | false =>
      have e : partsL (sumN l i) from_ to_ (l[i] :: l.drop (i + 1)) = (l[i].1, l[i].2, max (from_ - sumN l i) 0, min (to_ - sumN l i) l[i].2) :: partsL (sumN l (i + 1)) from_ to_ (l.drop (i + 1)) := by
        show (bif decide (to_ ≤ sumN l i) then [] else _) = _
        rw [hd, hS]; rfl
      rw [e]
      refine ⟨fun t ht => ?_, ?_⟩
      · cases t with
        | zero => exact ⟨hi, by have := of_decide_eq_false hd; show sumN l (i + 0) < to_; rw [Nat.add_zero]; omega, rfl⟩
        | succ t =>
          obtain ⟨h1, h2, h3⟩ := ih1 t (by simp at ht; omega)
          have e1 : i + 1 + t = i + (t + 1) := by omega
          simp only [e1] at h1 h2 h3
          exact ⟨h1, h2, h3⟩
      · rw [List.length_cons]
        have e1 : ∀ m, i + (m + 1) = i + 1 + m := fun m => by omega
        rw [e1]
        exact ih2
theorem seg_eq (f : List (BitVec 8)) {a b c : Nat} (h1 : c ≤ a) (h2 : a ≤ b) : (f.drop c).take (a - c) ++ (f.take b).drop a = (f.drop c).take (b - c) := by
  have e1 : (f.take b).drop a = ((f.drop c).drop (a - c)).take (b - c - (a - c)) := by
    rw [List.drop_take, List.drop_drop]
    congr 1
    · omega
    · congr 1; omega
  rw [e1, ← List.take_add]
  congr 1; omega
theorem dig_first (i : Nat) (h : i < 256) : ((List.set (List.replicate 32 0#8) 0 (BitVec.ofInt 8 (i : Int))).getD 0 0#8).toNat = i := by
  have e : (List.set (List.replicate 32 0#8) 0 (BitVec.ofInt 8 (i : Int))).getD 0 0#8 = BitVec.ofInt 8 (i : Int) := rfl
  rw [e, BitVec.ofInt_natCast, BitVec.toNat_ofNat]
  exact Nat.mod_eq_of_lt h

theorem law15_NamesSlices_vc (sizes : List (BitVec 16)) (content : List (BitVec 8)) (from_ size : Int) (hs : sizes.length ≤ LIM) (hc : content.length ≤ LIM) (hf : inI64 from_) (hz : inI64 size) :
    (∃ (x : Nat), (x ≤ List.length sizes ∧ x ≤ 12) ∧ 0 = ofN x ∧ 0 = sumN (piecesK sizes x) x ∧ piecesK sizes x = nilOf (List (BitVec 8) × Int)) ∧
      ∀ (x : Nat),
        x ≤ List.length sizes ∧ x ≤ 12 →
          ((decide (ofN x < ofN (List.length sizes)) && decide (ofN x < 12)) = true →
              within (ofN x) (List.length sizes) ∧
                ofN 40 ≠ 0 ∧
                  inI64 (1 + Int.tmod (ofN (BitVec.toNat (List.getD sizes (Int.toNat (ofN x)) 0#16))) 40) ∧
                    List.length (piecesK sizes x) +
                          List.length [(List.set (List.replicate 32 0#8) 0 (BitVec.ofInt 8 (ofN x)), 1 + Int.tmod (ofN (BitVec.toNat (List.getD sizes (Int.toNat (ofN x)) 0#16))) 40)] ≤
                        ROOM ∧
                      inI64 (sumN (piecesK sizes x) x + (1 + Int.tmod (ofN (BitVec.toNat (List.getD sizes (Int.toNat (ofN x)) 0#16))) 40)) ∧
                        inI64 (ofN x + 1) ∧
                          ∃ (x' : Nat),
                            (x' ≤ List.length sizes ∧ x' ≤ 12) ∧
                              List.length sizes - x' < List.length sizes - x ∧
                                ofN x + 1 = ofN x' ∧
                                  sumN (piecesK sizes x) x + (1 + Int.tmod (ofN (BitVec.toNat (List.getD sizes (Int.toNat (ofN x)) 0#16))) 40) = sumN (piecesK sizes x') x' ∧
                                    piecesK sizes x ++ [(List.set (List.replicate 32 0#8) 0 (BitVec.ofInt 8 (ofN x)), 1 + Int.tmod (ofN (BitVec.toNat (List.getD sizes (Int.toNat (ofN x)) 0#16))) 40)] =
                                      piecesK sizes x') ∧
            ((decide (ofN x < ofN (List.length sizes)) && decide (ofN x < 12)) = false →
              (sumN (piecesK sizes x) x = sumN (piecesK sizes x) x ∧ 0 ≤ sumN (piecesK sizes x) x ∧ sumN (piecesK sizes x) x ≤ ofN ROOM) ∧
                (∃ (x_1 : Nat × List (BitVec 8)),
                    (x_1.1 ≤ Int.toNat (sumN (piecesK sizes x) x) ∧ List.length x_1.2 = Int.toNat (sumN (piecesK sizes x) x)) ∧
                      0 = ofN x_1.1 ∧ List.replicate (Int.toNat (sumN (piecesK sizes x) x)) 0#8 = x_1.2) ∧
                  ∀ (x_1 : Nat × List (BitVec 8)),
                    x_1.1 ≤ Int.toNat (sumN (piecesK sizes x) x) ∧ List.length x_1.2 = Int.toNat (sumN (piecesK sizes x) x) →
                      ((decide (ofN x_1.1 < sumN (piecesK sizes x) x) && decide (0 < ofN (List.length content))) = true →
                          ofN (List.length content) ≠ 0 ∧
                            within (Int.tmod (ofN x_1.1) (ofN (List.length content))) (List.length content) ∧
                              (ofN (List.length content) ≠ 0 ∧ inI64 (Int.tdiv (ofN x_1.1) (ofN (List.length content)))) ∧
                                within (ofN x_1.1) (List.length x_1.2) ∧
                                  Int.toNat (ofN x_1.1) < List.length x_1.2 ∧
                                    inI64 (ofN x_1.1 + 1) ∧
                                      ∃ (x' : Nat × List (BitVec 8)),
                                        (x'.1 ≤ Int.toNat (sumN (piecesK sizes x) x) ∧ List.length x'.2 = Int.toNat (sumN (piecesK sizes x) x)) ∧
                                          Int.toNat (sumN (piecesK sizes x) x) - x'.1 < Int.toNat (sumN (piecesK sizes x) x) - x_1.1 ∧
                                            ofN x_1.1 + 1 = ofN x'.1 ∧
                                              List.set x_1.2 (Int.toNat (ofN x_1.1))
                                                  (List.getD content (Int.toNat (Int.tmod (ofN x_1.1) (ofN (List.length content)))) 0#8 +
                                                    BitVec.ofInt 8 (Int.tdiv (ofN x_1.1) (ofN (List.length content)))) =
                                                x'.2) ∧
                        ((decide (ofN x_1.1 < sumN (piecesK sizes x) x) && decide (0 < ofN (List.length content))) = false →
                          (ofOk [(1, 1, List.replicate 32 0#8, 2, 0, List.map UInt8.toBitVec [102], piecesK sizes x)] ∧
                              List.length [(1, 1, List.replicate 32 0#8, 2, 0, List.map UInt8.toBitVec [102], piecesK sizes x)] ≤ 1000000) ∧
                            (false = true → false = true) ∧
                              (false = false →
                                okF
                                    (ofK [(1, 1, List.replicate 32 0#8, 2, 0, List.map UInt8.toBitVec [102], piecesK sizes x)]
                                      (List.length [(1, 1, List.replicate 32 0#8, 2, 0, List.map UInt8.toBitVec [102], piecesK sizes x)])) ∧
                                  ((decide (from_ < 0) || decide (size < 0) || decide (sumN (piecesK sizes x) x < from_)) = false → inI64 (sumN (piecesK sizes x) x - from_)) ∧
                                    ((decide (from_ < 0) || decide (size < 0) || decide (sumN (piecesK sizes x) x < from_) || decide (sumN (piecesK sizes x) x - from_ < size)) = true →
                                        (seekE
                                                  (statV
                                                      (ofK [(1, 1, List.replicate 32 0#8, 2, 0, List.map UInt8.toBitVec [102], piecesK sizes x)]
                                                        (List.length [(1, 1, List.replicate 32 0#8, 2, 0, List.map UInt8.toBitVec [102], piecesK sizes x)]))
                                                      (List.map UInt8.toBitVec [102])).1
                                                  (statV
                                                      (ofK [(1, 1, List.replicate 32 0#8, 2, 0, List.map UInt8.toBitVec [102], piecesK sizes x)]
                                                        (List.length [(1, 1, List.replicate 32 0#8, 2, 0, List.map UInt8.toBitVec [102], piecesK sizes x)]))
                                                      (List.map UInt8.toBitVec [102])).2
                                                  from_ size ==
                                                5 &&
                                              ofN
                                                  (List.length
                                                    (slP (piecesK sizes x) from_ size)) ==
                                                0 &&
                                            true) =
                                          true) ∧
                                      ((decide (from_ < 0) || decide (size < 0) || decide (sumN (piecesK sizes x) x < from_) || decide (sumN (piecesK sizes x) x - from_ < size)) = false →
                                        (∃ (x_2 : Nat × List (BitVec 8)),
                                            gotI x_1.2 (piecesK sizes x) (partsV (piecesK sizes x) from_ size) from_ size x_2 ∧ (0 = ofN x_2.1 ∧ x_2.2 = nilOf (BitVec 8)) ∧ x_1.2 = x_1.2) ∧
                                          ∀ (x_2 : Nat × List (BitVec 8)),
                                            gotI x_1.2 (piecesK sizes x) (partsV (piecesK sizes x) from_ size) from_ size x_2 →
                                              (decide
                                                      (ofN x_2.1 <
                                                        ofN
                                                          (List.length
                                                            (slP (piecesK sizes x) from_ size))) =
                                                    true →
                                                  within (ofN x_2.1)
                                                      (List.length
                                                        (slP (piecesK sizes x) from_ size)) ∧
                                                    within 0 32 ∧
                                                      (∃ (x_3 : Nat),
                                                          (x_3 ≤ List.length (piecesK sizes x) ∧
                                                              ofN x_3 ≤
                                                                max
                                                                  (ofN
                                                                    (BitVec.toNat
                                                                      (List.getD
                                                                        (List.getD
                                                                            (slP (piecesK sizes x) from_ size)
                                                                            (Int.toNat (ofN x_2.1)) (T.dflt (T.pair (T.arr 32 T.u8) (T.pair T.i64 (T.pair T.i64 T.i64))))).1
                                                                        (Int.toNat 0) 0#8)))
                                                                  0) ∧
                                                            0 = ofN x_3 ∧ 0 = sumN (piecesK sizes x) x_3) ∧
                                                        ∀ (x_3 : Nat),
                                                          x_3 ≤ List.length (piecesK sizes x) ∧
                                                              ofN x_3 ≤
                                                                max
                                                                  (ofN
                                                                    (BitVec.toNat
                                                                      (List.getD
                                                                        (List.getD
                                                                            (slP (piecesK sizes x) from_ size)
                                                                            (Int.toNat (ofN x_2.1)) (T.dflt (T.pair (T.arr 32 T.u8) (T.pair T.i64 (T.pair T.i64 T.i64))))).1
                                                                        (Int.toNat 0) 0#8)))
                                                                  0 →
                                                            ((decide
                                                                      (ofN x_3 <
                                                                        ofN
                                                                          (BitVec.toNat
                                                                            (List.getD
                                                                              (List.getD
                                                                                  (slP (piecesK sizes x) from_ size)
                                                                                  (Int.toNat (ofN x_2.1)) (T.dflt (T.pair (T.arr 32 T.u8) (T.pair T.i64 (T.pair T.i64 T.i64))))).1
                                                                              (Int.toNat 0) 0#8))) &&
                                                                    decide (ofN x_3 < ofN (List.length (piecesK sizes x)))) =
                                                                  true →
                                                                within (ofN x_3) (List.length (piecesK sizes x)) ∧
                                                                  inI64 (sumN (piecesK sizes x) x_3 + (List.getD (piecesK sizes x) (Int.toNat (ofN x_3)) (T.dflt (T.pair (T.arr 32 T.u8) T.i64))).2) ∧
                                                                    inI64 (ofN x_3 + 1) ∧
                                                                      ∃ (x' : Nat),
                                                                        (x' ≤ List.length (piecesK sizes x) ∧
                                                                            ofN x' ≤
                                                                              max
                                                                                (ofN
                                                                                  (BitVec.toNat
                                                                                    (List.getD
                                                                                      (List.getD
                                                                                          (slP (piecesK sizes x) from_ size)
                                                                                          (Int.toNat (ofN x_2.1)) (T.dflt (T.pair (T.arr 32 T.u8) (T.pair T.i64 (T.pair T.i64 T.i64))))).1
                                                                                      (Int.toNat 0) 0#8)))
                                                                                0) ∧
                                                                          List.length (piecesK sizes x) - x' < List.length (piecesK sizes x) - x_3 ∧
                                                                            ofN x_3 + 1 = ofN x' ∧
                                                                              sumN (piecesK sizes x) x_3 + (List.getD (piecesK sizes x) (Int.toNat (ofN x_3)) (T.dflt (T.pair (T.arr 32 T.u8) T.i64))).2 =
                                                                                sumN (piecesK sizes x) x') ∧
                                                              ((decide
                                                                      (ofN x_3 <
                                                                        ofN
                                                                          (BitVec.toNat
                                                                            (List.getD
                                                                              (List.getD
                                                                                  (slP (piecesK sizes x) from_ size)
                                                                                  (Int.toNat (ofN x_2.1)) (T.dflt (T.pair (T.arr 32 T.u8) (T.pair T.i64 (T.pair T.i64 T.i64))))).1
                                                                              (Int.toNat 0) 0#8))) &&
                                                                    decide (ofN x_3 < ofN (List.length (piecesK sizes x)))) =
                                                                  false →
                                                                (decide
                                                                        (ofN (List.length (piecesK sizes x)) ≤
                                                                          ofN
                                                                            (BitVec.toNat
                                                                              (List.getD
                                                                                (List.getD
                                                                                    (slP (piecesK sizes x) from_ size)
                                                                                    (Int.toNat (ofN x_2.1)) (T.dflt (T.pair (T.arr 32 T.u8) (T.pair T.i64 (T.pair T.i64 T.i64))))).1
                                                                                (Int.toNat 0) 0#8))) =
                                                                      false →
                                                                    within (ofN x_2.1)
                                                                      (List.length
                                                                        (slP (piecesK sizes x) from_ size))) ∧
                                                                  (decide
                                                                          (ofN (List.length (piecesK sizes x)) ≤
                                                                            ofN
                                                                              (BitVec.toNat
                                                                                (List.getD
                                                                                  (List.getD
                                                                                      (slP (piecesK sizes x) from_ size)
                                                                                      (Int.toNat (ofN x_2.1)) (T.dflt (T.pair (T.arr 32 T.u8) (T.pair T.i64 (T.pair T.i64 T.i64))))).1
                                                                                  (Int.toNat 0) 0#8))) =
                                                                        false →
                                                                      within
                                                                        (ofN
                                                                          (BitVec.toNat
                                                                            (List.getD
                                                                              (List.getD
                                                                                  (slP (piecesK sizes x) from_ size)
                                                                                  (Int.toNat (ofN x_2.1)) (T.dflt (T.pair (T.arr 32 T.u8) (T.pair T.i64 (T.pair T.i64 T.i64))))).1
                                                                              (Int.toNat 0) 0#8)))
                                                                        (List.length (piecesK sizes x))) ∧
                                                                    ((decide
                                                                              (ofN (List.length (piecesK sizes x)) ≤
                                                                                ofN
                                                                                  (BitVec.toNat
                                                                                    (List.getD
                                                                                      (List.getD
                                                                                          (slP (piecesK sizes x) from_ size)
                                                                                          (Int.toNat (ofN x_2.1)) (T.dflt (T.pair (T.arr 32 T.u8) (T.pair T.i64 (T.pair T.i64 T.i64))))).1
                                                                                      (Int.toNat 0) 0#8))) ||
                                                                            (List.getD
                                                                                    (slP (piecesK sizes x) from_ size)
                                                                                    (Int.toNat (ofN x_2.1)) (T.dflt (T.pair (T.arr 32 T.u8) (T.pair T.i64 (T.pair T.i64 T.i64))))).2.1 !=
                                                                              (List.getD (piecesK sizes x)
                                                                                  (Int.toNat
                                                                                    (ofN
                                                                                      (BitVec.toNat
                                                                                        (List.getD
                                                                                          (List.getD
                                                                                              (slP (piecesK sizes x) from_ size)
                                                                                              (Int.toNat (ofN x_2.1)) (T.dflt (T.pair (T.arr 32 T.u8) (T.pair T.i64 (T.pair T.i64 T.i64))))).1
                                                                                          (Int.toNat 0) 0#8))))
                                                                                  (T.dflt (T.pair (T.arr 32 T.u8) T.i64))).2) =
                                                                          false →
                                                                        within (ofN x_2.1)
                                                                          (List.length
                                                                            (slP (piecesK sizes x) from_ size))) ∧
                                                                      ((decide
                                                                                  (ofN (List.length (piecesK sizes x)) ≤
                                                                                    ofN
                                                                                      (BitVec.toNat
                                                                                        (List.getD
                                                                                          (List.getD
                                                                                              (slP (piecesK sizes x) from_ size)
                                                                                              (Int.toNat (ofN x_2.1)) (T.dflt (T.pair (T.arr 32 T.u8) (T.pair T.i64 (T.pair T.i64 T.i64))))).1
                                                                                          (Int.toNat 0) 0#8))) ||
                                                                                (List.getD
                                                                                        (slP (piecesK sizes x) from_ size)
                                                                                        (Int.toNat (ofN x_2.1)) (T.dflt (T.pair (T.arr 32 T.u8) (T.pair T.i64 (T.pair T.i64 T.i64))))).2.1 !=
                                                                                  (List.getD (piecesK sizes x)
                                                                                      (Int.toNat
                                                                                        (ofN
                                                                                          (BitVec.toNat
                                                                                            (List.getD
                                                                                              (List.getD
                                                                                                  (slP (piecesK sizes x) from_ size)
                                                                                                  (Int.toNat (ofN x_2.1)) (T.dflt (T.pair (T.arr 32 T.u8) (T.pair T.i64 (T.pair T.i64 T.i64))))).1
                                                                                              (Int.toNat 0) 0#8))))
                                                                                      (T.dflt (T.pair (T.arr 32 T.u8) T.i64))).2 ||
                                                                              decide
                                                                                ((List.getD
                                                                                          (slP (piecesK sizes x) from_ size)
                                                                                          (Int.toNat (ofN x_2.1)) (T.dflt (T.pair (T.arr 32 T.u8) (T.pair T.i64 (T.pair T.i64 T.i64))))).2.2.1 <
                                                                                  0)) =
                                                                            false →
                                                                          within (ofN x_2.1)
                                                                            (List.length
                                                                              (slP (piecesK sizes x) from_ size))) ∧
                                                                        ((decide
                                                                                    (ofN (List.length (piecesK sizes x)) ≤
                                                                                      ofN
                                                                                        (BitVec.toNat
                                                                                          (List.getD
                                                                                            (List.getD
                                                                                                (slP (piecesK sizes x) from_ size)
                                                                                                (Int.toNat (ofN x_2.1)) (T.dflt (T.pair (T.arr 32 T.u8) (T.pair T.i64 (T.pair T.i64 T.i64))))).1
                                                                                            (Int.toNat 0) 0#8))) ||
                                                                                  (List.getD
                                                                                          (slP (piecesK sizes x) from_ size)
                                                                                          (Int.toNat (ofN x_2.1)) (T.dflt (T.pair (T.arr 32 T.u8) (T.pair T.i64 (T.pair T.i64 T.i64))))).2.1 !=
                                                                                    (List.getD (piecesK sizes x)
                                                                                        (Int.toNat
                                                                                          (ofN
                                                                                            (BitVec.toNat
                                                                                              (List.getD
                                                                                                (List.getD
                                                                                                    (slP (piecesK sizes x) from_ size)
                                                                                                    (Int.toNat (ofN x_2.1)) (T.dflt (T.pair (T.arr 32 T.u8) (T.pair T.i64 (T.pair T.i64 T.i64))))).1
                                                                                                (Int.toNat 0) 0#8))))
                                                                                        (T.dflt (T.pair (T.arr 32 T.u8) T.i64))).2 ||
                                                                                decide
                                                                                  ((List.getD
                                                                                            (slP (piecesK sizes x) from_ size)
                                                                                            (Int.toNat (ofN x_2.1)) (T.dflt (T.pair (T.arr 32 T.u8) (T.pair T.i64 (T.pair T.i64 T.i64))))).2.2.1 <
                                                                                    0)) =
                                                                              false →
                                                                            within (ofN x_2.1)
                                                                              (List.length
                                                                                (slP (piecesK sizes x) from_ size))) ∧
                                                                          ((decide
                                                                                        (ofN (List.length (piecesK sizes x)) ≤
                                                                                          ofN
                                                                                            (BitVec.toNat
                                                                                              (List.getD
                                                                                                (List.getD
                                                                                                    (slP (piecesK sizes x) from_ size)
                                                                                                    (Int.toNat (ofN x_2.1)) (T.dflt (T.pair (T.arr 32 T.u8) (T.pair T.i64 (T.pair T.i64 T.i64))))).1
                                                                                                (Int.toNat 0) 0#8))) ||
                                                                                      (List.getD
                                                                                              (slP (piecesK sizes x) from_ size)
                                                                                              (Int.toNat (ofN x_2.1)) (T.dflt (T.pair (T.arr 32 T.u8) (T.pair T.i64 (T.pair T.i64 T.i64))))).2.1 !=
                                                                                        (List.getD (piecesK sizes x)
                                                                                            (Int.toNat
                                                                                              (ofN
                                                                                                (BitVec.toNat
                                                                                                  (List.getD
                                                                                                    (List.getD
                                                                                                        (slP (piecesK sizes x) from_ size)
                                                                                                        (Int.toNat (ofN x_2.1)) (T.dflt (T.pair (T.arr 32 T.u8) (T.pair T.i64 (T.pair T.i64 T.i64))))).1
                                                                                                    (Int.toNat 0) 0#8))))
                                                                                            (T.dflt (T.pair (T.arr 32 T.u8) T.i64))).2 ||
                                                                                    decide
                                                                                      ((List.getD
                                                                                                (slP (piecesK sizes x) from_ size)
                                                                                                (Int.toNat (ofN x_2.1)) (T.dflt (T.pair (T.arr 32 T.u8) (T.pair T.i64 (T.pair T.i64 T.i64))))).2.2.1 <
                                                                                        0) ||
                                                                                  decide
                                                                                    ((List.getD
                                                                                              (slP (piecesK sizes x) from_ size)
                                                                                              (Int.toNat (ofN x_2.1)) (T.dflt (T.pair (T.arr 32 T.u8) (T.pair T.i64 (T.pair T.i64 T.i64))))).2.2.2 ≤
                                                                                      (List.getD
                                                                                              (slP (piecesK sizes x) from_ size)
                                                                                              (Int.toNat (ofN x_2.1)) (T.dflt (T.pair (T.arr 32 T.u8) (T.pair T.i64 (T.pair T.i64 T.i64))))).2.2.1)) =
                                                                                false →
                                                                              within (ofN x_2.1)
                                                                                (List.length
                                                                                  (slP (piecesK sizes x) from_ size))) ∧
                                                                            ((decide
                                                                                          (ofN (List.length (piecesK sizes x)) ≤
                                                                                            ofN
                                                                                              (BitVec.toNat
                                                                                                (List.getD
                                                                                                  (List.getD
                                                                                                      (slP (piecesK sizes x) from_ size)
                                                                                                      (Int.toNat (ofN x_2.1)) (T.dflt (T.pair (T.arr 32 T.u8) (T.pair T.i64 (T.pair T.i64 T.i64))))).1
                                                                                                  (Int.toNat 0) 0#8))) ||
                                                                                        (List.getD
                                                                                                (slP (piecesK sizes x) from_ size)
                                                                                                (Int.toNat (ofN x_2.1)) (T.dflt (T.pair (T.arr 32 T.u8) (T.pair T.i64 (T.pair T.i64 T.i64))))).2.1 !=
                                                                                          (List.getD (piecesK sizes x)
                                                                                              (Int.toNat
                                                                                                (ofN
                                                                                                  (BitVec.toNat
                                                                                                    (List.getD
                                                                                                      (List.getD
                                                                                                          (slP (piecesK sizes x) from_ size)
                                                                                                          (Int.toNat (ofN x_2.1)) (T.dflt (T.pair (T.arr 32 T.u8) (T.pair T.i64 (T.pair T.i64 T.i64))))).1
                                                                                                      (Int.toNat 0) 0#8))))
                                                                                              (T.dflt (T.pair (T.arr 32 T.u8) T.i64))).2 ||
                                                                                      decide
                                                                                        ((List.getD
                                                                                                  (slP (piecesK sizes x) from_ size)
                                                                                                  (Int.toNat (ofN x_2.1)) (T.dflt (T.pair (T.arr 32 T.u8) (T.pair T.i64 (T.pair T.i64 T.i64))))).2.2.1 <
                                                                                          0) ||
                                                                                    decide
                                                                                      ((List.getD
                                                                                                (slP (piecesK sizes x) from_ size)
                                                                                                (Int.toNat (ofN x_2.1)) (T.dflt (T.pair (T.arr 32 T.u8) (T.pair T.i64 (T.pair T.i64 T.i64))))).2.2.2 ≤
                                                                                        (List.getD
                                                                                                (slP (piecesK sizes x) from_ size)
                                                                                                (Int.toNat (ofN x_2.1)) (T.dflt (T.pair (T.arr 32 T.u8) (T.pair T.i64 (T.pair T.i64 T.i64))))).2.2.1)) =
                                                                                  false →
                                                                                within (ofN x_2.1)
                                                                                  (List.length
                                                                                    (slP (piecesK sizes x) from_ size))) ∧
                                                                              ((decide
                                                                                              (ofN (List.length (piecesK sizes x)) ≤
                                                                                                ofN
                                                                                                  (BitVec.toNat
                                                                                                    (List.getD
                                                                                                      (List.getD
                                                                                                          (slP (piecesK sizes x) from_ size)
                                                                                                          (Int.toNat (ofN x_2.1)) (T.dflt (T.pair (T.arr 32 T.u8) (T.pair T.i64 (T.pair T.i64 T.i64))))).1
                                                                                                      (Int.toNat 0) 0#8))) ||
                                                                                            (List.getD
                                                                                                    (slP (piecesK sizes x) from_ size)
                                                                                                    (Int.toNat (ofN x_2.1)) (T.dflt (T.pair (T.arr 32 T.u8) (T.pair T.i64 (T.pair T.i64 T.i64))))).2.1 !=
                                                                                              (List.getD (piecesK sizes x)
                                                                                                  (Int.toNat
                                                                                                    (ofN
                                                                                                      (BitVec.toNat
                                                                                                        (List.getD
                                                                                                          (List.getD
                                                                                                              (slP (piecesK sizes x) from_ size)
                                                                                                              (Int.toNat (ofN x_2.1))
                                                                                                              (T.dflt (T.pair (T.arr 32 T.u8) (T.pair T.i64 (T.pair T.i64 T.i64))))).1
                                                                                                          (Int.toNat 0) 0#8))))
                                                                                                  (T.dflt (T.pair (T.arr 32 T.u8) T.i64))).2 ||
                                                                                          decide
                                                                                            ((List.getD
                                                                                                      (slP (piecesK sizes x) from_ size)
                                                                                                      (Int.toNat (ofN x_2.1)) (T.dflt (T.pair (T.arr 32 T.u8) (T.pair T.i64 (T.pair T.i64 T.i64))))).2.2.1 <
                                                                                              0) ||
                                                                                        decide
                                                                                          ((List.getD
                                                                                                    (slP (piecesK sizes x) from_ size)
                                                                                                    (Int.toNat (ofN x_2.1)) (T.dflt (T.pair (T.arr 32 T.u8) (T.pair T.i64 (T.pair T.i64 T.i64))))).2.2.2 ≤
                                                                                            (List.getD
                                                                                                    (slP (piecesK sizes x) from_ size)
                                                                                                    (Int.toNat (ofN x_2.1)) (T.dflt (T.pair (T.arr 32 T.u8) (T.pair T.i64 (T.pair T.i64 T.i64))))).2.2.1) ||
                                                                                      decide
                                                                                        ((List.getD
                                                                                                (slP (piecesK sizes x) from_ size)
                                                                                                (Int.toNat (ofN x_2.1)) (T.dflt (T.pair (T.arr 32 T.u8) (T.pair T.i64 (T.pair T.i64 T.i64))))).2.1 <
                                                                                          (List.getD
                                                                                                  (slP (piecesK sizes x) from_ size)
                                                                                                  (Int.toNat (ofN x_2.1)) (T.dflt (T.pair (T.arr 32 T.u8) (T.pair T.i64 (T.pair T.i64 T.i64))))).2.2.2)) =
                                                                                    true →
                                                                                  false = true) ∧
                                                                                ((decide
                                                                                              (ofN (List.length (piecesK sizes x)) ≤
                                                                                                ofN
                                                                                                  (BitVec.toNat
                                                                                                    (List.getD
                                                                                                      (List.getD
                                                                                                          (slP (piecesK sizes x) from_ size)
                                                                                                          (Int.toNat (ofN x_2.1)) (T.dflt (T.pair (T.arr 32 T.u8) (T.pair T.i64 (T.pair T.i64 T.i64))))).1
                                                                                                      (Int.toNat 0) 0#8))) ||
                                                                                            (List.getD
                                                                                                    (slP (piecesK sizes x) from_ size)
                                                                                                    (Int.toNat (ofN x_2.1)) (T.dflt (T.pair (T.arr 32 T.u8) (T.pair T.i64 (T.pair T.i64 T.i64))))).2.1 !=
                                                                                              (List.getD (piecesK sizes x)
                                                                                                  (Int.toNat
                                                                                                    (ofN
                                                                                                      (BitVec.toNat
                                                                                                        (List.getD
                                                                                                          (List.getD
                                                                                                              (slP (piecesK sizes x) from_ size)
                                                                                                              (Int.toNat (ofN x_2.1))
                                                                                                              (T.dflt (T.pair (T.arr 32 T.u8) (T.pair T.i64 (T.pair T.i64 T.i64))))).1
                                                                                                          (Int.toNat 0) 0#8))))
                                                                                                  (T.dflt (T.pair (T.arr 32 T.u8) T.i64))).2 ||
                                                                                          decide
                                                                                            ((List.getD
                                                                                                      (slP (piecesK sizes x) from_ size)
                                                                                                      (Int.toNat (ofN x_2.1)) (T.dflt (T.pair (T.arr 32 T.u8) (T.pair T.i64 (T.pair T.i64 T.i64))))).2.2.1 <
                                                                                              0) ||
                                                                                        decide
                                                                                          ((List.getD
                                                                                                    (slP (piecesK sizes x) from_ size)
                                                                                                    (Int.toNat (ofN x_2.1)) (T.dflt (T.pair (T.arr 32 T.u8) (T.pair T.i64 (T.pair T.i64 T.i64))))).2.2.2 ≤
                                                                                            (List.getD
                                                                                                    (slP (piecesK sizes x) from_ size)
                                                                                                    (Int.toNat (ofN x_2.1)) (T.dflt (T.pair (T.arr 32 T.u8) (T.pair T.i64 (T.pair T.i64 T.i64))))).2.2.1) ||
                                                                                      decide
                                                                                        ((List.getD
                                                                                                (slP (piecesK sizes x) from_ size)
                                                                                                (Int.toNat (ofN x_2.1)) (T.dflt (T.pair (T.arr 32 T.u8) (T.pair T.i64 (T.pair T.i64 T.i64))))).2.1 <
                                                                                          (List.getD
                                                                                                  (slP (piecesK sizes x) from_ size)
                                                                                                  (Int.toNat (ofN x_2.1)) (T.dflt (T.pair (T.arr 32 T.u8) (T.pair T.i64 (T.pair T.i64 T.i64))))).2.2.2)) =
                                                                                    false →
                                                                                  within (ofN x_2.1)
                                                                                      (List.length
                                                                                        (slP (piecesK sizes x) from_ size)) ∧
                                                                                    inI64
                                                                                        (sumN (piecesK sizes x) x_3 +
                                                                                          (List.getD
                                                                                                  (slP (piecesK sizes x) from_ size)
                                                                                                  (Int.toNat (ofN x_2.1)) (T.dflt (T.pair (T.arr 32 T.u8) (T.pair T.i64 (T.pair T.i64 T.i64))))).2.2.1) ∧
                                                                                      within (ofN x_2.1)
                                                                                          (List.length
                                                                                            (slP (piecesK sizes x) from_ size)) ∧
                                                                                        inI64
                                                                                            (sumN (piecesK sizes x) x_3 +
                                                                                              (List.getD
                                                                                                      (slP (piecesK sizes x) from_ size)
                                                                                                      (Int.toNat (ofN x_2.1))
                                                                                                      (T.dflt (T.pair (T.arr 32 T.u8) (T.pair T.i64 (T.pair T.i64 T.i64))))).2.2.2) ∧
                                                                                          (0 ≤
                                                                                                sumN (piecesK sizes x) x_3 +
                                                                                                  (List.getD
                                                                                                          (slP (piecesK sizes x) from_ size)
                                                                                                          (Int.toNat (ofN x_2.1))
                                                                                                          (T.dflt (T.pair (T.arr 32 T.u8) (T.pair T.i64 (T.pair T.i64 T.i64))))).2.2.1 ∧
                                                                                              sumN (piecesK sizes x) x_3 +
                                                                                                    (List.getD
                                                                                                            (slP (piecesK sizes x) from_ size)
                                                                                                            (Int.toNat (ofN x_2.1))
                                                                                                            (T.dflt (T.pair (T.arr 32 T.u8) (T.pair T.i64 (T.pair T.i64 T.i64))))).2.2.1 ≤
                                                                                                  sumN (piecesK sizes x) x_3 +
                                                                                                    (List.getD
                                                                                                            (slP (piecesK sizes x) from_ size)
                                                                                                            (Int.toNat (ofN x_2.1))
                                                                                                            (T.dflt (T.pair (T.arr 32 T.u8) (T.pair T.i64 (T.pair T.i64 T.i64))))).2.2.2 ∧
                                                                                                sumN (piecesK sizes x) x_3 +
                                                                                                    (List.getD
                                                                                                            (slP (piecesK sizes x) from_ size)
                                                                                                            (Int.toNat (ofN x_2.1))
                                                                                                            (T.dflt (T.pair (T.arr 32 T.u8) (T.pair T.i64 (T.pair T.i64 T.i64))))).2.2.2 ≤
                                                                                                  ofN (List.length x_1.2)) ∧
                                                                                            List.length x_2.2 +
                                                                                                  List.length
                                                                                                    (List.drop
                                                                                                      (Int.toNat
                                                                                                        (sumN (piecesK sizes x) x_3 +
                                                                                                          (List.getD
                                                                                                                  (slP (piecesK sizes x) from_ size)
                                                                                                                  (Int.toNat (ofN x_2.1))
                                                                                                                  (T.dflt (T.pair (T.arr 32 T.u8) (T.pair T.i64 (T.pair T.i64 T.i64))))).2.2.1))
                                                                                                      (List.take
                                                                                                        (Int.toNat
                                                                                                          (sumN (piecesK sizes x) x_3 +
                                                                                                            (List.getD
                                                                                                                    (slP (piecesK sizes x) from_ size)
                                                                                                                    (Int.toNat (ofN x_2.1))
                                                                                                                    (T.dflt (T.pair (T.arr 32 T.u8) (T.pair T.i64 (T.pair T.i64 T.i64))))).2.2.2))
                                                                                                        x_1.2)) ≤
                                                                                                ROOM ∧
                                                                                              inI64 (ofN x_2.1 + 1) ∧
                                                                                                ∃ (x' : Nat × List (BitVec 8)),
                                                                                                  gotI x_1.2 (piecesK sizes x) (partsV (piecesK sizes x) from_ size) from_ size x' ∧
                                                                                                    List.length (partsV (piecesK sizes x) from_ size) - x'.1 <
                                                                                                        List.length (partsV (piecesK sizes x) from_ size) - x_2.1 ∧
                                                                                                      (ofN x_2.1 + 1 = ofN x'.1 ∧
                                                                                                          x_2.2 ++
                                                                                                              List.drop
                                                                                                                (Int.toNat
                                                                                                                  (sumN (piecesK sizes x) x_3 +
                                                                                                                    (List.getD
                                                                                                                            (slP (piecesK sizes x) from_ size)
                                                                                                                            (Int.toNat (ofN x_2.1))
                                                                                                                            (T.dflt (T.pair (T.arr 32 T.u8) (T.pair T.i64 (T.pair T.i64 T.i64))))).2.2.1))
                                                                                                                (List.take
                                                                                                                  (Int.toNat
                                                                                                                    (sumN (piecesK sizes x) x_3 +
                                                                                                                      (List.getD
                                                                                                                              (slP (piecesK sizes x) from_ size)
                                                                                                                              (Int.toNat (ofN x_2.1))
                                                                                                                              (T.dflt (T.pair (T.arr 32 T.u8) (T.pair T.i64 (T.pair T.i64 T.i64))))).2.2.2))
                                                                                                                  x_1.2) =
                                                                                                            x'.2) ∧
                                                                                                        x_1.2 = x_1.2))) ∧
                                                (decide
                                                      (ofN x_2.1 <
                                                        ofN
                                                          (List.length
                                                            (slP (piecesK sizes x) from_ size))) =
                                                    false →
                                                  ((seekE
                                                            (statV
                                                                (ofK [(1, 1, List.replicate 32 0#8, 2, 0, List.map UInt8.toBitVec [102], piecesK sizes x)]
                                                                  (List.length [(1, 1, List.replicate 32 0#8, 2, 0, List.map UInt8.toBitVec [102], piecesK sizes x)]))
                                                                (List.map UInt8.toBitVec [102])).1
                                                            (statV
                                                                (ofK [(1, 1, List.replicate 32 0#8, 2, 0, List.map UInt8.toBitVec [102], piecesK sizes x)]
                                                                  (List.length [(1, 1, List.replicate 32 0#8, 2, 0, List.map UInt8.toBitVec [102], piecesK sizes x)]))
                                                                (List.map UInt8.toBitVec [102])).2
                                                            from_ size ==
                                                          0) =
                                                        true →
                                                      inI64 (from_ + size)) ∧
                                                    ((seekE
                                                              (statV
                                                                  (ofK [(1, 1, List.replicate 32 0#8, 2, 0, List.map UInt8.toBitVec [102], piecesK sizes x)]
                                                                    (List.length [(1, 1, List.replicate 32 0#8, 2, 0, List.map UInt8.toBitVec [102], piecesK sizes x)]))
                                                                  (List.map UInt8.toBitVec [102])).1
                                                              (statV
                                                                  (ofK [(1, 1, List.replicate 32 0#8, 2, 0, List.map UInt8.toBitVec [102], piecesK sizes x)]
                                                                    (List.length [(1, 1, List.replicate 32 0#8, 2, 0, List.map UInt8.toBitVec [102], piecesK sizes x)]))
                                                                  (List.map UInt8.toBitVec [102])).2
                                                              from_ size ==
                                                            0) =
                                                          true →
                                                        0 ≤ from_ ∧ from_ ≤ from_ + size ∧ from_ + size ≤ ofN (List.length x_1.2)) ∧
                                                      (seekE
                                                                (statV
                                                                    (ofK [(1, 1, List.replicate 32 0#8, 2, 0, List.map UInt8.toBitVec [102], piecesK sizes x)]
                                                                      (List.length [(1, 1, List.replicate 32 0#8, 2, 0, List.map UInt8.toBitVec [102], piecesK sizes x)]))
                                                                    (List.map UInt8.toBitVec [102])).1
                                                                (statV
                                                                    (ofK [(1, 1, List.replicate 32 0#8, 2, 0, List.map UInt8.toBitVec [102], piecesK sizes x)]
                                                                      (List.length [(1, 1, List.replicate 32 0#8, 2, 0, List.map UInt8.toBitVec [102], piecesK sizes x)]))
                                                                    (List.map UInt8.toBitVec [102])).2
                                                                from_ size ==
                                                              0 &&
                                                            x_2.2 == List.drop (Int.toNat from_) (List.take (Int.toNat (from_ + size)) x_1.2) &&
                                                          true) =
                                                        true))))) := by
  refine ⟨⟨0, ⟨Nat.zero_le _, by decide⟩, rfl, rfl, rfl⟩, fun x hx => ⟨fun q => ?_, fun q => ?_⟩⟩
  · have hxx : x < sizes.length ∧ x < 12 := by
      simp only [Bool.and_eq_true] at q
      have h1 : (x : Int) < (sizes.length : Int) := of_decide_eq_true q.1
      have h2 : (x : Int) < 12 := of_decide_eq_true q.2
      omega
    have hm := mid15 (sizes.getD x 0#16).toNat
    have hm' : 0 ≤ Int.tmod (ofN (BitVec.toNat (List.getD sizes (Int.toNat (ofN x)) 0#16))) 40 ∧ Int.tmod (ofN (BitVec.toNat (List.getD sizes (Int.toNat (ofN x)) 0#16))) 40 < 40 := hm
    have n0 := sumN_nonneg (piecesK_ok sizes x) x
    have n1 := sumN_le (piecesK_ok sizes x) x
    have n2 := sumP_le (piecesK_ok sizes x)
    rw [piecesK_len] at n2
    refine ⟨⟨by show (0 : Int) ≤ (x : Int); omega, by show (x : Int) < (sizes.length : Int); omega⟩, by decide, by unfold inI64; omega, ?_, by unfold inI64; omega, by show inI64 ((x : Int) + 1); unfold inI64; omega, x + 1, ⟨hxx.1, hxx.2⟩, by omega, rfl, ?_, (piecesK_succ sizes x).symm⟩
    · rw [piecesK_len]; show x + 1 ≤ ROOM; unfold ROOM; omega
    · have hlen : x < (piecesK sizes (x + 1)).length := by rw [piecesK_len]; omega
      have ht : (piecesK sizes (x + 1)).take x = piecesK sizes x := by
        rw [piecesK_succ]; exact List.take_left' (piecesK_len sizes x)
      have e1 : sumN (piecesK sizes (x + 1)) x = sumN (piecesK sizes x) x := by
        unfold sumN
        rw [ht, List.take_of_length_le (by rw [piecesK_len]; exact Nat.le_refl _)]
      rw [sumN_succ hlen, e1]
      have e2 : (piecesK sizes (x + 1)).getD x (T.dflt (T.pair (T.arr 32 T.u8) T.i64)) = pieceAt sizes x := by
        simp only [List.getD, List.getElem?_eq_getElem hlen, Option.getD_some]
        exact piecesK_get sizes (Nat.lt_succ_self x)
      rw [e2]
      rfl
  have hok := piecesK_ok sizes x
  have hsz := piecesK_size sizes hx.2
  have hlen := piecesK_len sizes x
  have hall : sumN (piecesK sizes x) x = sumP (piecesK sizes x) := by
    have := sumN_all (piecesK sizes x)
    rwa [hlen] at this
  have hpl := sumP_le hok
  have hp0 := sumP_nonneg hok
  rw [hlen] at hpl
  rw [hall]
  have hst : statV (ofK [(1, 1, List.replicate 32 0#8, 2, 0, List.map UInt8.toBitVec [102], piecesK sizes x)] (List.length [(1, 1, List.replicate 32 0#8, 2, 0, List.map UInt8.toBitVec [102], piecesK sizes x)])) (List.map UInt8.toBitVec [102]) = (([102#8], sumP (piecesK sizes x), 1, piecesK sizes x), 0) := recF_stat hsz
  have hof : ofOk [(1, 1, List.replicate 32 0#8, 2, 0, List.map UInt8.toBitVec [102], piecesK sizes x)] := recF_ok hsz
  rw [hst]
  have h12 := hx.2
  have hdig : ∀ i (h : i < (piecesK sizes x).length), (((piecesK sizes x)[i]).1.getD 0 0#8).toNat = i := fun i h => by
    rw [piecesK_get sizes (by rw [hlen] at h; exact h)]
    exact dig_first i (by rw [hlen] at h; omega)
  generalize hl : piecesK sizes x = l at hok hsz hlen hpl hp0 hof hdig ⊢
  clear hst
  refine ⟨⟨rfl, hp0, by show sumP l ≤ ((4294967296 : Nat) : Int); omega⟩, ⟨(0, List.replicate (Int.toNat (sumP l)) 0#8), ⟨Nat.zero_le _, List.length_replicate⟩, rfl, rfl⟩, fun y hy => ⟨fun q2 => ?_, fun q2 => ?_⟩⟩
  · obtain ⟨j, file⟩ := y
    obtain ⟨hy1, hy2⟩ := hy
    dsimp only at hy1 hy2 q2 ⊢
    simp only [Bool.and_eq_true] at q2
    have hj : (j : Int) < sumP l := of_decide_eq_true q2.1
    have hc0 : (0 : Int) < (content.length : Int) := of_decide_eq_true q2.2
    have m1 := Int.tmod_nonneg (content.length : Int) (Int.natCast_nonneg j)
    have m2 := Int.tmod_lt_of_pos (j : Int) hc0
    have d1 : 0 ≤ Int.tdiv (j : Int) (content.length : Int) := Int.tdiv_nonneg (Int.natCast_nonneg j) (Int.le_of_lt hc0)
    have d2 : Int.tdiv (j : Int) (content.length : Int) ≤ (j : Int) := Int.tdiv_le_self _ (Int.natCast_nonneg j)
    have hne : ofN content.length ≠ 0 := fun e => by
      have e : (content.length : Int) = 0 := e
      omega
    refine ⟨hne, ⟨m1, m2⟩, ⟨hne, by show inI64 (Int.tdiv (j : Int) (content.length : Int)); unfold inI64; omega⟩, ⟨by show (0 : Int) ≤ (j : Int); omega, by show (j : Int) < (file.length : Int); rw [hy2]; omega⟩, by show j < file.length; rw [hy2]; omega, by show inI64 ((j : Int) + 1); unfold inI64; omega, (j + 1, _), ⟨by dsimp only; omega, by dsimp only; rw [List.length_set]; exact hy2⟩, by dsimp only; omega, rfl, rfl⟩
  obtain ⟨j, file⟩ := y
  obtain ⟨hy1, hy2⟩ := hy
  dsimp only at hy2 ⊢
  clear q q2 hy1
  refine ⟨⟨hof, by show 1 ≤ 1000000; decide⟩, fun q => q, fun _ => ⟨ofK_ok _ _, fun q3 => ?_, fun q3 => ?_, fun q3 => ?_⟩⟩
  · simp only [Bool.or_eq_false_iff, decide_eq_false_iff_not] at q3
    unfold inI64; omega
  · have hE : seekE ([102#8], sumP l, 1, l) 0 from_ size = 5 := by
      have : (decide (min from_ size < 0) || decide (sumP l < from_) || decide (sumP l - from_ < size)) = true := by
        simp only [Bool.or_eq_true, decide_eq_true_eq] at q3 ⊢
        rcases q3 with ((h | h) | h) | h
        · exact .inl (.inl (by omega))
        · exact .inl (.inl (by omega))
        · exact .inl (.inr h)
        · exact .inr h
      show (bif decide (min from_ size < 0) || decide (sumP l < from_) || decide (sumP l - from_ < size) then (5 : Int) else 0) = 5
      rw [this]; rfl
    have hP : slP l from_ size = [] := by unfold slP slSV; rw [recF_stat hsz]; unfold seekP; rw [hE]; rfl
    rw [hE, hP]; rfl
  simp only [Bool.or_eq_false_iff, decide_eq_false_iff_not] at q3
  obtain ⟨⟨⟨r1, r2⟩, r3⟩, r4⟩ := q3
  have hE : seekE ([102#8], sumP l, 1, l) 0 from_ size = 0 := by
    have : (decide (min from_ size < 0) || decide (sumP l < from_) || decide (sumP l - from_ < size)) = false := by
      simp only [Bool.or_eq_false_iff, decide_eq_false_iff_not]
      exact ⟨⟨by omega, r3⟩, r4⟩
    show (bif decide (min from_ size < 0) || decide (sumP l < from_) || decide (sumP l - from_ < size) then (5 : Int) else 0) = 0
    rw [this]; rfl
  have hP : slP l from_ size = partsV l from_ size := by unfold slP slSV; rw [recF_stat hsz]; unfold seekP; rw [hE]; rfl
  rw [hE, hP]
  have hfl : (file.length : Int) = sumP l := by omega
  -- the first piece
  have hul : upV (endsK l l.length) from_ ≤ l.length := by
    have := up_le (endsK l l.length) from_
    rwa [endsK_len] at this
  have hri := rise_ends hok from_ l.length
  have hSu : sumN l (upV (endsK l l.length) from_) ≤ from_ := by
    cases hu : upV (endsK l l.length) from_ with
    | zero => show sumN l 0 ≤ from_; show (0 : Int) ≤ from_; omega
    | succ u =>
      have h := hri u (by rw [endsK_len]; omega)
      rw [endsK_get l (by omega), hu, decide_eq_false (by omega)] at h
      have := of_decide_eq_false h
      omega
  have hSg : ∀ i, upV (endsK l l.length) from_ ≤ i → i < l.length → from_ < sumN l (i + 1) := fun i h1 h2 => by
    have h := hri i (by rw [endsK_len]; omega)
    rw [endsK_get l h2, decide_eq_true h1] at h
    exact of_decide_eq_true h
  have hpv : ∀ t, t < (partsV l from_ size).length → ∃ h : upV (endsK l l.length) from_ + t < l.length, sumN l (upV (endsK l l.length) from_ + t) < from_ + size ∧ 0 < size ∧ (partsV l from_ size).getD t T_Part.dflt = (l[upV (endsK l l.length) from_ + t].1, l[upV (endsK l l.length) from_ + t].2, max (from_ - sumN l (upV (endsK l l.length) from_ + t)) 0, min (from_ + size - sumN l (upV (endsK l l.length) from_ + t)) l[upV (endsK l l.length) from_ + t].2) := fun t ht => by
    unfold partsV at ht ⊢
    cases hz0 : decide (0 < size) with
    | false => rw [hz0] at ht; exact absurd ht (Nat.not_lt_zero _)
    | true =>
      rw [hz0, cond_true] at ht
      rw [cond_true]
      obtain ⟨h1, h2, h3⟩ := (partsL_spec (l := l) (from_ := from_) (to_ := from_ + size) (l.length - upV (endsK l l.length) from_) (upV (endsK l l.length) from_) (by omega)).1 t ht
      exact ⟨h1, h2, of_decide_eq_true hz0, h3⟩
  have hend : min (from_ + size) (sumN l (upV (endsK l l.length) from_ + (partsV l from_ size).length)) - from_ = size ∨ (size = 0 ∧ min (from_ + size) (sumN l (upV (endsK l l.length) from_ + (partsV l from_ size).length)) - from_ ≤ 0) := by
    cases hz0 : decide (0 < size) with
    | false =>
      have h0 := of_decide_eq_false hz0
      refine .inr ⟨by omega, by omega⟩
    | true =>
      have h0 := of_decide_eq_true hz0
      have e : partsV l from_ size = partsL (sumN l (upV (endsK l l.length) from_)) from_ (from_ + size) (l.drop (upV (endsK l l.length) from_)) := by unfold partsV; rw [hz0]; rfl
      rw [e]
      refine .inl ?_
      rcases (partsL_spec (l := l) (from_ := from_) (to_ := from_ + size) (l.length - upV (endsK l l.length) from_) (upV (endsK l l.length) from_) (by omega)).2 with h | h
      · rw [h, sumN_all]; omega
      · omega
  generalize partsV l from_ size = parts at hpv hend ⊢
  refine ⟨⟨(0, []), ⟨Nat.zero_le _, ?_⟩, ⟨rfl, rfl⟩, rfl⟩, fun z hz2 => ⟨fun q4 => ?_, fun q4 => ?_⟩⟩
  · dsimp only
    rw [Nat.add_zero]
    have : (min (from_ + size) (sumN l (upV (endsK l l.length) from_)) - from_).toNat = 0 := by omega
    rw [this]; rfl
  · obtain ⟨t, got⟩ := z
    obtain ⟨z1, z2⟩ := hz2
    dsimp only at z1 z2 q4 ⊢
    have ht : t < parts.length := by
      have h : (t : Int) < (parts.length : Int) := of_decide_eq_true q4
      omega
    obtain ⟨p1, p2, p3, p4⟩ := hpv t ht
    have p4' : List.getD parts (Int.toNat (ofN t)) (T.dflt (T.pair (T.arr 32 T.u8) (T.pair T.i64 (T.pair T.i64 T.i64)))) = _ := p4
    have hwt : within (ofN t) parts.length := ⟨by show (0 : Int) ≤ (t : Int); omega, by show (t : Int) < (parts.length : Int); omega⟩
    have hg := hSg (upV (endsK l l.length) from_ + t) (by omega) p1
    have hdi := hdig (upV (endsK l l.length) from_ + t) p1
    have hS := sumN_succ p1
    have hSl := sumN_le hok (upV (endsK l l.length) from_ + t + 1)
    have hS0 := sumN_nonneg hok (upV (endsK l l.length) from_ + t)
    have hgd : l.getD (upV (endsK l l.length) from_ + t) (T.dflt (T.pair (T.arr 32 T.u8) T.i64)) = l[upV (endsK l l.length) from_ + t] := by simp [List.getD, p1]
    rw [hgd] at hS
    rw [p4']
    have hk0 : BitVec.toNat (List.getD (l[upV (endsK l l.length) from_ + t]).1 (Int.toNat 0) 0#8) = upV (endsK l l.length) from_ + t := hdi
    dsimp only
    rw [hk0]
    generalize hi : upV (endsK l l.length) from_ + t = i at p1 p2 hg hS hSl hS0 hgd hk0 z2 ⊢
    have hgi : List.getD l (Int.toNat (ofN i)) (T.dflt (T.pair (T.arr 32 T.u8) T.i64)) = l[i] := hgd
    rw [hgi]
    have hwi : within (ofN i) l.length := ⟨by show (0 : Int) ≤ (i : Int); omega, by show (i : Int) < (l.length : Int); omega⟩
    have hpi : @LE.le Int _ 1 (l[i]).2 := by
      have := List.all_eq_true.1 hok _ (List.getElem_mem p1)
      unfold okPie at this
      simp only [Bool.and_eq_true, decide_eq_true_eq] at this
      exact this.1
    obtain ⟨N, hN⟩ : ∃ N : Int, N = (l[i]).2 := ⟨_, rfl⟩
    rw [← hN] at hpi
    rw [← hN] at hS ⊢
    have hNn : N = sumN l (i + 1) - sumN l i := by omega
    have c1 : decide (ofN l.length ≤ ofN i) = false := decide_eq_false (by show ¬ (l.length : Int) ≤ (i : Int); omega)
    have c2 : (N != N) = false := by simp
    have c3 : decide (max (from_ - sumN l i) 0 < 0) = false := decide_eq_false (by omega)
    have c4 : decide (min (from_ + size - sumN l i) N ≤ max (from_ - sumN l i) 0) = false := decide_eq_false (by omega)
    have c5 : decide (N < min (from_ + size - sumN l i) N) = false := decide_eq_false (by omega)
    refine ⟨hwt, ⟨by decide, by decide⟩, ⟨0, ⟨Nat.zero_le _, by show (0 : Int) ≤ max (i : Int) 0; omega⟩, rfl, rfl⟩, fun m hm => ⟨fun q5 => ?_, fun q5 => ?_⟩⟩
    · simp only [Bool.and_eq_true] at q5
      have m1 : (m : Int) < (i : Int) := of_decide_eq_true q5.1
      have hml : m < l.length := by omega
      have hSm := (sumN_succ hml).symm
      have hSm' : sumN l m + (List.getD l (Int.toNat (ofN m)) (T.dflt (T.pair (T.arr 32 T.u8) T.i64))).2 = sumN l (m + 1) := hSm
      rw [hSm']
      have b0 := sumN_nonneg hok (m + 1)
      have b1 := sumN_le hok (m + 1)
      exact ⟨⟨by show (0 : Int) ≤ (m : Int); omega, by show (m : Int) < (l.length : Int); omega⟩, by unfold inI64; omega, by show inI64 ((m : Int) + 1); unfold inI64; omega, m + 1, ⟨hml, by show ((m + 1 : Nat) : Int) ≤ max (i : Int) 0; omega⟩, by omega, rfl, rfl⟩
    · have hmi : m = i := by
        have hm2 : (m : Int) ≤ max (i : Int) 0 := hm.2
        simp only [Bool.and_eq_false_iff] at q5
        rcases q5 with q5 | q5
        · have : ¬ (m : Int) < (i : Int) := of_decide_eq_false q5
          omega
        · have : ¬ (m : Int) < (l.length : Int) := of_decide_eq_false q5
          omega
      subst hmi
      rw [c1, c2, c3, c4, c5]
      refine ⟨fun _ => hwt, fun _ => hwi, fun _ => hwt, fun _ => hwt, fun _ => hwt, fun _ => hwt, fun _ => hwt, fun q => (by cases q), fun _ => ⟨hwt, by unfold inI64; omega, hwt, by unfold inI64; omega, ⟨by omega, by omega, by show sumN l m + min (from_ + size - sumN l m) N ≤ (file.length : Int); omega⟩, ?_, by show inI64 ((t : Int) + 1); unfold inI64; omega, (t + 1, _), ⟨ht, ?_⟩, by dsimp only; omega, ⟨rfl, rfl⟩, rfl⟩⟩
      · rw [z2, List.length_drop, List.length_take, List.length_take, List.length_drop]
        unfold ROOM; omega
      · dsimp only
        have ei : upV (endsK l l.length) from_ + (t + 1) = m + 1 := by omega
        rw [ei, z2]
        have e1 : (sumN l m + max (from_ - sumN l m) 0).toNat = (max from_ (sumN l m)).toNat := by omega
        have e2 : (sumN l m + min (from_ + size - sumN l m) N).toNat = (min (from_ + size) (sumN l (m + 1))).toNat := by omega
        have e3 : (min (from_ + size) (sumN l m) - from_).toNat = (max from_ (sumN l m)).toNat - from_.toNat := by omega
        have e4 : (min (from_ + size) (sumN l (m + 1)) - from_).toNat = (min (from_ + size) (sumN l (m + 1))).toNat - from_.toNat := by omega
        rw [e1, e2, e3, e4]
        exact seg_eq file (by omega) (by omega)
  · obtain ⟨t, got⟩ := z
    obtain ⟨z1, z2⟩ := hz2
    dsimp only at z1 z2 q4 ⊢
    have ht : t = parts.length := by
      have h : ¬ (t : Int) < (parts.length : Int) := of_decide_eq_false q4
      omega
    subst ht
    refine ⟨fun _ => by unfold inI64; omega, fun _ => ⟨by omega, by omega, by show from_ + size ≤ (file.length : Int); omega⟩, ?_⟩
    have hgot : got = List.drop (Int.toNat from_) (List.take (Int.toNat (from_ + size)) file) := by
      rw [z2, List.drop_take]
      congr 1
      rcases hend with h | ⟨h1, h2⟩
      · rw [h]; omega
      · omega
    rw [hgot]; simp

theorem law15_alive_spec : Vse.Spec P f_law15_alive c_nAlive := spec_fn (l := [(f_law15_file, c_file), (f_names_Of, c_nOf), (f_names_Names_Seek, c_Seek)]) ⟨law15_file_spec, names_Of_spec, names_Seek_spec, trivial⟩ h_law15_alive rfl rfl fun _ _ _ => body_ok an_Al law15_alive_vc (by kernel_rfl)

theorem law15_NamesSlices_spec : Vse.Spec P f_law15_NamesSlices (c_lw15 [.slc .u16, .slc .u8, .i64, .i64]) := spec_fn (l := [(f_names_Of, c_nOf), (f_names_Names_Seek, c_Seek), (f_law15_alive, c_nAlive)]) ⟨names_Of_spec, names_Seek_spec, law15_alive_spec, trivial⟩ h_law15_NamesSlices rfl rfl fun x _ ok => by
  obtain ⟨sizes, content, from_, size, _⟩ := x
  exact body_ok (an_Sl sizes from_ size) (law15_NamesSlices_vc sizes content from_ size ok.1.1 ok.2.1.1 ok.2.2.1 ok.2.2.2.1) (by kernel_rfl)

end Go.Sal
