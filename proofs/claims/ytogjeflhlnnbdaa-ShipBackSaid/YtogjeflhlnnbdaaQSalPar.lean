/- Records of bytes. No program in sight. -/
import Derived.Test.YtogjeflhlnnbdaaQSalRec
set_option maxRecDepth 100000
namespace Go.Sal
open Go.Vse
theorem readP_le : ∀ (b : Bytes) (i x : Nat), (readN b i x).2.1 ≤ i + b.length
  | [], i, x => Nat.le_refl _
  | c :: r, i, x => by
    unfold readN
    split
    · simp
    · split
      · simp
      · have := readP_le r (i + 1) (x + (c.toNat - 128) * 128 ^ i)
        simp; omega
-- what comes first, and what is left
def okTake (n : Int) (s : Bytes) : Bool := decide (0 ≤ n) && decide (n ≤ (s.length : Int))
def okByte (s : Bytes) : Bool := decide (1 ≤ s.length)
def valByte (s : Bytes) : Int := ((s.getD 0 0#8).toNat : Int)
def offByte (s : Bytes) : Bytes := s.drop 1
def okNum (s : Bytes) : Bool := decide ((readN s 0 0).2.2 = 0) && decide ((BitVec.ofNat 64 (readN s 0 0).1).toNat ≤ 1073741824)
def valNum (s : Bytes) : Int := ((BitVec.ofNat 64 (readN s 0 0).1).toNat : Int)
def offNum (s : Bytes) : Bytes := s.drop (readN s 0 0).2.1
def okDig (s : Bytes) : Bool := decide (32 ≤ s.length)
abbrev DigP := T_Dig.den
def valDig (s : Bytes) : DigP := s.take 32
def offDig (s : Bytes) : Bytes := s.drop 32
/-- pieces: which, and what is left -/
def piesS (s : Bytes) : Nat → List Pie × Bytes
  | 0 => ([], s)
  | k + 1 => ((piesS s k).1 ++ [(valDig (offNum (piesS s k).2), valNum (piesS s k).2)], offDig (offNum (piesS s k).2))
def okPies (s : Bytes) : Nat → Bool
  | 0 => true
  | k + 1 => okPies s k && (okNum (piesS s k).2 && okDig (offNum (piesS s k).2))
def at2 (s : Bytes) : Bytes := offByte (offByte s)
def at3 (s : Bytes) : Bytes := offNum (at2 s)
def at4 (s : Bytes) : Bytes := offNum (at3 s)
def at5 (s : Bytes) : Bytes := offDig (at4 s)
def at6 (s : Bytes) : Bytes := offByte (at5 s)
def at7 (s : Bytes) : Bytes := (at6 s).drop (valByte (at5 s)).toNat
def at8 (s : Bytes) : Bytes := offNum (at7 s)
def kindP (s : Bytes) : Int := valByte (offByte s)
def headOkP (s : Bytes) : Bool := okByte (offByte s) && okNum (at2 s) && okNum (at3 s) && okDig (at4 s) && okByte (at5 s)
def tailOkP (s : Bytes) : Bool := bif decide (kindP s = 1) then true else okTake (valByte (at5 s)) (at6 s) && (bif decide (kindP s = 2) then okNum (at7 s) && okPies (at8 s) (valNum (at7 s)).toNat else true)
def okRec (s : Bytes) : Bool := okByte s && decide (valByte s = 82) && headOkP s && tailOkP s
def pathP (s : Bytes) : Bytes := (at6 s).take (valByte (at5 s)).toNat
def recP (s : Bytes) : Rec :=
  if kindP s = 1 then (valNum (at2 s), valNum (at3 s), valDig (at4 s), kindP s, valByte (at5 s), [], [])
  else if kindP s = 2 then (valNum (at2 s), valNum (at3 s), valDig (at4 s), kindP s, 0, pathP s, (piesS (at8 s) (valNum (at7 s)).toNat).1)
  else (valNum (at2 s), valNum (at3 s), valDig (at4 s), kindP s, 0, pathP s, [])
def restP (s : Bytes) : Bytes :=
  if kindP s = 1 then at6 s else if kindP s = 2 then (piesS (at8 s) (valNum (at7 s)).toNat).2 else at7 s
def parseV (b : Bytes) : Rec × Int :=
  if b.length ≤ 262144 then (if okRec b = true ∧ bytesV (recP b) = (b, 0) then (recP b, 0) else (rec0, 130)) else (rec0, 2)
theorem okRec_parts {s : Bytes} (h : okRec s = true) : okByte s = true ∧ valByte s = 82 ∧ okByte (offByte s) = true ∧ okNum (at2 s) = true ∧ okNum (at3 s) = true ∧ okDig (at4 s) = true ∧ okByte (at5 s) = true ∧
    (¬ kindP s = 1 → okTake (valByte (at5 s)) (at6 s) = true ∧ (kindP s = 2 → okNum (at7 s) = true ∧ okPies (at8 s) (valNum (at7 s)).toNat = true)) := by
  unfold okRec headOkP at h
  simp only [Bool.and_eq_true, decide_eq_true_eq] at h
  obtain ⟨⟨⟨h1, h2⟩, ⟨⟨⟨h3, h4⟩, h5⟩, h6⟩, h7⟩, h8⟩ := h
  refine ⟨h1, h2, h3, h4, h5, h6, h7, fun k => ?_⟩
  unfold tailOkP at h8
  rw [decide_eq_false k, cond_false, Bool.and_eq_true] at h8
  refine ⟨h8.1, fun q => ?_⟩
  have h9 := h8.2
  rw [decide_eq_true q, cond_true, Bool.and_eq_true] at h9
  exact h9
theorem okRec_of {s : Bytes} (h1 : okByte s = true) (h2 : valByte s = 82) (h3 : okByte (offByte s) = true) (h4 : okNum (at2 s) = true) (h5 : okNum (at3 s) = true) (h6 : okDig (at4 s) = true) (h7 : okByte (at5 s) = true)
    (h8 : ¬ kindP s = 1 → okTake (valByte (at5 s)) (at6 s) = true ∧ (kindP s = 2 → okNum (at7 s) = true ∧ okPies (at8 s) (valNum (at7 s)).toNat = true)) : okRec s = true := by
  unfold okRec headOkP tailOkP
  rw [h1, decide_eq_true h2, h3, h4, h5, h6, h7]
  by_cases k : kindP s = 1
  · rw [decide_eq_true k]; rfl
  · obtain ⟨t1, t2⟩ := h8 k
    rw [decide_eq_false k, t1]
    by_cases q : kindP s = 2
    · obtain ⟨t3, t4⟩ := t2 q
      rw [decide_eq_true q, t3, t4]; rfl
    · rw [decide_eq_false q]; rfl
theorem okPies_le {s : Bytes} : ∀ {n k : Nat}, okPies s n = true → k ≤ n → okPies s k = true
  | 0, k, h, hk => by rw [Nat.le_zero.1 hk]; exact h
  | n + 1, k, h, hk => by
    rcases Nat.lt_or_ge n k with h1 | h1
    · rw [show k = n + 1 by omega]; exact h
    · rw [okPies, Bool.and_eq_true] at h
      exact okPies_le h.1 h1
theorem okPies_lt {s : Bytes} {n k : Nat} (h : okPies s n = true) (hk : k < n) : okNum (piesS s k).2 = true ∧ okDig (offNum (piesS s k).2) = true := by
  have := okPies_le h (show k + 1 ≤ n from hk)
  rw [okPies, Bool.and_eq_true, Bool.and_eq_true] at this
  exact this.2
theorem pies_length (s : Bytes) : ∀ k, (piesS s k).1.length = k
  | 0 => rfl
  | k + 1 => by simp [piesS, pies_length s k]
theorem valNum_le {s : Bytes} (h : okNum s = true) : 0 ≤ valNum s ∧ valNum s ≤ 1073741824 := by
  unfold okNum at h
  simp only [Bool.and_eq_true, decide_eq_true_eq] at h
  unfold valNum
  omega
end Go.Sal
