/- Records of bytes. No program in sight. -/
import Derived.Test.YtogjeflhlnnbdaaWSalWord
set_option maxRecDepth 100000
namespace Go.Sal
open Go.Vse
theorem readP_le : ∀ (b : Bytes) (i x : Nat), (readN b i x).2.1 ≤ i + b.length
 | [], i, x => Nat.le_refl _
 | c :: r, i, x => by
   unfold readN
   split
   · simp
   · split
     · simp
     · have := readP_le r (i + 1) (x + (c.toNat - 128) * 128 ^ i)
       simp; omega
def okTake (n : Int) (s : Bytes) : Bool := decide (0 ≤ n) && decide (n ≤ (s.length : Int))
def okByte (s : Bytes) : Bool := decide (1 ≤ s.length)
def valByte (s : Bytes) : Int := ((s.getD 0 0#8).toNat : Int)
def offByte (s : Bytes) : Bytes := s.drop 1
def okNum (s : Bytes) : Bool := decide ((readN s 0 0).2.2 = 0) && decide ((BitVec.ofNat 64 (readN s 0 0).1).toNat ≤ 1073741824)
def valNum (s : Bytes) : Int := ((BitVec.ofNat 64 (readN s 0 0).1).toNat : Int)
def offNum (s : Bytes) : Bytes := s.drop (readN s 0 0).2.1
def okDig (s : Bytes) : Bool := decide (32 ≤ s.length)
abbrev DigP := T_Dig.den
def valDig (s : Bytes) : DigP := s.take 32
def offDig (s : Bytes) : Bytes := s.drop 32
def piesS (s : Bytes) : Nat → List Pie × Bytes
 | 0 => ([], s)
 | k + 1 => ((piesS s k).1 ++ [(valDig (offNum (piesS s k).2), valNum (piesS s k).2)], offDig (offNum (piesS s k).2))
def okPies (s : Bytes) : Nat → Bool
 | 0 => true
 | k + 1 => okPies s k && (okNum (piesS s k).2 && okDig (offNum (piesS s k).2))
def at2 (s : Bytes) : Bytes := offByte (offByte s)
def at3 (s : Bytes) : Bytes := offNum (at2 s)
def at4 (s : Bytes) : Bytes := offNum (at3 s)
def at5 (s : Bytes) : Bytes := offDig (at4 s)
def at6 (s : Bytes) : Bytes := offByte (at5 s)
def at7 (s : Bytes) : Bytes := (at6 s).drop (valByte (at5 s)).toNat
def at8 (s : Bytes) : Bytes := offNum (at7 s)
def kindP (s : Bytes) : Int := valByte (offByte s)
def headOkP (s : Bytes) : Bool := okByte (offByte s) && okNum (at2 s) && okNum (at3 s) && okDig (at4 s) && okByte (at5 s)
def tailOkP (s : Bytes) : Bool := bif decide (kindP s = 1) then true else okTake (valByte (at5 s)) (at6 s) && (bif decide (kindP s = 2) then okNum (at7 s) && okPies (at8 s) (valNum (at7 s)).toNat else true)
def okRec (s : Bytes) : Bool := okByte s && decide (valByte s = 82) && headOkP s && tailOkP s
def pathP (s : Bytes) : Bytes := (at6 s).take (valByte (at5 s)).toNat
def recP (s : Bytes) : Rec :=
 if kindP s = 1 then (valNum (at2 s), valNum (at3 s), valDig (at4 s), kindP s, valByte (at5 s), [], [])
 else if kindP s = 2 then (valNum (at2 s), valNum (at3 s), valDig (at4 s), kindP s, 0, pathP s, (piesS (at8 s) (valNum (at7 s)).toNat).1)
 else (valNum (at2 s), valNum (at3 s), valDig (at4 s), kindP s, 0, pathP s, [])
def restP (s : Bytes) : Bytes :=
 if kindP s = 1 then at6 s else if kindP s = 2 then (piesS (at8 s) (valNum (at7 s)).toNat).2 else at7 s
def parseV (b : Bytes) : Rec × Int :=
 if b.length ≤ 262144 then (if okRec b = true ∧ bytesV (recP b) = (b, 0) then (recP b, 0) else (rec0, 130)) else (rec0, 2)
theorem okRec_parts {s : Bytes} (h : okRec s = true) : okByte s = true ∧ valByte s = 82 ∧ okByte (offByte s) = true ∧ okNum (at2 s) = true ∧ okNum (at3 s) = true ∧ okDig (at4 s) = true ∧ okByte (at5 s) = true ∧
 (¬ kindP s = 1 → okTake (valByte (at5 s)) (at6 s) = true ∧ (kindP s = 2 → okNum (at7 s) = true ∧ okPies (at8 s) (valNum (at7 s)).toNat = true)) := by
 unfold okRec headOkP at h
 simp only [Bool.and_eq_true, decide_eq_true_eq] at h
 obtain ⟨⟨⟨h1, h2⟩, ⟨⟨⟨h3, h4⟩, h5⟩, h6⟩, h7⟩, h8⟩ := h
 refine ⟨h1, h2, h3, h4, h5, h6, h7, fun k => ?_⟩
 unfold tailOkP at h8
 rw [decide_eq_false k, cond_false, Bool.and_eq_true] at h8
 refine ⟨h8.1, fun q => ?_⟩
 have h9 := h8.2
 rw [decide_eq_true q, cond_true, Bool.and_eq_true] at h9
 exact h9
theorem okRec_of {s : Bytes} (h1 : okByte s = true) (h2 : valByte s = 82) (h3 : okByte (offByte s) = true) (h4 : okNum (at2 s) = true) (h5 : okNum (at3 s) = true) (h6 : okDig (at4 s) = true) (h7 : okByte (at5 s) = true)
 (h8 : ¬ kindP s = 1 → okTake (valByte (at5 s)) (at6 s) = true ∧ (kindP s = 2 → okNum (at7 s) = true ∧ okPies (at8 s) (valNum (at7 s)).toNat = true)) : okRec s = true := by
 unfold okRec headOkP tailOkP
 rw [h1, decide_eq_true h2, h3, h4, h5, h6, h7]
 by_cases k : kindP s = 1
 · rw [decide_eq_true k]; rfl
 · obtain ⟨t1, t2⟩ := h8 k
   rw [decide_eq_false k, t1]
   by_cases q : kindP s = 2
   · obtain ⟨t3, t4⟩ := t2 q
     rw [decide_eq_true q, t3, t4]; rfl
   · rw [decide_eq_false q]; rfl
theorem okPies_le {s : Bytes} : ∀ {n k : Nat}, okPies s n = true → k ≤ n → okPies s k = true
 | 0, k, h, hk => by rw [Nat.le_zero.1 hk]; exact h
 | n + 1, k, h, hk => by
   rcases Nat.lt_or_ge n k with h1 | h1
   · rw [show k = n + 1 by omega]; exact h
   · rw [okPies, Bool.and_eq_true] at h
     exact okPies_le h.1 h1
theorem okPies_lt {s : Bytes} {n k : Nat} (h : okPies s n = true) (hk : k < n) : okNum (piesS s k).2 = true ∧ okDig (offNum (piesS s k).2) = true := by
 have := okPies_le h (show k + 1 ≤ n from hk)
 rw [okPies, Bool.and_eq_true, Bool.and_eq_true] at this
 exact this.2
theorem pies_length (s : Bytes) : ∀ k, (piesS s k).1.length = k
 | 0 => rfl
 | k + 1 => by simp [piesS, pies_length s k]
theorem valNum_le {s : Bytes} (h : okNum s = true) : 0 ≤ valNum s ∧ valNum s ≤ 1073741824 := by
 unfold okNum at h
 simp only [Bool.and_eq_true, decide_eq_true_eq] at h
 unfold valNum
 omega
end Go.Sal

set_option maxRecDepth 100000
namespace Go.Sal
open Go.Vse
abbrev RSt := Bytes × Bool
def stepR (ok : Bytes → Bool) (off : Bytes → Bytes) (q : RSt) : RSt := bif !q.2 && ok q.1 then (off q.1, false) else (q.1, true)
theorem stepR_go {ok : Bytes → Bool} {off : Bytes → Bytes} {s : Bytes} (h : ok s = true) : stepR ok off (s, false) = (off s, false) := by
 unfold stepR
 rw [h]; rfl
def rB (q : RSt) : RSt := stepR okByte offByte q
def rN (q : RSt) : RSt := stepR okNum offNum q
def rD (q : RSt) : RSt := stepR okDig offDig q
def q1 (b : Bytes) : RSt := rB (b, false)
def q2 (b : Bytes) : RSt := rB (q1 b)
def q3 (b : Bytes) : RSt := rN (q2 b)
def q4 (b : Bytes) : RSt := rN (q3 b)
def q5 (b : Bytes) : RSt := rD (q4 b)
end Go.Sal

namespace Go.Sal
open Go.Vse
end Go.Sal

namespace Go.Sal
open Go.Vse
abbrev T_Mark : T := .pair .i64 (.pair .i64 (.pair .i64 (.pair T_Dig T_Dig)))
abbrev Mark := T_Mark.den
def headM (m : Mark) : HeadT := (m.2.1, m.2.2.1, m.2.2.2.1)
def isHeadV (h : HeadT) : Bool := decide (h = head0) || decide ((1 : Int) ≤ h.1 ∧ h.1 ≤ 1073741824 ∧ (1 : Int) ≤ h.2.1 ∧ h.2.1 ≤ 1073741824)
def mayV (m : Mark) : Bool := (decide (m.1 = 0) || decide (m.1 = 1)) && isHeadV (headM m)
def mcheckV (m : Mark) : Int := if mayV m = true then 0 else 160
end Go.Sal

namespace Go.Sal
open Go.Vse
end Go.Sal

set_option maxRecDepth 100000
namespace Go.Sal
open Go.Vse
end Go.Sal

set_option maxRecDepth 100000
namespace Go.Sal
open Go.Vse
end Go.Sal

set_option maxRecDepth 100000
namespace Go.Sal
open Go.Vse
end Go.Sal

set_option maxRecDepth 100000
namespace Go.Sal
open Go.Vse
abbrev T_Msg : T := .pair .i64 (.pair T_Head (.pair .i64 (.pair T_Dig (.pair T_Rec (.pair (.slc T_Dig) (.slc .u8))))))
abbrev Msg := T_Msg.den
def msg0 : Msg := (0, head0, 0, zero32, rec0, [], [])
def sel {α : Type} (k : Int) (h a c t p w ch g d : α) : α :=
 if k = 1 then h else if k = 9 then h else if k = 2 then a else if k = 3 then c else if k = 4 then t else if k = 5 then p else if k = 6 then w else if k = 10 then w else if k = 7 then ch else if k = 8 then g else d
def cmpV : Bytes → Bytes → Int
 | [], [] => 0
 | [], _ :: _ => -1
 | _ :: _, [] => 1
 | a :: r, b :: s => if a.toNat < b.toNat then -1 else if b.toNat < a.toNat then 1 else cmpV r s
def ascB (l : List DigP) (i : Nat) : Bool := decide (cmpV (l.getD i T_Dig.dflt) (l.getD (i + 1) T_Dig.dflt) < 0)
def ascV (l : List DigP) : Bool := (List.range (l.length - 1)).all (ascB l)
def rowV (l : List DigP) : Bool := decide (1 ≤ l.length) && decide (l.length ≤ 64) && ascV l
def seqV (n least : Int) : Bool := decide (least ≤ n) && decide (n ≤ 1073741824)
def onlyV (m : Msg) : Msg := sel m.1 (m.1, m.2.1, 0, zero32, rec0, [], []) (m.1, head0, m.2.2.1, zero32, rec0, [], []) (m.1, head0, m.2.2.1, m.2.2.2.1, rec0, [], []) (m.1, head0, m.2.2.1, m.2.2.2.1, rec0, [], [])
 (m.1, head0, 0, zero32, m.2.2.2.2.1, [], []) (m.1, head0, 0, zero32, rec0, m.2.2.2.2.2.1, []) (m.1, head0, 0, zero32, rec0, [], m.2.2.2.2.2.2) (m.1, head0, 0, m.2.2.2.1, rec0, [], []) (m.1, head0, 0, zero32, rec0, [], [])
def chunkV (b : Bytes) : Bool := decide (1 ≤ b.length) && decide (b.length ≤ 4096)
def cutOk (m : Msg) : Bool := seqV m.2.2.1 0 && (decide (0 < m.2.2.1) || (m.2.2.2.1 == zero32))
def okMsg (m : Msg) : Bool := sel m.1 (isHeadV m.2.1) (seqV m.2.2.1 1) (seqV m.2.2.1 1) (cutOk m) (decide (checkV m.2.2.2.2.1 = 0)) (rowV m.2.2.2.2.2.1) (chunkV m.2.2.2.2.2.2) true false
def sameHead (a b : HeadT) : Bool := decide (a.1 = b.1) && decide (a.2.1 = b.2.1) && (a.2.2 == b.2.2)
def sameDg (a b : List DigP) : Bool := decide (a = b)
def sameM (s t : Msg) : Bool := decide (s.1 = t.1) && sameHead s.2.1 t.2.1 && decide (s.2.2.1 = t.2.2.1) && (s.2.2.2.1 == t.2.2.2.1) && sameV s.2.2.2.2.1 t.2.2.2.2.1 && sameDg s.2.2.2.2.2.1 t.2.2.2.2.2.1 && (s.2.2.2.2.2.2 == t.2.2.2.2.2.2)
def checkM (m : Msg) : Int := if okMsg m = true ∧ sameM (onlyV m) m = true then 0 else 200
def tailM (m : Msg) : Bytes := sel m.1 (varintN m.2.1.1.toNat ++ varintN m.2.1.2.1.toNat ++ m.2.1.2.2) (varintN m.2.2.1.toNat) (varintN m.2.2.1.toNat ++ m.2.2.2.1) (varintN m.2.2.1.toNat ++ m.2.2.2.1)
 (bytesV m.2.2.2.2.1).1 (BitVec.ofInt 8 (m.2.2.2.2.2.1.length : Int) :: m.2.2.2.2.2.1.flatten) m.2.2.2.2.2.2 m.2.2.2.1 []
def encM (m : Msg) : Bytes := BitVec.ofInt 8 m.1 :: tailM m
def bytesM (m : Msg) : Bytes × Int := if checkM m = 0 then (encM m, 0) else ([], 200)
def numV (s : Bytes) : Int := bif okNum s then valNum s else -1
def numR (s : Bytes) : Bytes := bif okNum s then offNum s else []
def digsV (b : Bytes) : List DigP := (List.range (b.length / 32)).map fun i => (b.drop (32 * i)).take 32
def fstDig (b : Bytes) : DigP := bif decide (32 ≤ b.length) then b.take 32 else zero32
def kindM (b : Bytes) : Int := ((b.getD 0 0#8).toNat : Int)
def parseX (b : Bytes) : Msg := sel (kindM b) (kindM b, (numV (b.drop 1), numV (numR (b.drop 1)), fstDig (numR (numR (b.drop 1)))), 0, zero32, rec0, [], []) (kindM b, head0, numV (b.drop 1), zero32, rec0, [], [])
 (kindM b, head0, numV (b.drop 1), fstDig (numR (b.drop 1)), rec0, [], []) (kindM b, head0, numV (b.drop 1), fstDig (numR (b.drop 1)), rec0, [], []) (kindM b, head0, 0, zero32, (parseV (b.drop 1)).1, [], [])
 (kindM b, head0, 0, zero32, rec0, digsV (b.drop 2), []) (kindM b, head0, 0, zero32, rec0, [], b.drop 1) (kindM b, head0, 0, fstDig (b.drop 1), rec0, [], []) (kindM b, head0, 0, zero32, rec0, [], [])
def parseMs (b : Bytes) : Msg × Int := if 2 ≤ b.length ∧ bytesM (parseX b) = (b, 0) then (parseX b, 0) else (msg0, 200)
end Go.Sal

set_option maxRecDepth 100000
namespace Go.Sal
open Go.Vse
abbrev dig0 : DigP := T_Dig.dflt
def minTo (l : List DigP) : Nat → Nat
 | 0 => 0
 | i + 1 => if lessL (l.getD i dig0) (l.getD (minTo l i) dig0) = true then i else minTo l i
def minIx (l : List DigP) : Nat := minTo l l.length
def remV (l : List DigP) : List DigP := l.take (minIx l) ++ l.drop (minIx l + 1)
def restI (l : List DigP) : Nat → List DigP
 | 0 => l
 | j + 1 => remV (restI l j)
def outI (l : List DigP) (j : Nat) : List DigP := (List.range j).map fun i => (restI l i).getD (minIx (restI l i)) dig0
def sortV (l : List DigP) : List DigP := outI l l.length
def keepB (l : List DigP) (i : Nat) : Bool := decide (i = 0) || !(l.getD i dig0 == l.getD (i - 1) dig0)
def onceI (l : List DigP) (i : Nat) : List DigP := ((List.range i).filter (keepB l)).map fun k => l.getD k dig0
def onceV (l : List DigP) : List DigP := onceI l l.length
def risV (l : List DigP) : List DigP := onceV (sortV l)
end Go.Sal

set_option maxRecDepth 100000
namespace Go.Sal
open Go.Vse
theorem cmp_less : ∀ a b : Bytes, decide (cmpV a b < 0) = lessL a b
 | [], [] => rfl
 | [], _ :: _ => rfl
 | _ :: _, [] => rfl
 | x :: a, y :: b => by
   have ih := cmp_less a b
   unfold cmpV lessL
   have e : decide (x < y) = decide (x.toNat < y.toNat) := rfl
   rw [e]
   split
   · rename_i h; simp [h]
   · rename_i h
     split
     · rename_i k
       have : ¬ x = y := fun e => by subst e; omega
       simp [h, this]
     · rename_i k
       have : x = y := BitVec.eq_of_toNat_eq (by omega)
       subst this
       simp [ih]
theorem cmp_zero : ∀ a b : Bytes, cmpV a b = 0 ↔ a = b
 | [], [] => by simp [cmpV]
 | [], _ :: _ => by simp [cmpV]
 | _ :: _, [] => by simp [cmpV]
 | x :: a, y :: b => by
   have ih := cmp_zero a b
   unfold cmpV
   split
   · rename_i h
     simp only [List.cons.injEq]
     exact ⟨fun h => absurd h (by decide), fun e => by rw [e.1] at h; omega⟩
   · split
     · rename_i h
       simp only [List.cons.injEq]
       exact ⟨fun h => absurd h (by decide), fun e => by rw [e.1] at h; omega⟩
     · rename_i h k
       have : x = y := BitVec.eq_of_toNat_eq (by omega)
       subst this
       simp [ih]
theorem cmp_pos (a b : Bytes) : decide (0 < cmpV a b) = lessL b a := by
 cases h : lessL b a with
 | true =>
   have h1 := lessL_asym h
   rw [← cmp_less a b, decide_eq_false_iff_not] at h1
   have h2 : ¬ cmpV a b = 0 := fun e => by rw [(cmp_zero a b).1 e, lessL_irr] at h; cases h
   rw [decide_eq_true_eq]; omega
 | false =>
   rw [decide_eq_false_iff_not]
   intro hp
   have h1 : lessL a b = false := by rw [← cmp_less a b, decide_eq_false_iff_not]; omega
   have := (cmp_zero a b).2 (lessL_tri h1 h)
   omega

theorem minTo_lt (l : List DigP) : ∀ i, 1 ≤ i → minTo l i < i
 | 1, _ => by
   have e : minTo l 1 = 0 := by
    show (if _ then 0 else 0) = 0
    split <;> rfl
   rw [e]; omega
 | i + 2, _ => by
   have := minTo_lt l (i + 1) (by omega)
   unfold minTo
   split <;> omega
theorem minTo_least (l : List DigP) : ∀ i j, j < i → lessL (l.getD j dig0) (l.getD (minTo l i) dig0) = false
 | 0, j, h => by omega
 | i + 1, j, h => by
   unfold minTo
   by_cases hj : j < i
   · have ih := minTo_least l i j hj
     split
     · rename_i hl
       exact lessL_lele (lessL_asym hl) ih
     · exact ih
   · have : j = i := by omega
     subst this
     split
     · exact lessL_irr _
     · rename_i hl; simpa using hl
theorem minIx_lt {l : List DigP} (h : l ≠ []) : minIx l < l.length := minTo_lt l l.length (List.length_pos_iff.2 h)
theorem remV_length {l : List DigP} (h : l ≠ []) : (remV l).length = l.length - 1 := by
 have := minIx_lt h
 unfold remV
 rw [List.length_append, List.length_take, List.length_drop]
 omega
theorem restI_length (l : List DigP) : ∀ j, j ≤ l.length → (restI l j).length = l.length - j
 | 0, _ => rfl
 | j + 1, h => by
   have ih := restI_length l j (by omega)
   unfold restI
   rw [remV_length (fun e => by rw [e] at ih; simp at ih; omega), ih]
   omega
theorem remV_mem {l : List DigP} {d : DigP} (h : d ∈ remV l) : d ∈ l := by
 unfold remV at h
 rw [List.mem_append] at h
 rcases h with h | h
 · exact List.mem_of_mem_take h
 · exact List.mem_of_mem_drop h
theorem remV_perm {l : List DigP} (h : l ≠ []) : l.Perm (l.getD (minIx l) dig0 :: remV l) := by
 have hm := minIx_lt h
 have e : l = l.take (minIx l) ++ l.getD (minIx l) dig0 :: l.drop (minIx l + 1) := by
  rw [getD_lt hm, ← List.drop_eq_getElem_cons hm, List.take_append_drop]
 have := List.perm_middle (a := l.getD (minIx l) dig0) (l₁ := l.take (minIx l)) (l₂ := l.drop (minIx l + 1))
 rw [← e] at this
 exact this
theorem outI_length (l : List DigP) (j : Nat) : (outI l j).length = j := by unfold outI; simp
theorem outI_succ (l : List DigP) (j : Nat) : outI l (j + 1) = outI l j ++ [(restI l j).getD (minIx (restI l j)) dig0] := by
 unfold outI
 rw [List.range_succ, List.map_append]; rfl
theorem out_perm (l : List DigP) : ∀ j, j ≤ l.length → l.Perm (outI l j ++ restI l j)
 | 0, _ => by simp [outI, restI]
 | j + 1, h => by
   have ih := out_perm l j (by omega)
   have hl := restI_length l j (by omega)
   have hp := remV_perm (l := restI l j) (fun e => by rw [e] at hl; simp at hl; omega)
   rw [outI_succ, List.append_assoc]
   exact ih.trans (hp.append_left _)
theorem sort_perm (l : List DigP) : l.Perm (sortV l) := by
 have h := out_perm l l.length (Nat.le_refl _)
 have hl := restI_length l l.length (Nat.le_refl _)
 rw [List.eq_nil_of_length_eq_zero (by omega : (restI l l.length).length = 0), List.append_nil] at h
 exact h
theorem sort_length (l : List DigP) : (sortV l).length = l.length := outI_length l l.length
def upB (a b : Bytes) : Prop := lessL b a = false
theorem out_up (l : List DigP) : ∀ j, j ≤ l.length → (outI l j).Pairwise upB ∧ ∀ a ∈ outI l j, ∀ b ∈ restI l j, upB a b
 | 0, _ => ⟨by simp [outI], fun a h => by simp [outI] at h⟩
 | j + 1, h => by
   obtain ⟨h1, h2⟩ := out_up l j (by omega)
   have hl := restI_length l j (by omega)
   have hne : restI l j ≠ [] := fun e => by rw [e] at hl; simp at hl; omega
   have hm : (restI l j).getD (minIx (restI l j)) dig0 ∈ restI l j := by rw [getD_lt (minIx_lt hne)]; exact List.getElem_mem _
   have hleast : ∀ b ∈ restI l j, upB ((restI l j).getD (minIx (restI l j)) dig0) b := by
    intro b hb
    obtain ⟨k, hk, rfl⟩ := List.getElem_of_mem hb
    have := minTo_least (restI l j) (restI l j).length k hk
    rw [getD_lt hk] at this
    exact this
   rw [outI_succ]
   refine ⟨List.pairwise_append.2 ⟨h1, by simp, fun a ha b hb => ?_⟩, fun a ha b hb => ?_⟩
   · rw [List.mem_singleton] at hb
     subst hb
     exact h2 a ha _ hm
   · have hb' : b ∈ restI l j := remV_mem hb
     rw [List.mem_append, List.mem_singleton] at ha
     rcases ha with ha | rfl
     · exact h2 a ha b hb'
     · exact hleast b hb'
theorem sort_up (l : List DigP) : (sortV l).Pairwise upB := (out_up l l.length (Nat.le_refl _)).1
def risesB (a b : Bytes) : Prop := lessL a b = true
theorem onceI_succ (l : List DigP) (i : Nat) : onceI l (i + 1) = if keepB l i = true then onceI l i ++ [l.getD i dig0] else onceI l i := by
 unfold onceI
 rw [List.range_succ, List.filter_append, List.map_append]
 cases h : keepB l i <;> simp [h]
theorem once_rises {l : List DigP} (h : l.Pairwise upB) : ∀ i, i ≤ l.length → (onceI l i).Pairwise risesB ∧ (∀ a ∈ onceI l i, ∀ k, k + 1 = i → upB a (l.getD k dig0)) ∧ (∀ k, k < i → l.getD k dig0 ∈ onceI l i) ∧ ∀ a ∈ onceI l i, a ∈ l
 | 0, _ => ⟨by simp [onceI], fun a ha => by simp [onceI] at ha, fun k hk => by omega, fun a ha => by simp [onceI] at ha⟩
 | i + 1, hi => by
   obtain ⟨h1, h2, h3, h4⟩ := once_rises h i (by omega)
   have hge : ∀ a ∈ onceI l i, upB a (l.getD i dig0) := by
    intro a ha
    by_cases h0 : i = 0
    · subst h0; simp [onceI] at ha
    · have := h2 a ha (i - 1) (by omega)
      have hp : upB (l.getD (i - 1) dig0) (l.getD i dig0) := by
       rw [getD_lt (by omega), getD_lt (by omega)]
       exact List.pairwise_iff_getElem.1 h _ _ _ _ (by omega)
      exact lessL_lele this hp
   rw [onceI_succ]
   split
   · rename_i hk
     refine ⟨List.pairwise_append.2 ⟨h1, by simp, fun a ha b hb => ?_⟩, fun a ha k hk' => ?_, fun k hk' => ?_, fun a ha => ?_⟩
     · rw [List.mem_singleton] at hb
       subst hb
       by_cases h0 : i = 0
       · subst h0; simp [onceI] at ha
       · have hk2 : (l.getD i dig0 == l.getD (i - 1) dig0) = false := by
           unfold keepB at hk
           simpa [h0] using hk
         have ha' := h2 a ha (i - 1) (by omega)
         have hp : upB (l.getD (i - 1) dig0) (l.getD i dig0) := by
          rw [getD_lt (by omega), getD_lt (by omega)]
          exact List.pairwise_iff_getElem.1 h _ _ _ _ (by omega)
         have hlt : lessL (l.getD (i - 1) dig0) (l.getD i dig0) = true := by
          cases hq : lessL (l.getD (i - 1) dig0) (l.getD i dig0) with
          | true => rfl
          | false =>
            have := lessL_tri hq hp
            rw [this] at hk2; simp at hk2
         exact lessL_ltle ha' hlt
     · have : k = i := by omega
       subst this
       rw [List.mem_append, List.mem_singleton] at ha
       rcases ha with ha | rfl
       · exact hge a ha
       · exact lessL_irr _
     · rw [List.mem_append]
       by_cases hlt : k < i
       · exact .inl (h3 k hlt)
       · have : k = i := by omega
         subst this; exact .inr (by simp)
     · rw [List.mem_append, List.mem_singleton] at ha
       rcases ha with ha | rfl
       · exact h4 a ha
       · rw [getD_lt (by omega)]; exact List.getElem_mem _
   · rename_i hk
     have h0 : ¬ i = 0 := fun e => by subst e; simp [keepB] at hk
     have hk2 : l.getD i dig0 = l.getD (i - 1) dig0 := by
      unfold keepB at hk
      simpa [h0] using hk
     refine ⟨h1, fun a ha k hk' => ?_, fun k hk' => ?_, h4⟩
     · have : k = i := by omega
       subst this; exact hge a ha
     · by_cases hlt : k < i
       · exact h3 k hlt
       · have : k = i := by omega
         subst this
         rw [hk2]; exact h3 (k - 1) (by omega)
theorem ris_rises (l : List DigP) : (risV l).Pairwise risesB := (once_rises (sort_up l) _ (Nat.le_refl _)).1
theorem ris_mem (l : List DigP) (a : DigP) : a ∈ risV l ↔ a ∈ l := by
 obtain ⟨_, _, h3, h4⟩ := once_rises (sort_up l) _ (Nat.le_refl _)
 constructor
 · exact fun h => (sort_perm l).mem_iff.2 (h4 a h)
 · intro h
   obtain ⟨k, hk, rfl⟩ := List.getElem_of_mem ((sort_perm l).mem_iff.1 h)
   have := h3 k hk
   rw [getD_lt hk] at this
   exact this
theorem rises_ext : ∀ {l m : List DigP}, l.Pairwise risesB → m.Pairwise risesB → (∀ a, a ∈ l ↔ a ∈ m) → l = m
 | [], [], _, _, _ => rfl
 | [], b :: m, _, _, h => by have := (h b).2 (by simp); cases this
 | a :: l, [], _, _, h => by have := (h a).1 (by simp); cases this
 | a :: l, b :: m, hl, hm, h => by
   rw [List.pairwise_cons] at hl hm
   have e : a = b := by
    rcases List.mem_cons.1 ((h a).1 (by simp)) with e | h1
    · exact e
    · rcases List.mem_cons.1 ((h b).2 (by simp)) with e | h2
      · exact e.symm
      · have := lessL_trans (hl.1 b h2) (hm.1 a h1)
        rw [lessL_irr] at this; cases this
   subst e
   congr 1
   refine rises_ext hl.2 hm.2 fun c => ?_
   constructor
   · intro hc
     rcases List.mem_cons.1 ((h c).1 (List.mem_cons_of_mem _ hc)) with e | h1
     · subst e
       have := hl.1 c hc
       unfold risesB at this
       rw [lessL_irr] at this; cases this
     · exact h1
   · intro hc
     rcases List.mem_cons.1 ((h c).2 (List.mem_cons_of_mem _ hc)) with e | h1
     · subst e
       have := hm.1 c hc
       unfold risesB at this
       rw [lessL_irr] at this; cases this
     · exact h1
end Go.Sal

set_option maxRecDepth 100000
namespace Go.Sal
open Go.Vse
def okM (m : Msg) : Prop := m.2.1.2.2.length = 32 ∧ m.2.2.2.1.length = 32 ∧ m.2.2.2.2.1.2.2.1.length = 32 ∧ (∀ p ∈ m.2.2.2.2.1.2.2.2.2.2.2, p.1.length = 32) ∧ ∀ d ∈ m.2.2.2.2.2.1, d.length = 32
theorem sel_1 {α : Type} {h a c t p w ch g d : α} : sel 1 h a c t p w ch g d = h := rfl
theorem sel_9 {α : Type} {h a c t p w ch g d : α} : sel 9 h a c t p w ch g d = h := rfl
theorem sel_2 {α : Type} {h a c t p w ch g d : α} : sel 2 h a c t p w ch g d = a := rfl
theorem sel_3 {α : Type} {h a c t p w ch g d : α} : sel 3 h a c t p w ch g d = c := rfl
theorem sel_4 {α : Type} {h a c t p w ch g d : α} : sel 4 h a c t p w ch g d = t := rfl
theorem sel_5 {α : Type} {h a c t p w ch g d : α} : sel 5 h a c t p w ch g d = p := rfl
theorem sel_6 {α : Type} {h a c t p w ch g d : α} : sel 6 h a c t p w ch g d = w := rfl
theorem sel_10 {α : Type} {h a c t p w ch g d : α} : sel 10 h a c t p w ch g d = w := rfl
theorem sel_7 {α : Type} {h a c t p w ch g d : α} : sel 7 h a c t p w ch g d = ch := rfl
theorem sel_8 {α : Type} {h a c t p w ch g d : α} : sel 8 h a c t p w ch g d = g := rfl
theorem checkM_ok {m : Msg} (h : checkM m = 0) : okMsg m = true ∧ sameM (onlyV m) m = true := by
 unfold checkM at h
 split at h
 · assumption
 · exact absurd h (by decide)
theorem okMsg_at {m : Msg} {k : Int} (h : m.1 = k) : okMsg m = sel k (isHeadV m.2.1) (seqV m.2.2.1 1) (seqV m.2.2.1 1) (cutOk m) (decide (checkV m.2.2.2.2.1 = 0)) (rowV m.2.2.2.2.2.1) (chunkV m.2.2.2.2.2.2) true false := by
 unfold okMsg; rw [h]
theorem tailM_at {m : Msg} {k : Int} (h : m.1 = k) : tailM m = sel k (varintN m.2.1.1.toNat ++ varintN m.2.1.2.1.toNat ++ m.2.1.2.2) (varintN m.2.2.1.toNat) (varintN m.2.2.1.toNat ++ m.2.2.2.1) (varintN m.2.2.1.toNat ++ m.2.2.2.1)
 (bytesV m.2.2.2.2.1).1 (BitVec.ofInt 8 (m.2.2.2.2.2.1.length : Int) :: m.2.2.2.2.2.1.flatten) m.2.2.2.2.2.2 m.2.2.2.1 [] := by
 unfold tailM; rw [h]
theorem isHead_nat {h : HeadT} (hh : isHeadV h = true) : ((0 : Int) ≤ h.1 ∧ (1073741824 : Int) ≥ h.1) ∧ (0 : Int) ≤ h.2.1 ∧ (1073741824 : Int) ≥ h.2.1 := by
 unfold isHeadV at hh
 simp only [Bool.or_eq_true, decide_eq_true_eq] at hh
 rcases hh with hh | ⟨h1, h2, h3, h4⟩
 · have e1 : h.1 = 0 := congrArg (fun p => p.1) hh
   have e2 : h.2.1 = 0 := congrArg (fun p => p.2.1) hh
   have e1 : (0 : Int) = h.1 := e1.symm
   have e2 : (0 : Int) = h.2.1 := e2.symm
   omega
 · have h1 : (1 : Int) ≤ h.1 := h1
   have h2 : (1073741824 : Int) ≥ h.1 := h2
   have h3 : (1 : Int) ≤ h.2.1 := h3
   have h4 : (1073741824 : Int) ≥ h.2.1 := h4
   omega
theorem seqV_nat {n k : Int} (hk : 0 ≤ k) (h : seqV n k = true) : 0 ≤ n ∧ n ≤ 1073741824 := by
 unfold seqV at h
 simp only [Bool.and_eq_true, decide_eq_true_eq] at h
 omega
theorem kinds {m : Msg} (h : okMsg m = true) : m.1 = 1 ∨ m.1 = 9 ∨ m.1 = 2 ∨ m.1 = 3 ∨ m.1 = 4 ∨ m.1 = 5 ∨ m.1 = 6 ∨ m.1 = 10 ∨ m.1 = 7 ∨ m.1 = 8 := by
 unfold okMsg sel at h
 repeat' split at h
 all_goals first | (rename_i h'; simp only [h']; decide) | skip
 all_goals first | simp_all | skip
theorem flat_length (l : List DigP) (hl : ∀ d ∈ l, d.length = 32) : l.flatten.length = 32 * l.length := by
 induction l with
 | nil => rfl
 | cons d r ih =>
   rw [List.flatten_cons, List.length_append, hl d (by simp), ih (fun x hx => hl x (by simp [hx])), List.length_cons]
   omega
end Go.Sal

namespace Go.Sal
open Go.Vse

def inD (l : List DigP) (d : DigP) : Bool := l.contains d
theorem inD_iff {l : List DigP} {d : DigP} : inD l d = true ↔ d ∈ l := by unfold inD; simp
def lackV (need have_ : List DigP) : List DigP := (risV need).filter fun d => !inD have_ d
def missV (need have_ : List DigP) (most : Int) : List DigP := (lackV need have_).take most.toNat
def lackI (need have_ : List DigP) (i : Nat) : List DigP := ((risV need).take i).filter fun d => !inD have_ d

theorem lackI_all (need have_ : List DigP) : lackI need have_ (risV need).length = lackV need have_ := by
 unfold lackI lackV
 rw [List.take_length]
theorem lackI_succ {need have_ : List DigP} {i : Nat} (h : i < (risV need).length) : lackI need have_ (i + 1) = if inD have_ ((risV need).getD i dig0) = true then lackI need have_ i else lackI need have_ i ++ [(risV need).getD i dig0] := by
 unfold lackI
 rw [take_snoc' (d := dig0) h, List.filter_append]
 cases hb : inD have_ ((risV need).getD i dig0) with
 | true => simp only [List.getD_eq_getElem?_getD] at hb ⊢; simp [hb]
 | false => simp only [List.getD_eq_getElem?_getD] at hb ⊢; simp [hb]
theorem lackI_prefix (need have_ : List DigP) (i : Nat) : lackI need have_ i <+: lackV need have_ := by
 unfold lackI lackV
 exact (List.take_prefix i _).filter _
theorem lackI_len (need have_ : List DigP) (i : Nat) : (lackI need have_ i).length ≤ i := by
 unfold lackI
 exact Nat.le_trans (List.length_filter_le _ _) (List.length_take_le _ _)
theorem miss_end {need have_ : List DigP} {most : Int} {i : Nat} (hi : i ≤ (risV need).length) (hm : ((lackI need have_ i).length : Int) ≤ max most 0)
 (h : (risV need).length ≤ i ∨ most ≤ ((lackI need have_ i).length : Int)) : lackI need have_ i = missV need have_ most := by
 unfold missV
 rcases h with h | h
 · have e : i = (risV need).length := by omega
   subst e
   rw [lackI_all] at hm ⊢
   rw [List.take_of_length_le]
   omega
 · have e := List.prefix_iff_eq_take.1 (lackI_prefix need have_ i)
   have : most.toNat = (lackI need have_ i).length := by omega
   rw [this]
   exact e

theorem once_le_len (l : List DigP) : ∀ i, (onceI l i).length ≤ i
 | 0 => Nat.le_refl _
 | i + 1 => by
   have := once_le_len l i
   rw [onceI_succ]
   split
   · rw [List.length_append, List.length_cons, List.length_nil]; omega
   · omega
theorem ris_len (l : List DigP) : (risV l).length ≤ l.length := by
 have h1 := once_le_len (sortV l) (sortV l).length
 have h2 := sort_length l
 show (onceI (sortV l) (sortV l).length).length ≤ l.length
 omega
theorem lack_len (need have_ : List DigP) : (lackV need have_).length ≤ need.length :=
 Nat.le_trans (List.length_filter_le _ _) (ris_len need)
theorem lack_nodup (need have_ : List DigP) : (lackV need have_).Nodup := by
 unfold lackV
 refine List.Pairwise.filter _ ?_
 refine (ris_rises need).imp fun {a b} h e => ?_
 subst e
 unfold risesB at h
 have := cmp_less a a
 rw [(cmp_zero a a).2 rfl] at this
 rw [h] at this
 exact absurd this (by decide)

theorem inD_app (a b : List DigP) (d : DigP) : inD (a ++ b) d = (inD a d || inD b d) := by
 rw [Bool.eq_iff_iff, Bool.or_eq_true, inD_iff, inD_iff, inD_iff, List.mem_append]
theorem lack_take (need have_ : List DigP) (n : Nat) : lackV need (have_ ++ (lackV need have_).take n) = (lackV need have_).drop n := by
 have e : lackV need (have_ ++ (lackV need have_).take n) = (lackV need have_).filter fun d => !inD ((lackV need have_).take n) d := by
  generalize (lackV need have_).take n = t
  unfold lackV
  rw [List.filter_filter]
  congr 1
  funext d
  rw [inD_app]
  cases inD have_ d <;> cases inD t d <;> rfl
 rw [e]
 have hn := lack_nodup need have_
 generalize lackV need have_ = L at hn
 conv => lhs; rw [← List.take_append_drop n L]
 rw [List.filter_append]
 have h1 : (L.take n).filter (fun d => !inD ((L.take n ++ L.drop n).take n) d) = [] := by
  rw [List.take_append_drop, List.filter_eq_nil_iff]
  intro a ha
  rw [inD_iff.2 ha]; simp
 have h2 : (L.drop n).filter (fun d => !inD ((L.take n ++ L.drop n).take n) d) = L.drop n := by
  rw [List.take_append_drop, List.filter_eq_self]
  intro a ha
  cases hb : inD (L.take n) a with
  | false => rfl
  | true =>
    exfalso
    rw [← List.take_append_drop n L, List.nodup_append] at hn
    exact hn.2.2 a (inD_iff.1 hb) a ha rfl
 rw [h1, h2]; rfl
def haveI_ (need have_ : List DigP) (n : Nat) : Nat → List DigP
 | 0 => have_
 | i + 1 => haveI_ need have_ n i ++ (lackV need (haveI_ need have_ n i)).take n
theorem lack_turn (need have_ : List DigP) (n : Nat) : ∀ i, lackV need (haveI_ need have_ n i) = (lackV need have_).drop (i * n)
 | 0 => by simp [haveI_]
 | i + 1 => by
   show lackV need (haveI_ need have_ n i ++ (lackV need (haveI_ need have_ n i)).take n) = _
   rw [lack_take, lack_turn need have_ n i, List.drop_drop, Nat.succ_mul]
theorem have_len (need have_ : List DigP) (n : Nat) : ∀ i, (haveI_ need have_ n i).length ≤ have_.length + i * n
 | 0 => by simp [haveI_]
 | i + 1 => by
   have := have_len need have_ n i
   show (haveI_ need have_ n i ++ (lackV need (haveI_ need have_ n i)).take n).length ≤ _
   rw [List.length_append, List.length_take, Nat.succ_mul]
   omega
theorem lack_done {need have_ : List DigP} {n i : Nat} (hn : 0 < n) (h : (lackV need have_).length / n + 1 ≤ i) : lackV need (haveI_ need have_ n i) = [] := by
 rw [lack_turn]
 refine List.drop_eq_nil_of_le ?_
 have h1 := Nat.div_add_mod (lackV need have_).length n
 have h2 := Nat.mod_lt (lackV need have_).length hn
 have h3 : n * ((lackV need have_).length / n + 1) ≤ n * i := Nat.mul_le_mul_left n h
 rw [Nat.mul_add, Nat.mul_one] at h3
 rw [Nat.mul_comm i n]
 omega
end Go.Sal
