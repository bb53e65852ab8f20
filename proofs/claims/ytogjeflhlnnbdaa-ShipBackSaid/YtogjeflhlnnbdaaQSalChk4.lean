/- Checkpoints: the newest mark. No program in sight. -/
import Derived.Test.YtogjeflhlnnbdaaQSalChk3
set_option maxRecDepth 100000
namespace Go.Sal
open Go.Vse
def betterV (a b : Mark) : Bool := decide (b.2.1 < a.2.1) || (decide (a.2.1 = b.2.1) && decide (b.2.2.1 < a.2.2.1))
/-- the newest of the first i -/
def newV (key : Bytes) (l : List Mark) : Nat → Option Nat
  | 0 => none
  | i + 1 => if sealedV key (l.getD i T_Mark.dflt) = true then (match newV key l i with
      | none => some i
      | some j => if betterV (l.getD i T_Mark.dflt) (l.getD j T_Mark.dflt) = true then some i else some j) else newV key l i
def bestV (o : Option Nat) : Int := match o with | some j => (j : Int) | none => -1
def bestR (o : Option Nat) : Int := match o with | some j => (j : Int) | none => 0
def someV (o : Option Nat) : Bool := match o with | some _ => true | none => false
theorem newV_lt {key : Bytes} {l : List Mark} : ∀ {i j : Nat}, newV key l i = some j → j < i
  | 0, j, h => by cases h
  | i + 1, j, h => by
    unfold newV at h
    split at h
    · split at h
      · simp only [Option.some.injEq] at h; omega
      · rename_i k hk
        have := newV_lt hk
        split at h <;> (simp only [Option.some.injEq] at h; omega)
    · have := newV_lt h
      omega
theorem newV_not {key : Bytes} {l : List Mark} {i : Nat} (h : sealedV key (l.getD i T_Mark.dflt) = false) : newV key l (i + 1) = newV key l i := by
  rw [newV, if_neg (by rw [h]; decide)]
theorem newV_first {key : Bytes} {l : List Mark} {i : Nat} (h : sealedV key (l.getD i T_Mark.dflt) = true) (h2 : newV key l i = none) : newV key l (i + 1) = some i := by
  rw [newV, if_pos h, h2]
theorem newV_next {key : Bytes} {l : List Mark} {i j : Nat} (h : sealedV key (l.getD i T_Mark.dflt) = true) (h2 : newV key l i = some j) : newV key l (i + 1) = if betterV (l.getD i T_Mark.dflt) (l.getD j T_Mark.dflt) = true then some i else some j := by
  rw [newV, if_pos h, h2]
/-- a digest of which the first i bytes are laid -/
def laidV (src : Bytes) (i : Nat) : Bytes := src.take i ++ List.replicate (32 - i) 0#8
theorem laid_set {src : Bytes} {i : Nat} {x : B8} (hs : i < src.length) (hi : i < 32) (hx : src.getD i 0#8 = x) : (laidV src i).set i x = laidV src (i + 1) := by
  have h1 : (src.take i).length = i := by rw [List.length_take]; omega
  obtain ⟨j, hj⟩ : ∃ j, 32 - i = j + 1 := ⟨31 - i, by omega⟩
  unfold laidV
  rw [List.set_append_right _ _ (by omega), h1, Nat.sub_self, hj, List.replicate_succ, List.set_cons_zero, take_snoc' (d := 0#8) hs, hx, List.append_assoc, show 32 - (i + 1) = j by omega]
  rfl
theorem laid_zero (src : Bytes) : laidV src 0 = zero32 := rfl
theorem laid_all (src : Bytes) : laidV src 32 = src.take 32 := by unfold laidV; simp
theorem readN_ten : ∀ (b : Bytes) (i x : Nat), i ≤ 9 → (readN b i x).2.2 = 0 → (readN b i x).2.1 ≤ 10
  | [], i, x, _, h => by simp [readN] at h
  | c :: r, i, x, hi, h => by
    unfold readN at h ⊢
    split at h
    · simp at h
    · rename_i hbad
      rw [if_neg hbad]
      split at h
      · rename_i hlt
        rw [if_pos hlt]
        show i + 1 ≤ 10
        omega
      · rename_i hge
        rw [if_neg hge]
        have h9 : i < 9 := by
          rcases Nat.lt_or_ge i 9 with h | h
          · exact h
          · have e : i = 9 := by omega
            exact absurd (.inl ⟨e, fun e2 => by subst e2; exact hge (by decide)⟩) hbad
        exact readN_ten r (i + 1) _ (by omega) h
theorem mnum_ok {b : Bytes} {v n : Nat} (h : readN b 0 0 = (v, n, 0)) (hv : (BitVec.ofNat 64 v).toNat ≤ 1073741824) : mnumV b = (((BitVec.ofNat 64 v).toNat : Int), b.drop n) := by
  unfold mnumV numB
  rw [h, if_pos ⟨rfl, hv⟩]
theorem mnum_bad {b : Bytes} {v n s : Nat} (h : readN b 0 0 = (v, n, s)) (hv : ¬ (s = 0 ∧ (BitVec.ofNat 64 v).toNat ≤ 1073741824)) : mnumV b = (-1, []) := by
  unfold mnumV numB
  rw [h, if_neg hv]
theorem parse_bad {b : Bytes} (h : ¬ (mnumV (mnumV (b.drop 2)).2).2.length = 64) : parseM b = (mark0, 160) := if_neg fun g => h g.2.2.1
theorem parse_none {b : Bytes} (h : ¬ mbytesV (parseAt b) = (b, 0)) : parseM b = (mark0, 160) := by
  by_cases g : 2 ≤ b.length ∧ b.getD 0 0#8 = 77#8 ∧ (mnumV (mnumV (b.drop 2)).2).2.length = 64 ∧ mayV (parseAt b) = true
  · have e : parseM b = (parseAt b, 0) := by unfold parseM; rw [if_pos g]
    have := bytes_parse (b := b) (by rw [e])
    rw [e] at this
    exact absurd this h
  · unfold parseM; rw [if_neg g]
theorem parse_good {b : Bytes} (h2 : 2 ≤ b.length) (h64 : (mnumV (mnumV (b.drop 2)).2).2.length = 64) (h : mbytesV (parseAt b) = (b, 0)) : parseM b = (parseAt b, 0) := by
  have hm : mayV (parseAt b) = true := by
    cases hm : mayV (parseAt b) with
    | true => rfl
    | false =>
      unfold mbytesV at h
      rw [if_neg (by rw [hm]; decide)] at h
      have h := congrArg Prod.snd h
      simp at h
  have hb : mbodyV (parseAt b) ++ (parseAt b).2.2.2.2 = b := by
    unfold mbytesV at h
    rw [if_pos hm] at h
    exact congrArg Prod.fst h
  have h77 : b.getD 0 0#8 = 77#8 := by
    rw [← hb]; rfl
  unfold parseM
  rw [if_pos ⟨h2, h77, h64, hm⟩]
/-- the mark of bytes, where both numbers are there -/
theorem parse_at {b : Bytes} {v1 n v2 k : Nat} (r1 : readN (b.drop 2) 0 0 = (v1, n, 0)) (h1 : (BitVec.ofNat 64 v1).toNat ≤ 1073741824) (r2 : readN (b.drop (2 + n)) 0 0 = (v2, k, 0)) (h2 : (BitVec.ofNat 64 v2).toNat ≤ 1073741824) :
    (mnumV (mnumV (b.drop 2)).2).2 = b.drop (2 + n + k) ∧ (b.length = 2 + n + k + 64 → parseAt b = (((b.getD 1 0#8).toNat : Int), ((BitVec.ofNat 64 v1).toNat : Int), ((BitVec.ofNat 64 v2).toNat : Int), (b.drop (2 + n + k)).take 32, (b.drop (34 + n + k)).take 32)) := by
  have e1 := mnum_ok r1 h1
  rw [List.drop_drop] at e1
  have e2 := mnum_ok r2 h2
  rw [List.drop_drop] at e2
  have e3 : (mnumV (mnumV (b.drop 2)).2) = (((BitVec.ofNat 64 v2).toNat : Int), b.drop (2 + n + k)) := by rw [e1]; exact e2
  refine ⟨by rw [e3], fun hl => ?_⟩
  unfold parseAt
  rw [e3, e1]
  have e4 : (b.drop (2 + n + k)).drop 32 = (b.drop (34 + n + k)).take 32 := by
    rw [List.drop_drop, show 2 + n + k + 32 = 34 + n + k by omega, List.take_of_length_le (by rw [List.length_drop]; omega)]
  rw [e4]
end Go.Sal
