/- MACs over sums, as plain data. No program in sight. -/
import Derived.Test.YtflcaomdkbnfaaaQSalRec
namespace Go.Sal
open Go.Vse
def keyV (key : Bytes) : Bytes := if 64 < key.length then sha key else key
def blkV (key : Bytes) : Bytes := keyV key ++ List.replicate (64 - (keyV key).length) 0#8
def xorV (b : Bytes) (m : B8) : Bytes := b.map (fun c => c ^^^ m)
def macV (key msg : Bytes) : Bytes := sha (xorV (blkV key) 92#8 ++ sha (xorV (blkV key) 54#8 ++ msg))
def deriveV (key purpose : Bytes) (n : BitVec 64) : Bytes := macV key (purpose ++ [0#8] ++ beBytes n 8)
/-- are two alike? -/
def alikeV (a b : Bytes) : Bool := a == b
/-- a row of which the first i are turned -/
def mixV (b : Bytes) (m : B8) (i : Nat) : Bytes := (xorV b m).take i ++ b.drop i
theorem keyV_len (key : Bytes) : (keyV key).length ≤ 64 := by
  unfold keyV
  split
  · rw [sha_length]; omega
  · omega
theorem blkV_len (key : Bytes) : (blkV key).length = 64 := by
  have := keyV_len key
  unfold blkV; simp; omega
theorem xorV_len (b : Bytes) (m : B8) : (xorV b m).length = b.length := by simp [xorV]
theorem macV_len (key msg : Bytes) : (macV key msg).length = 32 := sha_length _
theorem mixV_zero (b : Bytes) (m : B8) : mixV b m 0 = b := by simp [mixV]
theorem mixV_len (b : Bytes) (m : B8) (i : Nat) (h : i ≤ b.length) : (mixV b m i).length = b.length := by simp [mixV, xorV_len]; omega
theorem mixV_all (b : Bytes) (m : B8) : mixV b m b.length = xorV b m := by
  unfold mixV
  rw [List.drop_of_length_le (Nat.le_refl _), List.append_nil, List.take_of_length_le (by rw [xorV_len]; omega)]
theorem mixV_set {b : Bytes} {m : B8} {i : Nat} (h : i < b.length) : (mixV b m i).set i ((mixV b m i).getD i 0#8 ^^^ m) = mixV b m (i + 1) := by
  have h1 : ((xorV b m).take i).length = i := by rw [List.length_take, xorV_len]; omega
  have h2 : b.drop i = b[i] :: b.drop (i + 1) := List.drop_eq_getElem_cons h
  have h3 : (mixV b m i).getD i 0#8 = b[i] := by
    unfold mixV
    rw [List.getD_eq_getElem?_getD, List.getElem?_append_right (by omega), h1, Nat.sub_self, h2]; rfl
  rw [h3]
  unfold mixV
  rw [List.set_append_right _ _ (by omega), h1, Nat.sub_self, h2, List.set_cons_zero]
  have h4 : (xorV b m).take (i + 1) = (xorV b m).take i ++ [b[i] ^^^ m] := by
    rw [List.take_add_one]
    congr 1
    unfold xorV
    rw [List.getElem?_map, List.getElem?_eq_getElem h]; rfl
  rw [h4, List.append_assoc]; rfl
theorem xorV_take {b : Bytes} {m : B8} {i : Nat} (h : i < b.length) : (xorV b m).take (i + 1) = (xorV b m).take i ++ [b.getD i 0#8 ^^^ m] := by
  rw [List.take_add_one]
  congr 1
  unfold xorV
  rw [List.getElem?_map, List.getElem?_eq_getElem h, getD_lt h]; rfl
theorem or_zero {x y z : B8} : x ||| (y ^^^ z) = 0#8 ↔ x = 0#8 ∧ y = z := by
  constructor
  · intro h
    have hx : x = 0#8 := by
      apply BitVec.eq_of_getLsbD_eq
      intro i hi
      have := congrArg (fun v => v.getLsbD i) h
      simp only [BitVec.getLsbD_or, BitVec.getLsbD_zero, Bool.or_eq_false_iff] at this
      rw [this.1]; simp
    refine ⟨hx, ?_⟩
    rw [hx] at h
    apply BitVec.eq_of_getLsbD_eq
    intro i hi
    have := congrArg (fun v => v.getLsbD i) h
    simp only [BitVec.getLsbD_or, BitVec.getLsbD_xor, BitVec.getLsbD_zero, Bool.or_eq_false_iff] at this
    have h2 := this.2
    cases hy : y.getLsbD i <;> cases hz : z.getLsbD i <;> rw [hy, hz] at h2 <;> first | rfl | cases h2
  · rintro ⟨rfl, rfl⟩
    simp
end Go.Sal
