/- What the leaves compute: varints, words, as plain lists. No program in sight. -/
import Derived.Test.YtglkhgodeghnlaaQVseDefs
namespace Go.Sal
open Go.Vse
abbrev B8 := BitVec 8
abbrev Bytes := List (BitVec 8)

def iter {α : Type} (f : α → Nat → α) : Nat → α → α
 | 0, a => a
 | n + 1, a => f (iter f n a) n

theorem iter_congr {α : Type} {f g : α → Nat → α} {n : Nat} (a : α) (h : ∀ i x, i < n → f x i = g x i) : iter f n a = iter g n a := by
 induction n with
 | zero => rfl
 | succ n ih => simp only [iter]; rw [ih fun i x hi => h i x (by omega), h _ _ (by omega)]

def varintN (n : Nat) : Bytes := if n < 128 then [BitVec.ofNat 8 n] else BitVec.ofNat 8 (n % 128 + 128) :: varintN (n / 128)
termination_by n
decreasing_by omega

theorem varintN_small {n : Nat} (h : n < 128) : varintN n = [BitVec.ofNat 8 n] := by rw [varintN, if_pos h]
theorem varintN_big {n : Nat} (h : ¬ n < 128) : varintN n = BitVec.ofNat 8 (n % 128 + 128) :: varintN (n / 128) := by rw [varintN, if_neg h]
theorem varintN_length_pos (n : Nat) : 0 < (varintN n).length := by
 by_cases h : n < 128
 · rw [varintN_small h]; simp
 · rw [varintN_big h]; simp
theorem varintN_length (k n : Nat) (h : n < 128 ^ (k + 1)) : (varintN n).length ≤ k + 1 := by
 induction k generalizing n with
 | zero => rw [varintN_small (by simpa using h)]; simp
 | succ k ih =>
   by_cases hn : n < 128
   · rw [varintN_small hn]; simp
   · rw [varintN_big hn]
     have := ih (n / 128) (by rw [Nat.div_lt_iff_lt_mul (by decide)]; rw [Nat.pow_succ] at h; exact h)
     simp; omega

def readN : Bytes → Nat → Nat → Nat × Nat × Nat
 | [], i, _ => (0, i, 11)
 | c :: r, i, x =>
   if (i = 9 ∧ c ≠ 1#8) ∨ (0 < i ∧ c = 0#8) then (0, i, 12)
   else if c.toNat < 128 then (x + c.toNat * 128 ^ i, i + 1, 0)
   else readN r (i + 1) (x + (c.toNat - 128) * 128 ^ i)

theorem or128 : ∀ b : BitVec 8, b ||| 128#8 = BitVec.ofNat 8 (b.toNat % 128 + 128) := by decide
theorem and127 : ∀ b : BitVec 8, (b &&& 127#8).toNat = b.toNat % 128 := by decide

theorem readN_step {b : Bytes} {i acc : Nat} (h : i < b.length) : readN (b.drop i) i acc =
 if (i = 9 ∧ b.getD i 0#8 ≠ 1#8) ∨ (0 < i ∧ b.getD i 0#8 = 0#8) then (0, i, 12)
 else if (b.getD i 0#8).toNat < 128 then (acc + (b.getD i 0#8).toNat * 128 ^ i, i + 1, 0)
 else readN (b.drop (i + 1)) (i + 1) (acc + ((b.getD i 0#8).toNat - 128) * 128 ^ i) := by
 have e : b.getD i 0#8 = b[i] := by simp [List.getD_eq_getElem?_getD, h]
 rw [e, List.drop_eq_getElem_cons h, readN]
theorem readN_end {b : Bytes} {i acc : Nat} (h : b.length ≤ i) : readN (b.drop i) i acc = (0, i, 11) := by
 rw [List.drop_eq_nil_of_le h, readN]
theorem pow128 (i : Nat) : 128 ^ i = 2 ^ (7 * i) := by rw [Nat.pow_mul]
theorem pow128_le {i : Nat} (h : i ≤ 9) : 128 ^ i ≤ 9223372036854775808 := Nat.le_trans (Nat.pow_le_pow_right (by decide) h) (by decide)
theorem shiftAmt {i : Nat} (h : i ≤ 9) : (BitVec.ofInt 64 (7 * (i : Int))).toNat = 7 * i := by
 rw [show (7 * (i : Int)) = ((7 * i : Nat) : Int) by omega, BitVec.ofInt_natCast, BitVec.toNat_ofNat]
 omega
theorem low7 (c : B8) : BitVec.setWidth 64 (c &&& 127#8) = BitVec.ofNat 64 (c.toNat % 128) := by
 apply BitVec.eq_of_toNat_eq
 rw [BitVec.toNat_setWidth, and127, BitVec.toNat_ofNat]
theorem mod7 (c : B8) : BitVec.setWidth 64 (c % 128#8) = BitVec.ofNat 64 (c.toNat % 128) := by
 apply BitVec.eq_of_toNat_eq; simp
theorem orShift (acc i m : Nat) (hi : i ≤ 9) (ha : acc < 128 ^ i) (hm : m * 128 ^ i < 18446744073709551616) :
 BitVec.ofNat 64 acc ||| (BitVec.ofNat 64 m) <<< (7 * i) = BitVec.ofNat 64 (acc + m * 128 ^ i) := by
 have hp := pow128_le hi
 have h1 : 0 < 128 ^ i := Nat.pow_pos (by decide)
 have hm' : m < 18446744073709551616 := Nat.lt_of_le_of_lt (Nat.le_mul_of_pos_right m h1) hm
 have e64 : 2 ^ 64 = 18446744073709551616 := by decide
 apply BitVec.eq_of_toNat_eq
 rw [BitVec.toNat_or, BitVec.toNat_shiftLeft, BitVec.toNat_ofNat, BitVec.toNat_ofNat, BitVec.toNat_ofNat, e64,
  Nat.mod_eq_of_lt (show acc < 18446744073709551616 by omega), Nat.mod_eq_of_lt hm', Nat.shiftLeft_eq, ← pow128, Nat.mod_eq_of_lt hm,
  Nat.or_comm, pow128, ← Nat.shiftLeft_eq, ← Nat.shiftLeft_add_eq_or_of_lt (by rw [← pow128]; exact ha), Nat.shiftLeft_eq, ← pow128]
 have hs : acc + m * 128 ^ i < 18446744073709551616 := by
  have : m * 128 ^ i + 128 ^ i ≤ 18446744073709551616 := by
   rw [← Nat.succ_mul]
   have e1 : 18446744073709551616 = 2 ^ (64 - 7 * i) * 128 ^ i := by
    rw [pow128, ← Nat.pow_add]
    rw [show 64 - 7 * i + 7 * i = 64 by omega]
   rw [e1] at hm ⊢
   exact Nat.mul_le_mul_right _ (Nat.lt_of_mul_lt_mul_right hm)
  omega
 rw [Nat.mod_eq_of_lt hs, Nat.add_comm]
theorem fits8 {i m : Nat} (hi : i ≤ 8) (hm : m < 128) : m * 128 ^ i < 18446744073709551616 := by
 have h : 128 ^ i ≤ 72057594037927936 := Nat.le_trans (Nat.pow_le_pow_right (by decide) hi) (by decide)
 have := Nat.mul_le_mul (show m ≤ 127 by omega) h
 omega
theorem fits7 {i : Nat} {c : B8} (hi : i ≤ 9) (hc : c.toNat < 128) (hbad : ¬ ((i = 9 ∧ c ≠ 1#8) ∨ (0 < i ∧ c = 0#8))) : c.toNat % 128 * 128 ^ i < 18446744073709551616 := by
 rcases Nat.lt_or_ge i 9 with h | h
 · exact fits8 (by omega) (Nat.mod_lt _ (by decide))
 · have h9 : i = 9 := by omega
   subst h9
   have : c = 1#8 := by
    by_cases e : c = 1#8
    · exact e
    · exact absurd (.inl ⟨rfl, e⟩) hbad
   subst this
   decide
theorem grow7 {i acc m : Nat} (ha : acc < 128 ^ i) (hm : m < 128) : acc + m * 128 ^ i < 128 ^ (i + 1) := by
 have h : m * 128 ^ i ≤ 127 * 128 ^ i := Nat.mul_le_mul_right _ (by omega)
 rw [Nat.pow_succ]
 omega
end Go.Sal
