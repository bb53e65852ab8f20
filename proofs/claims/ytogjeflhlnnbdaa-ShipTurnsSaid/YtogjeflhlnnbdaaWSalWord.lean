/- What the leaves compute: varints, words, as plain lists. No program in sight. -/
import Derived.Test.YtogjeflhlnnbdaaWVseDefs
namespace Go.Sal
open Go.Vse
abbrev B8 := BitVec 8
abbrev Bytes := List (BitVec 8)

def iter {α : Type} (f : α → Nat → α) : Nat → α → α
 | 0, a => a
 | n + 1, a => f (iter f n a) n

def varintN (n : Nat) : Bytes := if n < 128 then [BitVec.ofNat 8 n] else BitVec.ofNat 8 (n % 128 + 128) :: varintN (n / 128)
termination_by n
decreasing_by omega

theorem varintN_small {n : Nat} (h : n < 128) : varintN n = [BitVec.ofNat 8 n] := by rw [varintN, if_pos h]
theorem varintN_big {n : Nat} (h : ¬ n < 128) : varintN n = BitVec.ofNat 8 (n % 128 + 128) :: varintN (n / 128) := by rw [varintN, if_neg h]
theorem varintN_length (k n : Nat) (h : n < 128 ^ (k + 1)) : (varintN n).length ≤ k + 1 := by
 induction k generalizing n with
 | zero => rw [varintN_small (by simpa using h)]; simp
 | succ k ih =>
   by_cases hn : n < 128
   · rw [varintN_small hn]; simp
   · rw [varintN_big hn]
     have := ih (n / 128) (by rw [Nat.div_lt_iff_lt_mul (by decide)]; rw [Nat.pow_succ] at h; exact h)
     simp; omega

def readN : Bytes → Nat → Nat → Nat × Nat × Nat
 | [], i, _ => (0, i, 11)
 | c :: r, i, x =>
   if (i = 9 ∧ c ≠ 1#8) ∨ (0 < i ∧ c = 0#8) then (0, i, 12)
   else if c.toNat < 128 then (x + c.toNat * 128 ^ i, i + 1, 0)
   else readN r (i + 1) (x + (c.toNat - 128) * 128 ^ i)

theorem or128 : ∀ b : BitVec 8, b ||| 128#8 = BitVec.ofNat 8 (b.toNat % 128 + 128) := by decide
theorem and127 : ∀ b : BitVec 8, (b &&& 127#8).toNat = b.toNat % 128 := by decide

theorem readN_step {b : Bytes} {i acc : Nat} (h : i < b.length) : readN (b.drop i) i acc =
 if (i = 9 ∧ b.getD i 0#8 ≠ 1#8) ∨ (0 < i ∧ b.getD i 0#8 = 0#8) then (0, i, 12)
 else if (b.getD i 0#8).toNat < 128 then (acc + (b.getD i 0#8).toNat * 128 ^ i, i + 1, 0)
 else readN (b.drop (i + 1)) (i + 1) (acc + ((b.getD i 0#8).toNat - 128) * 128 ^ i) := by
 have e : b.getD i 0#8 = b[i] := by simp [List.getD_eq_getElem?_getD, h]
 rw [e, List.drop_eq_getElem_cons h, readN]
theorem readN_end {b : Bytes} {i acc : Nat} (h : b.length ≤ i) : readN (b.drop i) i acc = (0, i, 11) := by
 rw [List.drop_eq_nil_of_le h, readN]
theorem pow128 (i : Nat) : 128 ^ i = 2 ^ (7 * i) := by rw [Nat.pow_mul]
theorem pow128_le {i : Nat} (h : i ≤ 9) : 128 ^ i ≤ 9223372036854775808 := Nat.le_trans (Nat.pow_le_pow_right (by decide) h) (by decide)
theorem shiftAmt {i : Nat} (h : i ≤ 9) : (BitVec.ofInt 64 (7 * (i : Int))).toNat = 7 * i := by
 rw [show (7 * (i : Int)) = ((7 * i : Nat) : Int) by omega, BitVec.ofInt_natCast, BitVec.toNat_ofNat]
 omega
theorem low7 (c : B8) : BitVec.setWidth 64 (c &&& 127#8) = BitVec.ofNat 64 (c.toNat % 128) := by
 apply BitVec.eq_of_toNat_eq
 rw [BitVec.toNat_setWidth, and127, BitVec.toNat_ofNat]
theorem orShift (acc i m : Nat) (hi : i ≤ 9) (ha : acc < 128 ^ i) (hm : m * 128 ^ i < 18446744073709551616) :
 BitVec.ofNat 64 acc ||| (BitVec.ofNat 64 m) <<< (7 * i) = BitVec.ofNat 64 (acc + m * 128 ^ i) := by
 have hp := pow128_le hi
 have h1 : 0 < 128 ^ i := Nat.pow_pos (by decide)
 have hm' : m < 18446744073709551616 := Nat.lt_of_le_of_lt (Nat.le_mul_of_pos_right m h1) hm
 have e64 : 2 ^ 64 = 18446744073709551616 := by decide
 apply BitVec.eq_of_toNat_eq
 rw [BitVec.toNat_or, BitVec.toNat_shiftLeft, BitVec.toNat_ofNat, BitVec.toNat_ofNat, BitVec.toNat_ofNat, e64,
  Nat.mod_eq_of_lt (show acc < 18446744073709551616 by omega), Nat.mod_eq_of_lt hm', Nat.shiftLeft_eq, ← pow128, Nat.mod_eq_of_lt hm,
  Nat.or_comm, pow128, ← Nat.shiftLeft_eq, ← Nat.shiftLeft_add_eq_or_of_lt (by rw [← pow128]; exact ha), Nat.shiftLeft_eq, ← pow128]
 have hs : acc + m * 128 ^ i < 18446744073709551616 := by
  have : m * 128 ^ i + 128 ^ i ≤ 18446744073709551616 := by
   rw [← Nat.succ_mul]
   have e1 : 18446744073709551616 = 2 ^ (64 - 7 * i) * 128 ^ i := by
    rw [pow128, ← Nat.pow_add]
    rw [show 64 - 7 * i + 7 * i = 64 by omega]
   rw [e1] at hm ⊢
   exact Nat.mul_le_mul_right _ (Nat.lt_of_mul_lt_mul_right hm)
  omega
 rw [Nat.mod_eq_of_lt hs, Nat.add_comm]
theorem fits8 {i m : Nat} (hi : i ≤ 8) (hm : m < 128) : m * 128 ^ i < 18446744073709551616 := by
 have h : 128 ^ i ≤ 72057594037927936 := Nat.le_trans (Nat.pow_le_pow_right (by decide) hi) (by decide)
 have := Nat.mul_le_mul (show m ≤ 127 by omega) h
 omega
theorem fits7 {i : Nat} {c : B8} (hi : i ≤ 9) (hc : c.toNat < 128) (hbad : ¬ ((i = 9 ∧ c ≠ 1#8) ∨ (0 < i ∧ c = 0#8))) : c.toNat % 128 * 128 ^ i < 18446744073709551616 := by
 rcases Nat.lt_or_ge i 9 with h | h
 · exact fits8 (by omega) (Nat.mod_lt _ (by decide))
 · have h9 : i = 9 := by omega
   subst h9
   have : c = 1#8 := by
    by_cases e : c = 1#8
    · exact e
    · exact absurd (.inl ⟨rfl, e⟩) hbad
   subst this
   decide
theorem grow7 {i acc m : Nat} (ha : acc < 128 ^ i) (hm : m < 128) : acc + m * 128 ^ i < 128 ^ (i + 1) := by
 have h : m * 128 ^ i ≤ 127 * 128 ^ i := Nat.mul_le_mul_right _ (by omega)
 rw [Nat.pow_succ]
 omega
end Go.Sal

namespace Go.Sal
open Go.Vse
abbrev W32 := BitVec 32

def rotr (x : W32) (n : Nat) : W32 := x >>> n ||| x <<< (32 - n)
def w32 (a b c d : B8) : W32 := BitVec.ofNat 32 (a.toNat * 16777216 + b.toNat * 65536 + c.toNat * 256 + d.toNat)
def wordAt (b : Bytes) (i : Nat) : W32 := w32 (b.getD (4 * i) 0#8) (b.getD (4 * i + 1) 0#8) (b.getD (4 * i + 2) 0#8) (b.getD (4 * i + 3) 0#8)
def sig0 (x : W32) : W32 := rotr x 7 ^^^ rotr x 18 ^^^ x >>> 3
def sig1 (x : W32) : W32 := rotr x 17 ^^^ rotr x 19 ^^^ x >>> 10
def schedStep (w : List W32) (k : Nat) : List W32 :=
 w.set (k + 16) (w.getD k 0#32 + sig0 (w.getD (k + 1) 0#32) + w.getD (k + 9) 0#32 + sig1 (w.getD (k + 14) 0#32))
def sched16 (b : Bytes) : List W32 := iter (fun w i => w.set i (wordAt b i)) 16 (List.replicate 64 0#32)
def sched (b : Bytes) : List W32 := iter schedStep 48 (sched16 b)
def start : List W32 := [0x6a09e667#32, 0xbb67ae85#32, 0x3c6ef372#32, 0xa54ff53a#32, 0x510e527f#32, 0x9b05688c#32, 0x1f83d9ab#32, 0x5be0cd19#32]
def consts : List W32 := [
 0x428a2f98#32, 0x71374491#32, 0xb5c0fbcf#32, 0xe9b5dba5#32, 0x3956c25b#32, 0x59f111f1#32, 0x923f82a4#32, 0xab1c5ed5#32,
 0xd807aa98#32, 0x12835b01#32, 0x243185be#32, 0x550c7dc3#32, 0x72be5d74#32, 0x80deb1fe#32, 0x9bdc06a7#32, 0xc19bf174#32,
 0xe49b69c1#32, 0xefbe4786#32, 0x0fc19dc6#32, 0x240ca1cc#32, 0x2de92c6f#32, 0x4a7484aa#32, 0x5cb0a9dc#32, 0x76f988da#32,
 0x983e5152#32, 0xa831c66d#32, 0xb00327c8#32, 0xbf597fc7#32, 0xc6e00bf3#32, 0xd5a79147#32, 0x06ca6351#32, 0x14292967#32,
 0x27b70a85#32, 0x2e1b2138#32, 0x4d2c6dfc#32, 0x53380d13#32, 0x650a7354#32, 0x766a0abb#32, 0x81c2c92e#32, 0x92722c85#32,
 0xa2bfe8a1#32, 0xa81a664b#32, 0xc24b8b70#32, 0xc76c51a3#32, 0xd192e819#32, 0xd6990624#32, 0xf40e3585#32, 0x106aa070#32,
 0x19a4c116#32, 0x1e376c08#32, 0x2748774c#32, 0x34b0bcb5#32, 0x391c0cb3#32, 0x4ed8aa4a#32, 0x5b9cca4f#32, 0x682e6ff3#32,
 0x748f82ee#32, 0x78a5636f#32, 0x84c87814#32, 0x8cc70208#32, 0x90befffa#32, 0xa4506ceb#32, 0xbef9a3f7#32, 0xc67178f2#32]
def round (w : List W32) (s : List W32) (i : Nat) : List W32 :=
 let t1 := s.getD 7 0#32 + (rotr (s.getD 4 0#32) 6 ^^^ rotr (s.getD 4 0#32) 11 ^^^ rotr (s.getD 4 0#32) 25) + (s.getD 4 0#32 &&& s.getD 5 0#32 ^^^ ~~~(s.getD 4 0#32) &&& s.getD 6 0#32) + consts.getD i 0#32 + w.getD i 0#32
 let t2 := (rotr (s.getD 0 0#32) 2 ^^^ rotr (s.getD 0 0#32) 13 ^^^ rotr (s.getD 0 0#32) 22) + (s.getD 0 0#32 &&& s.getD 1 0#32 ^^^ s.getD 0 0#32 &&& s.getD 2 0#32 ^^^ s.getD 1 0#32 &&& s.getD 2 0#32)
 [t1 + t2, s.getD 0 0#32, s.getD 1 0#32, s.getD 2 0#32, s.getD 3 0#32 + t1, s.getD 4 0#32, s.getD 5 0#32, s.getD 6 0#32]
def rounds (b : Bytes) (s : List W32) : List W32 := iter (round (sched b)) 64 s
def step (s : List W32) (b : Bytes) : List W32 := iter (fun t i => t.set i (t.getD i 0#32 + s.getD i 0#32)) 8 (rounds b s)

def run (s : List W32) (b : Bytes) : List W32 := if 64 ≤ b.length then run (step s (b.take 64)) (b.drop 64) else s
termination_by b.length
decreasing_by simp; omega
def rest (b : Bytes) : Bytes := if 64 ≤ b.length then rest (b.drop 64) else b
termination_by b.length
decreasing_by simp; omega
def beBytes (x : BitVec 64) (n : Nat) : Bytes := (List.range n).map fun i => (x >>> (8 * (n - 1 - i))).setWidth 8
def be8 (n : BitVec 64) : Bytes := beBytes n 8
def zerosN (n : BitVec 64) : Nat := (119 - n.toNat % 64) % 64
def pad (n : BitVec 64) : Bytes := 128#8 :: (List.replicate (zerosN n) 0#8 ++ be8 (n * 8#64))
def digest (s : List W32) : Bytes := (List.range 32).map fun i => ((s.getD (i / 4) 0#32) >>> (8 * (3 - i % 4))).setWidth 8
def sha (m : Bytes) : Bytes := digest (run start (m ++ pad (BitVec.ofNat 64 m.length)))

end Go.Sal

namespace Go.Sal
open Go.Vse
abbrev T_Dig : T := .arr 32 .u8
abbrev T_Pie : T := .pair T_Dig .i64
abbrev T_Rec : T := .pair .i64 (.pair .i64 (.pair T_Dig (.pair .i64 (.pair .i64 (.pair .str (.slc T_Pie))))))
abbrev T_Head : T := .pair .i64 (.pair .i64 T_Dig)
abbrev Pie := T_Pie.den
abbrev Rec := T_Rec.den
abbrev HeadT := T_Head.den

def okChar (c : B8) : Bool := decide (33 ≤ c.toNat) && decide (c.toNat ≤ 126)
def isPath (s : Bytes) : Bool := decide (1 ≤ s.length) && decide (s.length ≤ 255) && s.all okChar
def okPie (p : Pie) : Bool := decide (1 ≤ p.2) && decide (p.2 ≤ 4096)
def sumP : List Pie → Int
 | [] => 0
 | p :: r => p.2 + sumP r
def sizeV (l : List Pie) : Int × Int :=
 if l.length ≤ 4096 ∧ l.all okPie = true ∧ sumP l ≤ 1048576 then (sumP l, 0) else (0, 130)
def fitsV (r : Rec) : Bool :=
 if r.2.2.2.1 = 1 then (r.2.2.2.2.1 == 0 || r.2.2.2.2.1 == 1) && r.2.2.2.2.2.1 == [] && ((r.2.2.2.2.2.2.length : Nat) : Int) == 0
 else if r.2.2.2.1 = 3 then ((r.2.2.2.2.2.2.length : Nat) : Int) == 0 && (r.2.2.2.2.1 == 0 && isPath r.2.2.2.2.2.1)
 else if r.2.2.2.1 = 2 then r.2.2.2.2.1 == 0 && isPath r.2.2.2.2.2.1 && (sizeV r.2.2.2.2.2.2).2 == 0
 else false
def checkV (r : Rec) : Int :=
 if 1 ≤ r.1 ∧ r.1 ≤ 1073741824 ∧ 1 ≤ r.2.1 ∧ r.2.1 ≤ 1073741824 ∧ fitsV r = true then 0 else 130
def pieBytes (p : Pie) : Bytes := varintN p.2.toNat ++ p.1
def headBytes (r : Rec) : Bytes := [82#8, BitVec.ofInt 8 r.2.2.2.1] ++ varintN r.1.toNat ++ varintN r.2.1.toNat ++ r.2.2.1
def recBytes (r : Rec) : Bytes :=
 if r.2.2.2.1 = 1 then headBytes r ++ [BitVec.ofInt 8 r.2.2.2.2.1]
 else if r.2.2.2.1 = 3 then headBytes r ++ [BitVec.ofInt 8 r.2.2.2.2.2.1.length] ++ r.2.2.2.2.2.1
 else headBytes r ++ [BitVec.ofInt 8 r.2.2.2.2.2.1.length] ++ r.2.2.2.2.2.1 ++ varintN r.2.2.2.2.2.2.length ++ (r.2.2.2.2.2.2.map pieBytes).flatten
def bytesV (r : Rec) : Bytes × Int := if checkV r = 0 then (recBytes r, 0) else ([], checkV r)
def zero32 : Bytes := List.replicate 32 0#8
def head0 : HeadT := (0, 0, zero32)
def rec0 : Rec := (0, 0, zero32, 0, 0, [], [])
def sameV (a b : Rec) : Bool := decide (a.1 = b.1) && decide (a.2.1 = b.2.1) && (a.2.2.1 == b.2.2.1) && decide (a.2.2.2.1 = b.2.2.2.1) && decide (a.2.2.2.2.1 = b.2.2.2.2.1) && (a.2.2.2.2.2.1 == b.2.2.2.2.2.1) &&
 decide (a.2.2.2.2.2.2 = b.2.2.2.2.2.2)
theorem sumP_append (a b : List Pie) : sumP (a ++ b) = sumP a + sumP b := by
 induction a with
 | nil => simp [sumP]
 | cons p r ih => simp only [List.cons_append, sumP, ih]; omega
theorem sumP_nonneg {l : List Pie} (h : l.all okPie = true) : 0 ≤ sumP l := by
 induction l with
 | nil => simp [sumP]
 | cons p r ih =>
   simp only [List.all_cons, Bool.and_eq_true, okPie, decide_eq_true_eq] at h
   have h1 : (1 : Int) ≤ p.2 := h.1.1
   have := ih h.2
   simp only [sumP]; omega
theorem getD_lt {α : Type} {l : List α} {i : Nat} {d : α} (h : i < l.length) : l.getD i d = l[i] := by simp [List.getD_eq_getElem?_getD, h]
theorem take_snoc' {α : Type} {l : List α} {i : Nat} {d : α} (h : i < l.length) : l.take (i + 1) = l.take i ++ [l.getD i d] := by
 rw [List.take_succ_eq_append_getElem h, getD_lt h]
theorem all_take {α : Type} {l : List α} {p : α → Bool} {i : Nat} {d : α} (h : i < l.length) : (l.take (i + 1)).all p = ((l.take i).all p && p (l.getD i d)) := by
 rw [take_snoc' (d := d) h]; simp
theorem all_of_take {α : Type} {l : List α} {p : α → Bool} (i : Nat) (h : (l.take i).all p = false) : l.all p = false := by
 cases ha : l.all p with
 | false => rfl
 | true =>
   rw [← List.take_append_drop i l, List.all_append, h] at ha
   simp at ha
theorem sizeV_bad {l : List Pie} (h : 4096 < l.length) : sizeV l = (0, 130) := by
 rw [sizeV, if_neg (fun hh => by omega)]
theorem sizeV_all {l : List Pie} (h : l.all okPie = false) : sizeV l = (0, 130) := by
 rw [sizeV, if_neg (fun hh => by rw [hh.2.1] at h; cases h)]
theorem sizeV_sum {l : List Pie} {i : Nat} (h : 1048576 < sumP (l.take i)) : sizeV l = (0, 130) := by
 rw [sizeV, if_neg (fun hh => ?_)]
 have h2 := hh.2.1
 rw [← List.take_append_drop i l, List.all_append, Bool.and_eq_true] at h2
 have h3 := sumP_nonneg h2.2
 have h4 := sumP_append (l.take i) (l.drop i)
 rw [List.take_append_drop] at h4
 have h5 := hh.2.2
 omega
theorem sizeV_nil : sizeV [] = (0, 0) := by decide
def pre (r : Rec) : Bytes := headBytes r ++ [BitVec.ofInt 8 r.2.2.2.2.2.1.length] ++ r.2.2.2.2.2.1 ++ varintN r.2.2.2.2.2.2.length
theorem check_ok {r : Rec} (h : checkV r = 0) : (1 : Int) ≤ r.1 ∧ (1073741824 : Int) ≥ r.1 ∧ (1 : Int) ≤ r.2.1 ∧ (1073741824 : Int) ≥ r.2.1 ∧ fitsV r = true := by
 unfold checkV at h
 split at h
 · assumption
 · cases h
theorem path_len {s : Bytes} (h : isPath s = true) : s.length ≤ 255 := by
 unfold isPath at h
 simp only [Bool.and_eq_true, decide_eq_true_eq] at h
 exact h.1.2
theorem size_ok {l : List Pie} (h : (sizeV l).2 = 0) : l.length ≤ 4096 ∧ l.all okPie = true := by
 unfold sizeV at h
 split at h
 · rename_i hh; exact ⟨hh.1, hh.2.1⟩
 · cases h
theorem fits_parts {r : Rec} (h : fitsV r = true) : (r.2.2.2.1 = (1 : Int) ∨ r.2.2.2.1 = (3 : Int) ∨ r.2.2.2.1 = (2 : Int)) ∧ (¬ r.2.2.2.1 = (1 : Int) → r.2.2.2.2.2.1.length ≤ 255) ∧ r.2.2.2.2.2.2.length ≤ 4096 ∧ r.2.2.2.2.2.2.all okPie = true := by
 unfold fitsV at h
 split at h
 · rename_i h1
   simp only [Bool.and_eq_true, beq_iff_eq] at h
   have hl : r.2.2.2.2.2.2.length = 0 := by have := h.2; omega
   have e := List.eq_nil_of_length_eq_zero hl
   exact ⟨.inl h1, fun hn => absurd h1 hn, by omega, by rw [e]; rfl⟩
 · split at h
   · rename_i h3
     simp only [Bool.and_eq_true, beq_iff_eq] at h
     have hl : r.2.2.2.2.2.2.length = 0 := by have := h.1; omega
     have e := List.eq_nil_of_length_eq_zero hl
     exact ⟨.inr (.inl h3), fun _ => path_len h.2.2, by omega, by rw [e]; rfl⟩
   · split at h
     · rename_i h2
       simp only [Bool.and_eq_true, beq_iff_eq] at h
       have := size_ok h.2
       exact ⟨.inr (.inr h2), fun _ => path_len h.1.2, this.1, this.2⟩
     · cases h
theorem vlen (n : Nat) (h : n < 18446744073709551616) : (varintN n).length ≤ 10 := varintN_length 9 n (Nat.lt_of_lt_of_le h (by decide))
theorem toNat64 {n : Int} (h0 : 0 ≤ n) (h1 : n < 18446744073709551616) : (BitVec.ofInt 64 n).toNat = n.toNat := by
 obtain ⟨k, rfl⟩ := Int.eq_ofNat_of_zero_le h0
 rw [BitVec.ofInt_natCast, BitVec.toNat_ofNat, Int.toNat_natCast]
 have e64 : 2 ^ 64 = 18446744073709551616 := by decide
 rw [e64, Nat.mod_eq_of_lt (by omega)]
theorem pie_ok {p : Pie} (h : okPie p = true) : (1 : Int) ≤ p.2 ∧ (4096 : Int) ≥ p.2 := by
 unfold okPie at h
 simp only [Bool.and_eq_true, decide_eq_true_eq] at h
 exact h
theorem pieBytes_len {p : Pie} (h : okPie p = true) (h32 : p.1.length = 32) : (pieBytes p).length ≤ 42 := by
 have := pie_ok h
 have hv := vlen p.2.toNat (by omega)
 unfold pieBytes
 rw [List.length_append, h32]; omega
theorem pies_len {l : List Pie} (h : l.all okPie = true) (h32 : ∀ p ∈ l, p.1.length = 32) : ((l.map pieBytes).flatten).length ≤ 42 * l.length := by
 induction l with
 | nil => simp
 | cons p r ih =>
   simp only [List.all_cons, Bool.and_eq_true] at h
   have h1 := pieBytes_len h.1 (h32 p (by simp))
   have h2 := ih h.2 fun q hq => h32 q (by simp [hq])
   simp only [List.map_cons, List.flatten_cons, List.length_append, List.length_cons]
   omega
theorem head_len {r : Rec} (h : checkV r = 0) (hp : r.2.2.1.length = 32) : (headBytes r).length ≤ 54 := by
 obtain ⟨h1, h2, h3, h4, _⟩ := check_ok h
 have a := vlen r.1.toNat (by omega)
 have b := vlen r.2.1.toNat (by omega)
 unfold headBytes
 simp only [List.length_append, List.length_cons, List.length_nil, hp]
 omega
theorem pre_len {r : Rec} (h : checkV r = 0) (hp : r.2.2.1.length = 32) (hk : ¬ r.2.2.2.1 = (1 : Int)) : (pre r).length ≤ 320 := by
 have h1 := head_len h hp
 obtain ⟨_, f1, f2, _⟩ := fits_parts (check_ok h).2.2.2.2
 have a := vlen r.2.2.2.2.2.2.length (by omega)
 have := f1 hk
 unfold pre
 simp only [List.length_append, List.length_cons, List.length_nil]
 omega
theorem take_pies {l : List Pie} {i : Nat} (h : i < l.length) (d : Pie) : ((l.take (i + 1)).map pieBytes).flatten = ((l.take i).map pieBytes).flatten ++ pieBytes (l.getD i d) := by
 rw [take_snoc' (d := d) h]; simp
theorem recBytes_len {r : Rec} (h : checkV r = 0) (hp : r.2.2.1.length = 32) (hd : ∀ p ∈ r.2.2.2.2.2.2, p.1.length = 32) : (recBytes r).length ≤ 200000 := by
 obtain ⟨_, f1, f2, f3⟩ := fits_parts (check_ok h).2.2.2.2
 have h1 := head_len h hp
 have h3 := pies_len f3 hd
 have a := vlen r.2.2.2.2.2.2.length (by omega)
 unfold recBytes
 split
 · simp only [List.length_append, List.length_cons, List.length_nil]; omega
 · rename_i hk
   have := f1 hk
   split <;> simp only [List.length_append, List.length_cons, List.length_nil] <;> omega
theorem bytesV_ok {r : Rec} (h : checkV r = 0) : bytesV r = (recBytes r, 0) := by rw [bytesV, if_pos h]
theorem bytesV_bad {r : Rec} (h : ¬ checkV r = 0) : bytesV r = ([], checkV r) := by rw [bytesV, if_neg h]
theorem eqL_u8 (a b : Bytes) : eqL T.u8 a b = (a == b) := by
 rw [Bool.eq_iff_iff]; simp [eqL]
end Go.Sal
set_option maxRecDepth 100000
namespace Go.Sal
open Go.Vse
theorem lessL_irr : ∀ a : Bytes, lessL a a = false
 | [] => rfl
 | x :: r => by
   unfold lessL
   rw [lessL_irr r]
   simp
theorem lessL_trans : ∀ {a b c : Bytes}, lessL a b = true → lessL b c = true → lessL a c = true
 | [], b, [], _, h => by cases b <;> simp [lessL] at h
 | [], _, _ :: _, _, _ => rfl
 | _ :: _, [], _, h, _ => by simp [lessL] at h
 | _ :: _, _ :: _, [], _, h => by simp [lessL] at h
 | x :: a, y :: b, z :: c, h, k => by
   simp only [lessL, Bool.or_eq_true, Bool.and_eq_true, decide_eq_true_eq, beq_iff_eq] at h k ⊢
   rcases h with h | ⟨rfl, h⟩
   · rcases k with k | ⟨rfl, k⟩
     · exact .inl (BitVec.lt_trans h k)
     · exact .inl h
   · rcases k with k | ⟨rfl, k⟩
     · exact .inl k
     · exact .inr ⟨rfl, lessL_trans h k⟩
theorem lessL_tri : ∀ {a b : Bytes}, lessL a b = false → lessL b a = false → a = b
 | [], [], _, _ => rfl
 | [], _ :: _, h, _ => by simp [lessL] at h
 | _ :: _, [], _, h => by simp [lessL] at h
 | x :: a, y :: b, h, k => by
   simp only [lessL, Bool.or_eq_false_iff, Bool.and_eq_false_iff, decide_eq_false_iff_not, beq_eq_false_iff_ne, ne_eq] at h k
   have e : x = y := by
    have h1 := h.1
    have k1 := k.1
    rw [BitVec.lt_def] at h1 k1
    exact BitVec.eq_of_toNat_eq (by omega)
   subst e
   rcases h.2 with h2 | h2
   · exact absurd rfl h2
   · rcases k.2 with k2 | k2
     · exact absurd rfl k2
     · rw [lessL_tri h2 k2]
theorem lessL_asym {a b : Bytes} (h : lessL a b = true) : lessL b a = false := by
 cases k : lessL b a with
 | false => rfl
 | true => rw [← lessL_irr a, lessL_trans h k]
theorem lessL_ltle {a b c : Bytes} (h : lessL b a = false) (k : lessL b c = true) : lessL a c = true := by
 cases hb : lessL a b with
 | true => exact lessL_trans hb k
 | false => rw [lessL_tri hb h]; exact k
theorem lessL_lelt {a b c : Bytes} (h : lessL a b = true) (k : lessL c b = false) : lessL a c = true := by
 cases hb : lessL b c with
 | true => exact lessL_trans h hb
 | false => rw [← lessL_tri hb k]; exact h
theorem lessL_lele {a b c : Bytes} (h : lessL b a = false) (k : lessL c b = false) : lessL c a = false := by
 cases hb : lessL c a with
 | false => rfl
 | true => rw [lessL_lelt hb h] at k; cases k
end Go.Sal
