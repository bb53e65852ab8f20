/- What the leaves compute: varints, words, as plain lists. No program in sight. -/
import Derived.Test.YtdddnamfecgkeaaDoorWVseDefs
namespace Go.Sal
open Go.Vse
abbrev B8 := BitVec 8
abbrev Bytes := List (BitVec 8)

def iter {α : Type} (f : α → Nat → α) : Nat → α → α
 | 0, a => a
 | n + 1, a => f (iter f n a) n

def varintN (n : Nat) : Bytes := if n < 128 then [BitVec.ofNat 8 n] else BitVec.ofNat 8 (n % 128 + 128) :: varintN (n / 128)
termination_by n
decreasing_by omega

end Go.Sal

namespace Go.Sal
open Go.Vse
abbrev W32 := BitVec 32

def rotr (x : W32) (n : Nat) : W32 := x >>> n ||| x <<< (32 - n)
def w32 (a b c d : B8) : W32 := BitVec.ofNat 32 (a.toNat * 16777216 + b.toNat * 65536 + c.toNat * 256 + d.toNat)
def wordAt (b : Bytes) (i : Nat) : W32 := w32 (b.getD (4 * i) 0#8) (b.getD (4 * i + 1) 0#8) (b.getD (4 * i + 2) 0#8) (b.getD (4 * i + 3) 0#8)
def sig0 (x : W32) : W32 := rotr x 7 ^^^ rotr x 18 ^^^ x >>> 3
def sig1 (x : W32) : W32 := rotr x 17 ^^^ rotr x 19 ^^^ x >>> 10
def schedStep (w : List W32) (k : Nat) : List W32 :=
 w.set (k + 16) (w.getD k 0#32 + sig0 (w.getD (k + 1) 0#32) + w.getD (k + 9) 0#32 + sig1 (w.getD (k + 14) 0#32))
def sched16 (b : Bytes) : List W32 := iter (fun w i => w.set i (wordAt b i)) 16 (List.replicate 64 0#32)
def sched (b : Bytes) : List W32 := iter schedStep 48 (sched16 b)
theorem iter_zero {α : Type} (f : α → Nat → α) (a : α) : iter f 0 a = a := rfl
theorem sched16_def (b : Bytes) : sched16 b = iter (fun w i => w.set i (wordAt b i)) 16 (List.replicate 64 0#32) := by rw [sched16]
theorem sched_def (b : Bytes) : sched b = iter schedStep 48 (sched16 b) := by rw [sched]
def start : List W32 := [0x6a09e667#32, 0xbb67ae85#32, 0x3c6ef372#32, 0xa54ff53a#32, 0x510e527f#32, 0x9b05688c#32, 0x1f83d9ab#32, 0x5be0cd19#32]
def consts : List W32 := [
 0x428a2f98#32, 0x71374491#32, 0xb5c0fbcf#32, 0xe9b5dba5#32, 0x3956c25b#32, 0x59f111f1#32, 0x923f82a4#32, 0xab1c5ed5#32,
 0xd807aa98#32, 0x12835b01#32, 0x243185be#32, 0x550c7dc3#32, 0x72be5d74#32, 0x80deb1fe#32, 0x9bdc06a7#32, 0xc19bf174#32,
 0xe49b69c1#32, 0xefbe4786#32, 0x0fc19dc6#32, 0x240ca1cc#32, 0x2de92c6f#32, 0x4a7484aa#32, 0x5cb0a9dc#32, 0x76f988da#32,
 0x983e5152#32, 0xa831c66d#32, 0xb00327c8#32, 0xbf597fc7#32, 0xc6e00bf3#32, 0xd5a79147#32, 0x06ca6351#32, 0x14292967#32,
 0x27b70a85#32, 0x2e1b2138#32, 0x4d2c6dfc#32, 0x53380d13#32, 0x650a7354#32, 0x766a0abb#32, 0x81c2c92e#32, 0x92722c85#32,
 0xa2bfe8a1#32, 0xa81a664b#32, 0xc24b8b70#32, 0xc76c51a3#32, 0xd192e819#32, 0xd6990624#32, 0xf40e3585#32, 0x106aa070#32,
 0x19a4c116#32, 0x1e376c08#32, 0x2748774c#32, 0x34b0bcb5#32, 0x391c0cb3#32, 0x4ed8aa4a#32, 0x5b9cca4f#32, 0x682e6ff3#32,
 0x748f82ee#32, 0x78a5636f#32, 0x84c87814#32, 0x8cc70208#32, 0x90befffa#32, 0xa4506ceb#32, 0xbef9a3f7#32, 0xc67178f2#32]
def round (w : List W32) (s : List W32) (i : Nat) : List W32 :=
 let t1 := s.getD 7 0#32 + (rotr (s.getD 4 0#32) 6 ^^^ rotr (s.getD 4 0#32) 11 ^^^ rotr (s.getD 4 0#32) 25) + (s.getD 4 0#32 &&& s.getD 5 0#32 ^^^ ~~~(s.getD 4 0#32) &&& s.getD 6 0#32) + consts.getD i 0#32 + w.getD i 0#32
 let t2 := (rotr (s.getD 0 0#32) 2 ^^^ rotr (s.getD 0 0#32) 13 ^^^ rotr (s.getD 0 0#32) 22) + (s.getD 0 0#32 &&& s.getD 1 0#32 ^^^ s.getD 0 0#32 &&& s.getD 2 0#32 ^^^ s.getD 1 0#32 &&& s.getD 2 0#32)
 [t1 + t2, s.getD 0 0#32, s.getD 1 0#32, s.getD 2 0#32, s.getD 3 0#32 + t1, s.getD 4 0#32, s.getD 5 0#32, s.getD 6 0#32]
def rounds (b : Bytes) (s : List W32) : List W32 := iter (round (sched b)) 64 s
def step (s : List W32) (b : Bytes) : List W32 := iter (fun t i => t.set i (t.getD i 0#32 + s.getD i 0#32)) 8 (rounds b s)

theorem rounds_def (b : Bytes) (s : List W32) : rounds b s = iter (round (sched b)) 64 s := by rw [rounds]
theorem step_def (s : List W32) (b : Bytes) : step s b = iter (fun t i => t.set i (t.getD i 0#32 + s.getD i 0#32)) 8 (rounds b s) := by rw [step]

def run (s : List W32) (b : Bytes) : List W32 := if 64 ≤ b.length then run (step s (b.take 64)) (b.drop 64) else s
termination_by b.length
decreasing_by simp; omega
def rest (b : Bytes) : Bytes := if 64 ≤ b.length then rest (b.drop 64) else b
termination_by b.length
decreasing_by simp; omega
def beBytes (x : BitVec 64) (n : Nat) : Bytes := (List.range n).map fun i => (x >>> (8 * (n - 1 - i))).setWidth 8
def be8 (n : BitVec 64) : Bytes := beBytes n 8
def beN (b : Bytes) : Nat := b.foldl (fun x c => x * 256 + c.toNat) 0
def words32 (b : Bytes) : List (BitVec 64) := (List.range (b.length / 4)).map fun i => BitVec.ofNat 64 (beN ((b.drop (4 * i)).take 4))
def widthV (n : Int) : Int := if n = 8 ∨ n = 16 ∨ n = 32 ∨ n = 64 then 0 else 10
def wayV (n o : Int) : Int := if widthV n ≠ 0 then widthV n else if o ≠ 1 ∧ o ≠ 2 then 1 else 0
def zerosN (n : BitVec 64) : Nat := (119 - n.toNat % 64) % 64
def pad (n : BitVec 64) : Bytes := 128#8 :: (List.replicate (zerosN n) 0#8 ++ be8 (n * 8#64))
def digest (s : List W32) : Bytes := (List.range 32).map fun i => ((s.getD (i / 4) 0#32) >>> (8 * (3 - i % 4))).setWidth 8
def sha (m : Bytes) : Bytes := digest (run start (m ++ pad (BitVec.ofNat 64 m.length)))

theorem run_small {s : List W32} {b : Bytes} (h : b.length < 64) : run s b = s := by rw [run, if_neg (by omega)]
theorem rest_small {b : Bytes} (h : b.length < 64) : rest b = b := by rw [rest, if_neg (by omega)]
theorem run_big {s : List W32} {b : Bytes} (h : 64 ≤ b.length) : run s b = run (step s (b.take 64)) (b.drop 64) := by rw [run, if_pos h]
theorem rest_big {b : Bytes} (h : 64 ≤ b.length) : rest b = rest (b.drop 64) := by rw [rest, if_pos h]

theorem run_rest (n : Nat) : ∀ (s : List W32) (a c : Bytes), a.length ≤ n → run s (a ++ c) = run (run s a) (rest a ++ c) ∧ rest (a ++ c) = rest (rest a ++ c) := by
 induction n with
 | zero =>
   intro s a c h
   have : a = [] := List.eq_nil_of_length_eq_zero (by omega)
   subst this
   rw [run_small (b := []) (by simp), rest_small (b := []) (by simp)]
   exact ⟨rfl, rfl⟩
 | succ n ih =>
   intro s a c h
   by_cases hb : 64 ≤ a.length
   · rw [run_big (b := a ++ c) (by simp; omega), rest_big (b := a ++ c) (by simp; omega), run_big hb, rest_big hb,
       List.take_append_of_le_length hb, List.drop_append_of_le_length hb]
     exact ih _ _ _ (by simp; omega)
   · rw [run_small (b := a) (by omega), rest_small (b := a) (by omega)]
     exact ⟨rfl, rfl⟩
theorem run_append (s : List W32) (a c : Bytes) : run s (a ++ c) = run (run s a) (rest a ++ c) := (run_rest a.length s a c (Nat.le_refl _)).1
theorem rest_append (a c : Bytes) : rest (a ++ c) = rest (rest a ++ c) := (run_rest a.length [] a c (Nat.le_refl _)).2
theorem rest_length (b : Bytes) : (rest b).length < 64 := by
 generalize hn : b.length = n
 induction n using Nat.strongRecOn generalizing b with
 | _ n ih =>
   by_cases h : 64 ≤ b.length
   · rw [rest_big h]; exact ih (b.drop 64).length (by simp; omega) _ rfl
   · rw [rest_small (by omega)]; omega

theorem digest_length (s : List W32) : (digest s).length = 32 := by simp [digest]
theorem be8_length (n : BitVec 64) : (be8 n).length = 8 := by simp [be8, beBytes]
theorem pad_length (n : BitVec 64) : (pad n).length = 9 + zerosN n := by simp [pad, be8_length]; omega
theorem zerosN_lt (n : BitVec 64) : zerosN n < 64 := Nat.mod_lt _ (by decide)

theorem getLsbD_rotr (x : W32) (n : Nat) (hn : n ≤ 32) (i : Nat) (hi : i < 32) : (rotr x n).getLsbD i = if n + i < 32 then x.getLsbD (n + i) else x.getLsbD (n + i - 32) := by
 simp only [rotr, BitVec.getLsbD_or, BitVec.getLsbD_ushiftRight, BitVec.getLsbD_shiftLeft]
 by_cases h : n + i < 32
 · have : i < 32 - n := by omega
   simp [h, this]
 · have h1 : ¬ i < 32 - n := by omega
   have h2 : x.getLsbD (n + i) = false := BitVec.getLsbD_of_ge _ _ (by omega)
   have h3 : i - (32 - n) = n + i - 32 := by omega
   simp [h, h1, h2, h3, hi]
theorem rotr_zero (x : W32) : rotr x 0 = x := by
 apply BitVec.eq_of_getLsbD_eq
 intro i hi
 rw [getLsbD_rotr x 0 (by omega) i hi]
 simp [hi]
theorem rotr_succ (x : W32) (n : Nat) (hn : n < 32) : rotr (rotr x n) 1 = rotr x (n + 1) := by
 apply BitVec.eq_of_getLsbD_eq
 intro i hi
 rw [getLsbD_rotr _ 1 (by omega) i hi, getLsbD_rotr x (n + 1) (by omega) i hi]
 by_cases h : 1 + i < 32
 · rw [if_pos h, getLsbD_rotr x n (by omega) _ h]
   have e : n + (1 + i) = n + 1 + i := by omega
   rw [e]
 · rw [if_neg h, getLsbD_rotr x n (by omega) _ (by omega)]
   have e1 : 1 + i - 32 = 0 := by omega
   have e2 : n + 1 + i - 32 = n := by omega
   have h2 : ¬ n + 1 + i < 32 := by omega
   rw [e1, if_neg h2, e2]
   simp [hn]
theorem half (x : W32) : x / 2#32 = x >>> 1 := by
 apply BitVec.eq_of_toNat_eq
 rw [BitVec.toNat_udiv, BitVec.toNat_ushiftRight, Nat.shiftRight_eq_div_pow]; rfl
theorem aux31 (n : Nat) : n * 2147483648 % 4294967296 = n % 2 * 2147483648 := by omega
theorem aux32 (n : Nat) (h : n < 4294967296) : n % 2 * 2147483648 + n / 2 < 4294967296 := by omega
theorem pow31 : 2 ^ 31 = 2147483648 := by decide
theorem pow32 : 2 ^ 32 = 4294967296 := by decide
theorem rotr_one_toNat (x : W32) : (rotr x 1).toNat = x.toNat % 2 * 2147483648 + x.toNat / 2 := by
 have hx : x.toNat < 4294967296 := x.isLt
 simp only [rotr, BitVec.toNat_or, BitVec.toNat_ushiftRight, BitVec.toNat_shiftLeft, Nat.shiftRight_eq_div_pow, Nat.pow_one]
 have e : x.toNat <<< (32 - 1) % 2 ^ 32 = (x.toNat % 2) <<< 31 := by
  rw [Nat.shiftLeft_eq, Nat.shiftLeft_eq, pow32, show 32 - 1 = 31 from rfl, pow31, aux31]
 rw [e, Nat.or_comm, ← Nat.shiftLeft_add_eq_or_of_lt (by rw [pow31]; omega), Nat.shiftLeft_eq, pow31]
theorem rotr_one (x : W32) : x / 2#32 + x % 2#32 * 2147483648#32 = rotr x 1 := by
 apply BitVec.eq_of_toNat_eq
 rw [rotr_one_toNat]
 have hx : x.toNat < 4294967296 := x.isLt
 have e2 : (2#32).toNat = 2 := rfl
 have e3 : (2147483648#32).toNat = 2147483648 := by decide
 rw [BitVec.toNat_add, BitVec.toNat_mul, BitVec.toNat_udiv, BitVec.toNat_umod, e2, e3, pow32]
 have h1 : x.toNat % 2 * 2147483648 % 4294967296 = x.toNat % 2 * 2147483648 := Nat.mod_eq_of_lt (by omega)
 rw [h1, Nat.add_comm, Nat.mod_eq_of_lt (aux32 _ hx)]

theorem beN_snoc (b : Bytes) (c : B8) : beN (b ++ [c]) = beN b * 256 + c.toNat := by simp [beN]
theorem take_snoc {b : Bytes} {i : Nat} (h : i < b.length) : b.take (i + 1) = b.take i ++ [b.getD i 0#8] := by
 rw [List.take_succ_eq_append_getElem h]; simp [List.getD_eq_getElem?_getD, h]
theorem beN_lt (b : Bytes) : beN b < 256 ^ b.length := by
 suffices h : ∀ (b : Bytes) (a k : Nat), a < 256 ^ k → b.foldl (fun x c => x * 256 + c.toNat) a < 256 ^ (k + b.length) by
  simpa [beN] using h b 0 0 (by simp)
 intro b
 induction b with
 | nil => intro a k h; simpa using h
 | cons c b ih =>
   intro a k h
   have hc : c.toNat < 256 := c.isLt
   have := ih (a * 256 + c.toNat) (k + 1) (by rw [Nat.pow_succ]; omega)
   simpa [Nat.add_assoc, Nat.add_comm] using this
theorem pow256 (k : Nat) : 256 ^ k = 2 ^ (8 * k) := by rw [Nat.pow_mul]
theorem orWord (A k : Nat) (c : B8) (h : (A * 256 + c.toNat + 1) * 256 ^ k ≤ 18446744073709551616) :
 BitVec.ofNat 64 (A * 256 ^ (k + 1)) ||| (BitVec.setWidth 64 c) <<< (8 * k) = BitVec.ofNat 64 ((A * 256 + c.toNat) * 256 ^ k) := by
 have hc : c.toNat < 256 := c.isLt
 have hp : 0 < 256 ^ k := Nat.pow_pos (by decide)
 have e64 : 2 ^ 64 = 18446744073709551616 := by decide
 have e1 : A * 256 ^ (k + 1) + c.toNat * 256 ^ k = (A * 256 + c.toNat) * 256 ^ k := by rw [Nat.pow_succ, Nat.add_mul, Nat.mul_comm (256 ^ k) 256, Nat.mul_assoc]
 have e2 : (A * 256 + c.toNat) * 256 ^ k + 256 ^ k ≤ 18446744073709551616 := by rw [← Nat.succ_mul]; exact h
 have h1 : c.toNat * 256 ^ k < 256 ^ (k + 1) := by rw [Nat.pow_succ, Nat.mul_comm]; exact Nat.mul_lt_mul_of_pos_left hc hp
 apply BitVec.eq_of_toNat_eq
 rw [BitVec.toNat_or, BitVec.toNat_shiftLeft, BitVec.toNat_ofNat, BitVec.toNat_ofNat, BitVec.toNat_setWidth, e64, Nat.mod_eq_of_lt (show A * 256 ^ (k + 1) < 18446744073709551616 by omega),
  Nat.mod_eq_of_lt (show c.toNat < 18446744073709551616 by omega), Nat.shiftLeft_eq, ← pow256, Nat.mod_eq_of_lt (show c.toNat * 256 ^ k < 18446744073709551616 by omega),
  Nat.mod_eq_of_lt (show (A * 256 + c.toNat) * 256 ^ k < 18446744073709551616 by omega), ← e1]
 rw [pow256 (k + 1)] at h1 ⊢
 rw [← Nat.shiftLeft_eq, ← Nat.shiftLeft_add_eq_or_of_lt h1]
theorem words32_length (b : Bytes) : (words32 b).length = b.length / 4 := by simp [words32]
theorem words32_snoc {b : Bytes} {i : Nat} (h : i < b.length / 4) : (words32 b).take (i + 1) = (words32 b).take i ++ [BitVec.ofNat 64 (beN ((b.drop (4 * i)).take 4))] := by
 rw [List.take_succ_eq_append_getElem (by rw [words32_length]; exact h)]
 simp [words32]
theorem words32_getD {b : Bytes} {i : Nat} (h : i < b.length / 4) : (words32 b).getD i 0#64 = BitVec.ofNat 64 (beN ((b.drop (4 * i)).take 4)) := by
 simp [List.getD_eq_getElem?_getD, words32, h]
theorem wordAt_eq {b : Bytes} {i : Nat} (h : 4 * i + 4 ≤ b.length) : BitVec.setWidth 32 (BitVec.ofNat 64 (beN ((b.drop (4 * i)).take 4))) = wordAt b i := by
 have e : (b.drop (4 * i)).take 4 = [b.getD (4 * i) 0#8, b.getD (4 * i + 1) 0#8, b.getD (4 * i + 2) 0#8, b.getD (4 * i + 3) 0#8] := by
  apply List.ext_getElem
  · simp; omega
  · intro j h1 h2
    simp at h2
    have : j = 0 ∨ j = 1 ∨ j = 2 ∨ j = 3 := by omega
    rcases this with rfl | rfl | rfl | rfl <;> simp [List.getD_eq_getElem?_getD, show 4 * i < b.length by omega, show 4 * i + 1 < b.length by omega, show 4 * i + 2 < b.length by omega, show 4 * i + 3 < b.length by omega]
 rw [e]
 unfold wordAt w32
 generalize b.getD (4 * i) 0#8 = c0
 generalize b.getD (4 * i + 1) 0#8 = c1
 generalize b.getD (4 * i + 2) 0#8 = c2
 generalize b.getD (4 * i + 3) 0#8 = c3
 have h0 : c0.toNat < 256 := c0.isLt
 have h1 : c1.toNat < 256 := c1.isLt
 have h2 : c2.toNat < 256 := c2.isLt
 have h3 : c3.toNat < 256 := c3.isLt
 have hN : beN [c0, c1, c2, c3] = c0.toNat * 16777216 + c1.toNat * 65536 + c2.toNat * 256 + c3.toNat := by
  simp only [beN, List.foldl]; omega
 rw [hN]
 apply BitVec.eq_of_toNat_eq
 rw [BitVec.toNat_setWidth, BitVec.toNat_ofNat, BitVec.toNat_ofNat]
 have e64 : 2 ^ 64 = 18446744073709551616 := by decide
 rw [e64, pow32]
 omega
theorem beBytes_length (x : BitVec 64) (n : Nat) : (beBytes x n).length = n := by simp [beBytes]
theorem beBytes_getD {x : BitVec 64} {n i : Nat} (h : i < n) : (beBytes x n).getD i 0#8 = (x >>> (8 * (n - 1 - i))).setWidth 8 := by
 simp [List.getD_eq_getElem?_getD, beBytes, h]
theorem fill_set {α : Type} {l : List α} {n i : Nat} {d x : α} (hl : l.length = n) (hi : i < n) (hx : l[i]? = some x) :
 (l.take i ++ List.replicate (n - i) d).set i x = l.take (i + 1) ++ List.replicate (n - (i + 1)) d := by
 have hlt : i < l.length := by omega
 have ht : (l.take i).length = i := by simp; omega
 rw [List.set_append_right _ _ (by omega), ht, Nat.sub_self, List.take_succ_eq_append_getElem hlt]
 have e : n - i = n - (i + 1) + 1 := by omega
 rw [e, List.replicate_succ, List.set_cons_zero]
 have : l[i] = x := by rw [List.getElem?_eq_getElem hlt] at hx; exact Option.some.inj hx
 rw [this]; simp
theorem digest_four (s : List W32) {i : Nat} (h : i < 8) : ((digest s).drop (4 * i)).take 4 = beBytes (BitVec.setWidth 64 (s.getD i 0#32)) 4 := by
 apply List.ext_getElem
 · simp [digest_length, beBytes_length]; omega
 · intro j h1 h2
   simp [beBytes_length] at h2
   have e1 : (4 * i + j) / 4 = i := by omega
   have e2 : (4 * i + j) % 4 = j := by omega
   simp only [List.getElem_take, List.getElem_drop, digest, beBytes, List.getElem_map, List.getElem_range, e1, e2]
   apply BitVec.eq_of_toNat_eq
   have e3 : 4 - 1 - j = 3 - j := by omega
   simp only [BitVec.toNat_setWidth, BitVec.toNat_ushiftRight, e3]
   have : (s.getD i 0#32).toNat < 2 ^ 64 := Nat.lt_of_lt_of_le (s.getD i 0#32).isLt (by decide)
   rw [Nat.mod_eq_of_lt this]
theorem fill_splice {α : Type} {l new : List α} {n k : Nat} {d : α} (hl : l.length = n) (hk : k + 4 ≤ n) (hn : (l.drop k).take 4 = new) :
 spliceL (l.take k ++ List.replicate (n - k) d) (new.take (n - k)) k = l.take (k + 4) ++ List.replicate (n - (k + 4)) d := by
 have hnew : new.length = 4 := by rw [← hn]; simp; omega
 have ht : (l.take k).length = k := by simp; omega
 unfold spliceL
 rw [List.take_of_length_le (show new.length ≤ n - k by omega), hnew, List.take_left' ht, List.drop_append, ht, List.drop_of_length_le (by omega : (l.take k).length ≤ k + 4), ← hn, List.nil_append, List.drop_replicate]
 have e : l.take (k + 4) = l.take k ++ (l.drop k).take 4 := by rw [List.take_add]
 rw [e, List.append_assoc]
 congr 2
 rw [show n - k - (k + 4 - k) = n - (k + 4) by omega]

theorem word_aux (a b c d : Nat) (ha : a < 256) (hb : b < 256) (hc : c < 256) (hd : d < 256) :
 ((((a % 4294967296) * 16777216 % 4294967296 + (b % 4294967296) * 65536 % 4294967296) % 4294967296 + (c % 4294967296) * 256 % 4294967296) % 4294967296 + d % 4294967296) % 4294967296 =
  (a * 16777216 + b * 65536 + c * 256 + d) % 4294967296 := by omega
theorem word_mul (a b c d : B8) : BitVec.setWidth 32 a * 16777216#32 + BitVec.setWidth 32 b * 65536#32 + BitVec.setWidth 32 c * 256#32 + BitVec.setWidth 32 d = w32 a b c d := by
 apply BitVec.eq_of_toNat_eq
 have e1 : (16777216#32).toNat = 16777216 := by decide
 have e2 : (65536#32).toNat = 65536 := by decide
 have e3 : (256#32).toNat = 256 := by decide
 unfold w32
 rw [BitVec.toNat_add, BitVec.toNat_add, BitVec.toNat_add, BitVec.toNat_mul, BitVec.toNat_mul, BitVec.toNat_mul, e1, e2, e3, BitVec.toNat_setWidth, BitVec.toNat_setWidth, BitVec.toNat_setWidth, BitVec.toNat_setWidth, BitVec.toNat_ofNat, pow32]
 exact word_aux _ _ _ _ a.isLt b.isLt c.isLt d.isLt
theorem pad_aux (m k : Nat) (hk : k < 64) : ((m % 64 + (k + 1) % 18446744073709551616) % 18446744073709551616 + 8) % 18446744073709551616 % 64 = (m % 64 + (k + 1) + 8) % 64 := by omega
theorem pad_cond (n : BitVec 64) (k : Nat) (hk : k ≤ zerosN n) : ((n % 64#64 + BitVec.ofInt 64 ((k + 1 : Nat) : Int) + 8#64) % 64#64 != 0#64) = decide (k ≠ zerosN n) := by
 have hz := zerosN_lt n
 have a1 : (64#64).toNat = 64 := by decide
 have a2 : (8#64).toNat = 8 := by decide
 have e64 : 2 ^ 64 = 18446744073709551616 := by decide
 have e : ((n % 64#64 + BitVec.ofInt 64 ((k + 1 : Nat) : Int) + 8#64) % 64#64).toNat = (n.toNat % 64 + (k + 1) + 8) % 64 := by
  rw [BitVec.ofInt_natCast, BitVec.toNat_umod, BitVec.toNat_add, BitVec.toNat_add, BitVec.toNat_umod, a1, a2, BitVec.toNat_ofNat, e64]
  exact pad_aux _ _ (by omega)
 have h : ((n % 64#64 + BitVec.ofInt 64 ((k + 1 : Nat) : Int) + 8#64) % 64#64 = 0#64) ↔ k = zerosN n := by
  constructor
  · intro h
    rw [h] at e
    have e0 : (0#64).toNat = 0 := by decide
    rw [e0] at e
    unfold zerosN at hk hz ⊢
    omega
  · intro h
    apply BitVec.eq_of_toNat_eq
    rw [e, h]
    have e0 : (0#64).toNat = 0 := by decide
    rw [e0]
    unfold zerosN
    omega
 by_cases hh : k = zerosN n
 · have h0 := h.2 hh
   rw [h0]; simp [hh]
 · have : ¬ ((n % 64#64 + BitVec.ofInt 64 ((k + 1 : Nat) : Int) + 8#64) % 64#64 = 0#64) := fun x => hh (h.1 x)
   simp only [bne, ne_eq, hh, not_false_eq_true, decide_true, Bool.not_eq_true', beq_eq_false_iff_ne]
   exact this
theorem be8_snoc (y : BitVec 64) {i : Nat} (h : i < 8) : (be8 y).take (i + 1) = (be8 y).take i ++ [BitVec.setWidth 8 (y <<< (8 * i) / 72057594037927936#64)] := by
 rw [List.take_succ_eq_append_getElem (by rw [be8_length]; exact h)]
 congr 2
 simp only [be8, beBytes, List.getElem_map, List.getElem_range]
 have e : y <<< (8 * i) / 72057594037927936#64 = y <<< (8 * i) >>> 56 := by
  apply BitVec.eq_of_toNat_eq
  have e1 : (72057594037927936#64).toNat = 2 ^ 56 := by decide
  rw [BitVec.toNat_udiv, BitVec.toNat_ushiftRight, Nat.shiftRight_eq_div_pow, e1]
 rw [e]
 apply BitVec.eq_of_getLsbD_eq
 intro j hj
 simp only [BitVec.getLsbD_setWidth, BitVec.getLsbD_ushiftRight, BitVec.getLsbD_shiftLeft, hj, decide_true, Bool.true_and]
 have h1 : 56 + j < 64 := by omega
 have h2 : ¬ 56 + j < 8 * i := by omega
 simp only [h1, h2, decide_true, decide_false, Bool.not_false, Bool.and_self, Bool.true_and]
 congr 1
 omega
theorem shl8 (y : BitVec 64) (i : Nat) : y <<< (8 * i) * 256#64 = y <<< (8 * (i + 1)) := by
 apply BitVec.eq_of_toNat_eq
 have e1 : (256#64).toNat = 2 ^ 8 := by decide
 rw [BitVec.toNat_mul, BitVec.toNat_shiftLeft, BitVec.toNat_shiftLeft, e1, Nat.shiftLeft_eq, Nat.shiftLeft_eq, Nat.mod_mul_mod, show 8 * (i + 1) = 8 * i + 8 by omega, Nat.pow_add, Nat.mul_assoc]
theorem shr8 (y : W32) (k : Nat) : y >>> (8 * k) / 256#32 = y >>> (8 * (k + 1)) := by
 apply BitVec.eq_of_toNat_eq
 have e1 : (256#32).toNat = 2 ^ 8 := by decide
 rw [BitVec.toNat_udiv, BitVec.toNat_ushiftRight, BitVec.toNat_ushiftRight, e1, Nat.shiftRight_eq_div_pow, Nat.shiftRight_eq_div_pow, show 8 * (k + 1) = 8 * k + 8 by omega, Nat.pow_add, Nat.div_div_eq_div_mul]
theorem low8 (y : W32) : BitVec.setWidth 8 (y % 256#32) = BitVec.setWidth 8 y := by
 apply BitVec.eq_of_toNat_eq
 have e1 : (256#32).toNat = 256 := by decide
 rw [BitVec.toNat_setWidth, BitVec.toNat_setWidth, BitVec.toNat_umod, e1]
 simp
theorem digest_getD (s : List W32) {i : Nat} (h : i < 32) : (digest s)[i]? = some (((s.getD (i / 4) 0#32) >>> (8 * (3 - i % 4))).setWidth 8) := by
 simp [digest, h]
end Go.Sal

namespace Go.Sal
open Go.Vse
abbrev T_Dig : T := .arr 32 .u8
abbrev T_Pie : T := .pair T_Dig .i64
abbrev T_Rec : T := .pair .i64 (.pair .i64 (.pair T_Dig (.pair .i64 (.pair .i64 (.pair .str (.slc T_Pie))))))
abbrev Rec := T_Rec.den
def headBytes (r : Rec) : Bytes := [82#8, BitVec.ofInt 8 r.2.2.2.1] ++ varintN r.1.toNat ++ varintN r.2.1.toNat ++ r.2.2.1
def zero32 : Bytes := List.replicate 32 0#8
theorem getD_lt {α : Type} {l : List α} {i : Nat} {d : α} (h : i < l.length) : l.getD i d = l[i] := by simp [List.getD_eq_getElem?_getD, h]
theorem take_snoc' {α : Type} {l : List α} {i : Nat} {d : α} (h : i < l.length) : l.take (i + 1) = l.take i ++ [l.getD i d] := by
 rw [List.take_succ_eq_append_getElem h, getD_lt h]
def pre (r : Rec) : Bytes := headBytes r ++ [BitVec.ofInt 8 r.2.2.2.2.2.1.length] ++ r.2.2.2.2.2.1 ++ varintN r.2.2.2.2.2.2.length
theorem toNat64 {n : Int} (h0 : 0 ≤ n) (h1 : n < 18446744073709551616) : (BitVec.ofInt 64 n).toNat = n.toNat := by
 obtain ⟨k, rfl⟩ := Int.eq_ofNat_of_zero_le h0
 rw [BitVec.ofInt_natCast, BitVec.toNat_ofNat, Int.toNat_natCast]
 have e64 : 2 ^ 64 = 18446744073709551616 := by decide
 rw [e64, Nat.mod_eq_of_lt (by omega)]
theorem eqL_u8 (a b : Bytes) : eqL T.u8 a b = (a == b) := by
 rw [Bool.eq_iff_iff]; simp [eqL]
end Go.Sal