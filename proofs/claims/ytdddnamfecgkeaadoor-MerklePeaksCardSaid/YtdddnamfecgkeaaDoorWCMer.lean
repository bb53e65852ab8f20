/- Contracts of merkle and of ref27: leaves, nodes, roots. -/
import Derived.Test.YtdddnamfecgkeaaDoorWCRec
import Derived.Test.YtdddnamfecgkeaaDoorWSalMer
set_option maxRecDepth 100000
namespace Go.Sal
open Go.Vse Go.Sal.Nm

def c_Node : PC := D [T_Dig, T_Dig] [T_Dig] (fun _ => none) (fun x => (nodeV x.1 x.2.1, ()))

theorem merkle_Node_vc (l r : Dig) (hl : l.length = 32) (hr : r.length = 32) :
 List.length (List.flatten [[1#8], List.take 32 (List.drop 0 l), List.take 32 (List.drop 0 r)]) ≤ 1073741824 ∧
  sha (List.flatten [[1#8], List.take 32 (List.drop 0 l), List.take 32 (List.drop 0 r)]) = nodeV l r := by
 have e : List.flatten [[1#8], List.take 32 (List.drop 0 l), List.take 32 (List.drop 0 r)] = [1#8] ++ l ++ r := by
  rw [List.drop_zero, List.drop_zero, List.take_of_length_le (by omega), List.take_of_length_le (by omega)]; simp
 rw [e]
 exact ⟨by simp; omega, rfl⟩

theorem ref27_Node_vc (l r : Dig) (hl : l.length = 32) (hr : r.length = 32) :
 List.length (List.flatten [[1#8], List.take 32 (List.drop 0 l), List.take 32 (List.drop 0 r)]) ≤ 1073741824 ∧
  sha (List.flatten [[1#8], List.take 32 (List.drop 0 l), List.take 32 (List.drop 0 r)]) = nodeV l r := by
 have e : List.flatten [[1#8], List.take 32 (List.drop 0 l), List.take 32 (List.drop 0 r)] = [1#8] ++ l ++ r := by
  rw [List.drop_zero, List.drop_zero, List.take_of_length_le (by omega), List.take_of_length_le (by omega)]; simp
 rw [e]
 exact ⟨by simp; omega, rfl⟩

def c_bLen : PC := D [.u64] [.i64] (fun _ => none) (fun x => (((bitlen x.1.toNat : Nat) : Int), ()))

theorem sh_toNat (x k : BitVec 64) : (x >>> k.toNat).toNat = x.toNat / 2 ^ k.toNat := by
 rw [BitVec.toNat_ushiftRight, Nat.shiftRight_eq_div_pow]
theorem bitlen_div (x c : Nat) (h : c = 0 ∨ 2 ^ c ≤ x) : bitlen x = c + bitlen (x / 2 ^ c) := by
 rcases h with rfl | h
 · simp
 · have hp : 0 < 2 ^ c := Nat.one_le_two_pow
   have h1 : 1 ≤ x / 2 ^ c := (Nat.le_div_iff_mul_le hp).2 (by omega)
   have a := (Nat.log2_eq_iff (n := x / 2 ^ c) (k := (x / 2 ^ c).log2) (by omega)).1 rfl
   have b1 := (Nat.le_div_iff_mul_le hp).1 a.1
   have b2 := (Nat.div_lt_iff_lt_mul hp).1 a.2
   rw [← Nat.pow_add] at b1 b2
   have e := (Nat.log2_eq_iff (n := x) (k := (x / 2 ^ c).log2 + c) (by omega)).2 ⟨b1, by rw [show (x / 2 ^ c).log2 + c + 1 = (x / 2 ^ c).log2 + 1 + c by omega]; exact b2⟩
   unfold bitlen
   rw [if_neg (by omega), if_neg (by omega), e]
   omega
theorem len8_leaf (x y : BitVec 64) (c d : Nat) (hd : d = 2 ^ c) (hy : y.toNat = x.toNat / d) (hlo : c = 0 ∨ d ≤ x.toNat) (hhi : y.toNat < 256) (hc : c ≤ 56) :
 within (ofN (BitVec.toNat (BitVec.setWidth 8 y))) (List.length len8) ∧ inI64 ((c : Int) + ofN (BitVec.toNat (List.getD len8 (Int.toNat (ofN (BitVec.toNat (BitVec.setWidth 8 y)))) 0#8))) ∧
  (c : Int) + ofN (BitVec.toNat (List.getD len8 (Int.toNat (ofN (BitVec.toNat (BitVec.setWidth 8 y)))) 0#8)) = ofN (bitlen (BitVec.toNat x)) := by
 subst hd
 have hs : (BitVec.setWidth 8 y).toNat = y.toNat := by rw [BitVec.toNat_setWidth]; omega
 have h8 := len8_at ⟨y.toNat, hhi⟩
 have hb := bitlen_div x.toNat c hlo
 rw [← hy] at hb
 have hi : Int.toNat (ofN (BitVec.toNat (BitVec.setWidth 8 y))) = y.toNat := by rw [hs]; rfl
 rw [hi, len8_len, hs]
 simp only at h8
 have hlt := (List.getD len8 y.toNat 0#8).isLt
 rw [h8] at hlt ⊢
 rw [hb]
 exact ⟨by unfold within ofN; omega, by unfold inI64 ofN; omega, by unfold ofN; omega⟩

theorem bits_Len64_vc (x : BitVec 64) :
 (decide (4294967296#64 ≤ x) = true →
  (decide (65536#64 ≤ x >>> BitVec.toNat 32#64) = true →
  inI64 48 ∧
  (decide (256#64 ≤ x >>> BitVec.toNat 32#64 >>> BitVec.toNat 16#64) = true →
  inI64 56 ∧
  within (ofN (BitVec.toNat (BitVec.setWidth 8 (x >>> BitVec.toNat 32#64 >>> BitVec.toNat 16#64 >>> BitVec.toNat 8#64))))
  (List.length
  len8) ∧
  inI64
  (56 +
  ofN
  (BitVec.toNat
  (List.getD
  len8
  (Int.toNat (ofN (BitVec.toNat (BitVec.setWidth 8 (x >>> BitVec.toNat (BitVec.ofInt 64 32) >>> BitVec.toNat (BitVec.ofInt 64 16) >>> BitVec.toNat (BitVec.ofInt 64 8))))))
  0#8))) ∧
  56 +
  ofN
  (BitVec.toNat
  (List.getD
  len8
  (Int.toNat (ofN (BitVec.toNat (BitVec.setWidth 8 (x >>> BitVec.toNat (BitVec.ofInt 64 32) >>> BitVec.toNat (BitVec.ofInt 64 16) >>> BitVec.toNat (BitVec.ofInt 64 8))))))
  0#8)) =
  ofN (bitlen (BitVec.toNat x))) ∧
  (decide (256#64 ≤ x >>> BitVec.toNat 32#64 >>> BitVec.toNat 16#64) = false →
  within (ofN (BitVec.toNat (BitVec.setWidth 8 (x >>> BitVec.toNat 32#64 >>> BitVec.toNat 16#64))))
  (List.length
  len8) ∧
  inI64
  (48 +
  ofN
  (BitVec.toNat
  (List.getD
  len8
  (Int.toNat (ofN (BitVec.toNat (BitVec.setWidth 8 (x >>> BitVec.toNat (BitVec.ofInt 64 32) >>> BitVec.toNat (BitVec.ofInt 64 16)))))) 0#8))) ∧
  48 +
  ofN
  (BitVec.toNat
  (List.getD
  len8
  (Int.toNat (ofN (BitVec.toNat (BitVec.setWidth 8 (x >>> BitVec.toNat (BitVec.ofInt 64 32) >>> BitVec.toNat (BitVec.ofInt 64 16)))))) 0#8)) =
  ofN (bitlen (BitVec.toNat x)))) ∧
  (decide (65536#64 ≤ x >>> BitVec.toNat 32#64) = false →
  (decide (256#64 ≤ x >>> BitVec.toNat 32#64) = true →
  inI64 40 ∧
  within (ofN (BitVec.toNat (BitVec.setWidth 8 (x >>> BitVec.toNat 32#64 >>> BitVec.toNat 8#64))))
  (List.length
  len8) ∧
  inI64
  (40 +
  ofN
  (BitVec.toNat
  (List.getD
  len8
  (Int.toNat (ofN (BitVec.toNat (BitVec.setWidth 8 (x >>> BitVec.toNat (BitVec.ofInt 64 32) >>> BitVec.toNat (BitVec.ofInt 64 8)))))) 0#8))) ∧
  40 +
  ofN
  (BitVec.toNat
  (List.getD
  len8
  (Int.toNat (ofN (BitVec.toNat (BitVec.setWidth 8 (x >>> BitVec.toNat (BitVec.ofInt 64 32) >>> BitVec.toNat (BitVec.ofInt 64 8)))))) 0#8)) =
  ofN (bitlen (BitVec.toNat x))) ∧
  (decide (256#64 ≤ x >>> BitVec.toNat 32#64) = false →
  within (ofN (BitVec.toNat (BitVec.setWidth 8 (x >>> BitVec.toNat 32#64))))
  (List.length
  len8) ∧
  inI64
  (32 +
  ofN
  (BitVec.toNat
  (List.getD
  len8
  (Int.toNat (ofN (BitVec.toNat (BitVec.setWidth 8 (x >>> BitVec.toNat (BitVec.ofInt 64 32)))))) 0#8))) ∧
  32 +
  ofN
  (BitVec.toNat
  (List.getD
  len8
  (Int.toNat (ofN (BitVec.toNat (BitVec.setWidth 8 (x >>> BitVec.toNat (BitVec.ofInt 64 32)))))) 0#8)) =
  ofN (bitlen (BitVec.toNat x))))) ∧
  (decide (4294967296#64 ≤ x) = false →
  (decide (65536#64 ≤ x) = true →
  inI64 16 ∧
  (decide (256#64 ≤ x >>> BitVec.toNat 16#64) = true →
  inI64 24 ∧
  within (ofN (BitVec.toNat (BitVec.setWidth 8 (x >>> BitVec.toNat 16#64 >>> BitVec.toNat 8#64))))
  (List.length
  len8) ∧
  inI64
  (24 +
  ofN
  (BitVec.toNat
  (List.getD
  len8
  (Int.toNat (ofN (BitVec.toNat (BitVec.setWidth 8 (x >>> BitVec.toNat (BitVec.ofInt 64 16) >>> BitVec.toNat (BitVec.ofInt 64 8)))))) 0#8))) ∧
  24 +
  ofN
  (BitVec.toNat
  (List.getD
  len8
  (Int.toNat (ofN (BitVec.toNat (BitVec.setWidth 8 (x >>> BitVec.toNat (BitVec.ofInt 64 16) >>> BitVec.toNat (BitVec.ofInt 64 8)))))) 0#8)) =
  ofN (bitlen (BitVec.toNat x))) ∧
  (decide (256#64 ≤ x >>> BitVec.toNat 16#64) = false →
  within (ofN (BitVec.toNat (BitVec.setWidth 8 (x >>> BitVec.toNat 16#64))))
  (List.length
  len8) ∧
  inI64
  (16 +
  ofN
  (BitVec.toNat
  (List.getD
  len8
  (Int.toNat (ofN (BitVec.toNat (BitVec.setWidth 8 (x >>> BitVec.toNat (BitVec.ofInt 64 16)))))) 0#8))) ∧
  16 +
  ofN
  (BitVec.toNat
  (List.getD
  len8
  (Int.toNat (ofN (BitVec.toNat (BitVec.setWidth 8 (x >>> BitVec.toNat (BitVec.ofInt 64 16)))))) 0#8)) =
  ofN (bitlen (BitVec.toNat x)))) ∧
  (decide (65536#64 ≤ x) = false →
  (decide (256#64 ≤ x) = true →
  inI64 8 ∧
  within (ofN (BitVec.toNat (BitVec.setWidth 8 (x >>> BitVec.toNat 8#64))))
  (List.length
  len8) ∧
  inI64
  (8 +
  ofN
  (BitVec.toNat
  (List.getD
  len8
  (Int.toNat (ofN (BitVec.toNat (BitVec.setWidth 8 (x >>> BitVec.toNat (BitVec.ofInt 64 8)))))) 0#8))) ∧
  8 +
  ofN
  (BitVec.toNat
  (List.getD
  len8
  (Int.toNat (ofN (BitVec.toNat (BitVec.setWidth 8 (x >>> BitVec.toNat (BitVec.ofInt 64 8)))))) 0#8)) =
  ofN (bitlen (BitVec.toNat x))) ∧
  (decide (256#64 ≤ x) = false →
  within (ofN (BitVec.toNat (BitVec.setWidth 8 x)))
  (List.length
  len8) ∧
  inI64
  (0 +
  ofN
  (BitVec.toNat
  (List.getD
  len8
  (Int.toNat (ofN (BitVec.toNat (BitVec.setWidth 8 x)))) 0#8))) ∧
  0 +
  ofN
  (BitVec.toNat
  (List.getD
  len8
  (Int.toNat (ofN (BitVec.toNat (BitVec.setWidth 8 x)))) 0#8)) =
  ofN (bitlen (BitVec.toNat x))))) := by
 have s32 := sh_toNat x 32#64
 have s3216 := sh_toNat (x >>> BitVec.toNat 32#64) 16#64
 have s32168 := sh_toNat (x >>> BitVec.toNat 32#64 >>> BitVec.toNat 16#64) 8#64
 have s328 := sh_toNat (x >>> BitVec.toNat 32#64) 8#64
 have s16 := sh_toNat x 16#64
 have s168 := sh_toNat (x >>> BitVec.toNat 16#64) 8#64
 have s8 := sh_toNat x 8#64
 have hx := x.isLt
 have c32 : 2 ^ (32#64).toNat = 4294967296 := by decide
 have c16 : 2 ^ (16#64).toNat = 65536 := by decide
 have c8 : 2 ^ (8#64).toNat = 256 := by decide
 have cx : 2 ^ 64 = 18446744073709551616 := by decide
 rw [c32] at s32
 rw [c16] at s3216 s16
 rw [c8] at s32168 s328 s168 s8
 rw [cx] at hx
 have up : ∀ {k y : BitVec 64}, decide (k ≤ y) = true → k.toNat ≤ y.toNat := fun h => BitVec.le_def.1 (of_decide_eq_true h)
 have dn : ∀ {k y : BitVec 64}, decide (k ≤ y) = false → y.toNat < k.toNat := fun h => Nat.lt_of_not_le fun h2 => of_decide_eq_false h (BitVec.le_def.2 h2)
 have d1 : (4294967296#64).toNat = 4294967296 := by decide
 have d2 : (65536#64).toNat = 65536 := by decide
 have d3 : (256#64).toNat = 256 := by decide
 refine ⟨fun a => ⟨fun b => ⟨by unfold inI64; omega, fun c => ⟨by unfold inI64; omega, ?_⟩, fun c => ?_⟩, fun b => ⟨fun c => ⟨by unfold inI64; omega, ?_⟩, fun c => ?_⟩⟩,
  fun a => ⟨fun b => ⟨by unfold inI64; omega, fun c => ⟨by unfold inI64; omega, ?_⟩, fun c => ?_⟩, fun b => ⟨fun c => ⟨by unfold inI64; omega, ?_⟩, fun c => ?_⟩⟩⟩
 · have a := up a; have b := up b; have c := up c
   exact len8_leaf x _ 56 72057594037927936 rfl (by omega) (by omega) (by omega) (by omega)
 · have a := up a; have b := up b; have c := dn c
   exact len8_leaf x _ 48 281474976710656 rfl (by omega) (by omega) (by omega) (by omega)
 · have a := up a; have b := dn b; have c := up c
   exact len8_leaf x _ 40 1099511627776 rfl (by omega) (by omega) (by omega) (by omega)
 · have a := up a; have b := dn b; have c := dn c
   exact len8_leaf x _ 32 4294967296 rfl (by omega) (by omega) (by omega) (by omega)
 · have a := dn a; have b := up b; have c := up c
   exact len8_leaf x _ 24 16777216 rfl (by omega) (by omega) (by omega) (by omega)
 · have a := dn a; have b := up b; have c := dn c
   exact len8_leaf x _ 16 65536 rfl (by omega) (by omega) (by omega) (by omega)
 · have a := dn a; have b := dn b; have c := up c
   exact len8_leaf x _ 8 256 rfl (by omega) (by omega) (by omega) (by omega)
 · have a := dn a; have b := dn b; have c := dn c
   exact len8_leaf x _ 0 1 rfl (by omega) (by omega) (by omega) (by omega)

theorem bits_Len_vc (x : BitVec 64) :
 (false = true → False) ∧ (false = false → ofN (bitlen (BitVec.toNat x)) = ofN (bitlen (BitVec.toNat x))) := by
 exact ⟨fun h => absurd h Bool.false_ne_true, fun _ => rfl⟩

def c_first : PC := D [.i64] [.i64] (fun x => some (leP 2 x.1 ∧ leP x.1 1048576)) (fun x => (((partN x.1.toNat : Nat) : Int), ()))

theorem merkle_first_vc (n : Int) (h1 : (2 : Int) ≤ n) (h2 : n ≤ 1048576) :
 inI64 (n - 1) ∧
  inI64 (ofN (bitlen (BitVec.toNat (BitVec.ofInt 64 (n - 1)))) - 1) ∧
  (BitVec.toNat (BitVec.ofInt 64 (ofN (bitlen (BitVec.toNat (BitVec.ofInt 64 (n - 1)))) - 1)) ≤ 62 ∧
  inI64 (1 * 2 ^ BitVec.toNat (BitVec.ofInt 64 (ofN (bitlen (BitVec.toNat (BitVec.ofInt 64 (n - 1)))) - 1)))) ∧
  1 * 2 ^ BitVec.toNat (BitVec.ofInt 64 (ofN (bitlen (BitVec.toNat (BitVec.ofInt 64 (n - 1)))) - 1)) = ofN (partN (Int.toNat n)) := by
 have e1 := toNat64 (n := n - 1) (by omega) (by omega)
 have hb : bitlen (n - 1).toNat = (n - 1).toNat.log2 + 1 := if_neg (by omega)
 rw [e1, hb]
 have e2 : ofN ((n - 1).toNat.log2 + 1) - 1 = (((n - 1).toNat.log2 : Nat) : Int) := by unfold ofN; omega
 rw [e2]
 have hle := Nat.log2_self_le (n := (n - 1).toNat) (by omega)
 have hlog : (n - 1).toNat.log2 < 20 := (Nat.log2_lt (by omega)).2 (by omega)
 have e4 : n.toNat - 1 = (n - 1).toNat := by omega
 have ep : partN n.toNat = 2 ^ (n - 1).toNat.log2 := by unfold partN; rw [e4]
 rw [ep]
 generalize (n - 1).toNat.log2 = k at *
 have e3 := toNat64 (n := ((k : Nat) : Int)) (by omega) (by omega)
 have e5 : (1 : Int) * 2 ^ k = ((2 ^ k : Nat) : Int) := by simp
 rw [e3, Int.toNat_natCast, e5]
 exact ⟨by unfold inI64; omega, by unfold inI64; omega, ⟨by omega, by unfold inI64; omega⟩, rfl⟩

def an_part (n : Int) : Nat → SState → Option LoopAnn
 | 2, _ => some { X := Nat, slots := fun k => [(3, .sv (.dv (.i64 ((2 ^ k : Nat) : Int))))], objs := fun _ => [], inv := fun k => ((2 ^ k : Nat) : Int) < n, meas := fun k => n.toNat - 2 ^ k }
 | _, _ => none

theorem ref27_part_vc (n : Int) (h1 : (2 : Int) ≤ n) (h2 : n ≤ 1048576) :
 (∃ (x : Nat), ofN (2 ^ x) < n ∧ 1 = ofN (2 ^ x)) ∧
  ∀ (x : Nat),
  ofN (2 ^ x) < n →
  inI64 (ofN (2 ^ x) * 2) ∧
  (decide (ofN (2 ^ x) * 2 < n) = true → inI64 (ofN (2 ^ x) * 2) ∧ ∃ (x' : Nat), ofN (2 ^ x') < n ∧ Int.toNat n - 2 ^ x' < Int.toNat n - 2 ^ x ∧ ofN (2 ^ x) * 2 = ofN (2 ^ x')) ∧
  (decide (ofN (2 ^ x) * 2 < n) = false → ofN (2 ^ x) = ofN (partN (Int.toNat n))) := by
 have h2' : n.toNat ≤ 1048576 := by omega
 refine ⟨⟨0, by unfold ofN; simp; omega, rfl⟩, fun k hk => ?_⟩
 have hk' : 2 ^ k < n.toNat := by unfold ofN at hk; omega
 have hs : 2 ^ (k + 1) = 2 ^ k * 2 := Nat.pow_succ ..
 have es : ofN (2 ^ k) * 2 = ofN (2 ^ (k + 1)) := by unfold ofN; rw [hs]; omega
 refine ⟨by unfold inI64 ofN; omega, fun hc => ⟨by unfold inI64 ofN; omega, k + 1, ?_, by rw [hs]; have : 1 ≤ 2 ^ k := Nat.one_le_two_pow; omega, es⟩, fun hc => ?_⟩
 · rw [← es]; exact of_decide_eq_true hc
 · have hc := of_decide_eq_false hc
   rw [es] at hc
   have : 2 ^ k ≤ n.toNat - 1 ∧ n.toNat - 1 < 2 ^ (k + 1) := by unfold ofN at hc; omega
   have e := (Nat.log2_eq_iff (n := n.toNat - 1) (k := k) (by omega)).2 this
   unfold partN
   rw [e]

def c_parts : PC := D [.slc T_Dig] [.slc T_Dig, .slc T_Dig] (fun x => some (2 ≤ x.1.length ∧ x.1.length ≤ 1048576)) (fun x => (x.1.take (partN x.1.length), x.1.drop (partN x.1.length), ()))

theorem merkle_parts_vc (l : List Dig) (h1 : 2 ≤ l.length) (h2 : l.length ≤ 1048576) :
 (2 ≤ ofN (List.length l) ∧ ofN (List.length l) ≤ 1048576) ∧
  ((0 ≤ ofN (partN (Int.toNat (ofN (List.length l)))) ∧ ofN (partN (Int.toNat (ofN (List.length l)))) ≤ ofN (List.length l)) ∧
  ofN (partN (Int.toNat (ofN (List.length l)))) = ofN (Int.toNat (ofN (partN (Int.toNat ↑(List.length l)))))) ∧
  (0 ≤ ofN (partN (Int.toNat (ofN (List.length l)))) ∧ ofN (partN (Int.toNat (ofN (List.length l)))) ≤ ofN (List.length l)) ∧
  List.drop 0 (List.take (Int.toNat (ofN (partN (Int.toNat (ofN (List.length l)))))) l) = List.take (partN (List.length l)) l ∧
  List.drop (Int.toNat (ofN (partN (Int.toNat (ofN (List.length l)))))) (List.take (List.length l) l) = List.drop (partN (List.length l)) l := by
 have h3 := partN_lt h1
 have e : (ofN (partN (Int.toNat (ofN l.length)))) = ((partN l.length : Nat) : Int) := rfl
 have e2 : (Int.toNat (ofN (partN (Int.toNat (ofN l.length))))) = partN l.length := rfl
 rw [e2]
 refine ⟨by unfold ofN; omega, ⟨⟨by rw [e]; omega, by rw [e]; unfold ofN; omega⟩, rfl⟩, ⟨by rw [e]; omega, by rw [e]; unfold ofN; omega⟩, rfl, ?_⟩
 rw [List.take_of_length_le (Nat.le_refl _)]

def c_root (n : Nat) : PC := D [.slc T_Dig] [T_Dig] (fun x => some (x.1.length < n ∧ x.1.length ≤ 1048576)) (fun x => (rootV x.1, ()))

theorem merkle_root_vc (n : Nat) (l : List Dig) (h : l.length < n + 1) (hm : l.length ≤ 1048576) :
 ((ofN (List.length l) == 0) = true → List.length (List.flatten (nilOf (T.den (T.slc T.u8)))) ≤ 1073741824 ∧ sha (List.flatten (nilOf (T.den (T.slc T.u8)))) = rootV l) ∧
  ((ofN (List.length l) == 0) = false →
  ((ofN (List.length l) == 1) = true → within 0 (List.length l) ∧ List.getD l (Int.toNat 0) (T.dflt (T.arr 32 T.u8)) = rootV l) ∧
  ((ofN (List.length l) == 1) = false →
  (2 ≤ List.length l ∧ List.length l ≤ 1048576) ∧
  (List.length (List.take (partN (List.length l)) l) < n ∧ List.length (List.take (partN (List.length l)) l) ≤ 1048576) ∧
  (List.length (List.drop (partN (List.length l)) l) < n ∧ List.length (List.drop (partN (List.length l)) l) ≤ 1048576) ∧
  nodeV (rootV (List.take (partN (List.length l)) l)) (rootV (List.drop (partN (List.length l)) l)) = rootV l)) := by
 refine ⟨fun h0 => ?_, fun h0 => ⟨fun g1 => ?_, fun g1 => ?_⟩⟩
 · have h0 : l.length = 0 := by simpa [ofN] using h0
   exact ⟨by decide, (rootV_zero h0).symm⟩
 · have g1 : l.length = 1 := by simp only [ofN, beq_iff_eq] at g1; omega
   exact ⟨by unfold within; omega, (rootV_one g1).symm⟩
 · have h2 : 2 ≤ l.length := by
     simp only [ofN, beq_eq_false_iff_ne, ne_eq] at h0 g1
     omega
   have h3 := partN_lt h2
   have h4 := partN_pos l.length
   exact ⟨⟨h2, hm⟩, ⟨by rw [List.length_take]; omega, by rw [List.length_take]; omega⟩, ⟨by rw [List.length_drop]; omega, by rw [List.length_drop]; omega⟩, (rootV_step h2).symm⟩

theorem ref27_root_vc (n : Nat) (l : List Dig) (h : l.length < n + 1) (hm : l.length ≤ 1048576) :
 ((ofN (List.length l) == 0) = true → List.length (List.flatten (nilOf (T.den (T.slc T.u8)))) ≤ 1073741824 ∧ sha (List.flatten (nilOf (T.den (T.slc T.u8)))) = rootV l) ∧
  ((ofN (List.length l) == 0) = false →
  ((ofN (List.length l) == 1) = true → within 0 (List.length l) ∧ List.getD l (Int.toNat 0) (T.dflt (T.arr 32 T.u8)) = rootV l) ∧
  ((ofN (List.length l) == 1) = false →
  (2 ≤ ofN (List.length l) ∧ ofN (List.length l) ≤ 1048576) ∧
  (0 ≤ ofN (partN (Int.toNat (ofN (List.length l)))) ∧ ofN (partN (Int.toNat (ofN (List.length l)))) ≤ ofN (List.length l)) ∧
  (List.length (List.drop 0 (List.take (Int.toNat (ofN (partN (Int.toNat (ofN (List.length l)))))) l)) < n ∧
  List.length (List.drop 0 (List.take (Int.toNat (ofN (partN (Int.toNat (ofN (List.length l)))))) l)) ≤ 1048576) ∧
  (0 ≤ ofN (partN (Int.toNat (ofN (List.length l)))) ∧ ofN (partN (Int.toNat (ofN (List.length l)))) ≤ ofN (List.length l)) ∧
  (List.length (List.drop (Int.toNat (ofN (partN (Int.toNat (ofN (List.length l)))))) (List.take (List.length l) l)) < n ∧
  List.length (List.drop (Int.toNat (ofN (partN (Int.toNat (ofN (List.length l)))))) (List.take (List.length l) l)) ≤ 1048576) ∧
  nodeV (rootV (List.drop 0 (List.take (Int.toNat (ofN (partN (Int.toNat (ofN (List.length l)))))) l)))
  (rootV (List.drop (Int.toNat (ofN (partN (Int.toNat (ofN (List.length l)))))) (List.take (List.length l) l))) =
  rootV l)) := by
 have e2 : (Int.toNat (ofN (partN (Int.toNat (ofN l.length))))) = partN l.length := rfl
 have e : (ofN (partN (Int.toNat (ofN l.length)))) = ((partN l.length : Nat) : Int) := rfl
 rw [e2, List.drop_zero, List.take_of_length_le (Nat.le_refl l.length)]
 refine ⟨fun h0 => ?_, fun h0 => ⟨fun g1 => ?_, fun g1 => ?_⟩⟩
 · have h0 : l.length = 0 := by simpa [ofN] using h0
   exact ⟨by decide, (rootV_zero h0).symm⟩
 · have g1 : l.length = 1 := by simp only [ofN, beq_iff_eq] at g1; omega
   exact ⟨by unfold within; omega, (rootV_one g1).symm⟩
 · have h2 : 2 ≤ l.length := by
     simp only [ofN, beq_eq_false_iff_ne, ne_eq] at h0 g1
     omega
   have h3 := partN_lt h2
   have h4 := partN_pos l.length
   exact ⟨by unfold ofN; omega, by rw [e]; unfold ofN; omega, ⟨by rw [List.length_take]; omega, by rw [List.length_take]; omega⟩, by rw [e]; unfold ofN; omega, ⟨by rw [List.length_drop]; omega, by rw [List.length_drop]; omega⟩, (rootV_step h2).symm⟩

theorem merkle_Node_spec : Vse.Spec P f_merkle_Node c_Node :=
 spec_fn (l := [(f_sha_Sum, c_shaSum)]) ⟨sha_Sum_spec, trivial⟩ h_merkle_Node rfl rfl fun x _ ok => body_ok an_none (merkle_Node_vc x.1 x.2.1 ok.1.1 ok.2.1.1) (by kernel_rfl)

theorem ref27_Node_spec : Vse.Spec P f_ref27_Node c_Node :=
 spec_fn (l := [(f_ref03_Sum, c_shaSum)]) ⟨ref03_Sum_spec, trivial⟩ h_ref27_Node rfl rfl fun x _ ok => body_ok an_none (ref27_Node_vc x.1 x.2.1 ok.1.1 ok.2.1.1) (by kernel_rfl)

theorem bits_Len64_spec : Vse.Spec P f_math_bits_Len64 c_bLen :=
 spec_fn (l := []) trivial h_math_bits_Len64 rfl rfl fun x _ _ => body_ok an_none (bits_Len64_vc x.1) (by kernel_rfl)

theorem bits_Len_spec : Vse.Spec P f_math_bits_Len c_bLen :=
 spec_fn (l := [(f_math_bits_Len64, c_bLen)]) ⟨bits_Len64_spec, trivial⟩ h_math_bits_Len rfl rfl fun x _ _ => body_ok an_none (bits_Len_vc x.1) (by kernel_rfl)

theorem merkle_first_spec : Vse.Spec P f_merkle_first c_first :=
 spec_fn (l := [(f_math_bits_Len, c_bLen)]) ⟨bits_Len_spec, trivial⟩ h_merkle_first rfl rfl fun x h _ => body_ok an_none (merkle_first_vc x.1 (got h).1 (got h).2) (by kernel_rfl)

theorem ref27_part_spec : Vse.Spec P f_ref27_part c_first :=
 spec_fn (l := []) trivial h_ref27_part rfl rfl fun x h _ => body_ok (an_part x.1) (ref27_part_vc x.1 (got h).1 (got h).2) (by kernel_rfl)

theorem merkle_parts_spec : Vse.Spec P f_merkle_parts c_parts :=
 spec_fn (l := [(f_merkle_first, c_first)]) ⟨merkle_first_spec, trivial⟩ h_merkle_parts rfl rfl fun x h _ => body_ok an_none (merkle_parts_vc x.1 (got h).1 (got h).2) (by kernel_rfl)

theorem merkle_root_spec : ∀ n, Vse.Spec P f_merkle_root (c_root n)
 | 0 => spec_fn (l := []) trivial h_merkle_root rfl rfl fun x h _ => absurd (got h).1 (Nat.not_lt_zero _)
 | n + 1 => spec_fn (l := [(f_sha_Sum, c_shaSum), (f_merkle_parts, c_parts), (f_merkle_root, c_root n), (f_merkle_Node, c_Node)]) ⟨sha_Sum_spec, merkle_parts_spec, merkle_root_spec n, merkle_Node_spec, trivial⟩
     h_merkle_root rfl rfl fun x h _ => body_ok an_none (merkle_root_vc n x.1 (got h).1 (got h).2) (by kernel_rfl)

theorem ref27_root_spec : ∀ n, Vse.Spec P f_ref27_root (c_root n)
 | 0 => spec_fn (l := []) trivial h_ref27_root rfl rfl fun x h _ => absurd (got h).1 (Nat.not_lt_zero _)
 | n + 1 => spec_fn (l := [(f_ref03_Sum, c_shaSum), (f_ref27_part, c_first), (f_ref27_root, c_root n), (f_ref27_Node, c_Node)]) ⟨ref03_Sum_spec, ref27_part_spec, ref27_root_spec n, ref27_Node_spec, trivial⟩
     h_ref27_root rfl rfl fun x h _ => body_ok an_none (ref27_root_vc n x.1 (got h).1 (got h).2) (by kernel_rfl)

end Go.Sal
