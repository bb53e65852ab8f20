/- Contracts of package word, and of its reference. -/
import Derived.Test.YtglkhgodeghnlaaQNm
import Derived.Test.YtglkhgodeghnlaaQSalWord
set_option maxRecDepth 100000
namespace Go.Sal
open Go.Vse Go.Sal.Nm

def c_Varint : PC := O [.u64] .u8 t_uint8 1 [] (fun _ => none) (fun x => (varintN x.1.toNat, ()))

def an_word_Varint (x : BitVec 64) : Nat → SState → Option LoopAnn
 | 2, _ => some { X := Bytes × BitVec 64, slots := fun y => [(0, .sv (.dv (.u64 y.2))), (3, .sv (.own 10 .u8 y.1))], objs := fun _ => [(10, .tok t_uint8 1)], inv := fun y => y.1 ++ varintN y.2.toNat = varintN x.toNat, meas := fun y => y.2.toNat }
 | _, _ => none

theorem bigByte (y : BitVec 64) : BitVec.setWidth 8 y ||| 128#8 = BitVec.ofNat 8 (y.toNat % 128 + 128) := by
 rw [or128]; congr 1; simp
theorem bigByte2 (y : BitVec 64) : BitVec.setWidth 8 (y % 128#64) + 128#8 = BitVec.ofNat 8 (y.toNat % 128 + 128) := by
 apply BitVec.eq_of_toNat_eq; simp
theorem shr7 (y : BitVec 64) : (y >>> 7).toNat = y.toNat / 128 := by simp [Nat.shiftRight_eq_div_pow]
theorem div128 (y : BitVec 64) : (y / 128#64).toNat = y.toNat / 128 := by simp
theorem varintRoom {o r : Bytes} {x : BitVec 64} (h : o ++ r = varintN x.toNat) : o.length + r.length ≤ 10 ∧ ROOM = 4294967296 := by
 have := varintN_length 9 x.toNat (Nat.lt_of_lt_of_le x.isLt (by decide))
 rw [← h] at this
 simp at this
 exact ⟨this, rfl⟩

def c_Read : PC := D [.slc .u8] [.u64, .i64, .i64] (fun _ => none) (fun x => (BitVec.ofNat 64 (readN x.1 0 0).1, ((readN x.1 0 0).2.1 : Int), ((readN x.1 0 0).2.2 : Int), ()))

def an_word_Read (b : Bytes) : Nat → SState → Option LoopAnn
 | 3, _ => some { X := Nat × Nat, slots := fun y => [(5, .sv (.dv (.u64 (BitVec.ofNat 64 y.2)))), (11, .sv (.dv (.i64 y.1)))], objs := fun _ => [], inv := fun y => y.1 ≤ b.length ∧ y.1 ≤ 9 ∧ y.2 < 128 ^ y.1 ∧ readN (b.drop y.1) y.1 y.2 = readN b 0 0, meas := fun y => b.length - y.1 }
 | _, _ => none

def an_ref01_Read (b : Bytes) : Nat → SState → Option LoopAnn
 | 3, _ => some { X := Nat × Nat, slots := fun y => [(5, .sv (.dv (.u64 (BitVec.ofNat 64 y.2)))), (6, .sv (.dv (.u64 (BitVec.ofNat 64 (128 ^ y.1))))), (7, .sv (.dv (.i64 y.1)))], objs := fun _ => [], inv := fun y => y.1 ≤ b.length ∧ y.1 ≤ 9 ∧ y.2 < 128 ^ y.1 ∧ readN (b.drop y.1) y.1 y.2 = readN b 0 0, meas := fun y => b.length - y.1 }
 | _, _ => none

end Go.Sal
