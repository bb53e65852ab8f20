/- Contracts of package word, and of its reference. -/
import Derived.Test.YtogjeflhlnnbdaaWNm
import Derived.Test.YtogjeflhlnnbdaaWSalWord
set_option maxRecDepth 100000
namespace Go.Sal
open Go.Vse Go.Sal.Nm

def c_Varint : PC := O [.u64] .u8 t_uint8 1 [] (fun _ => none) (fun x => (varintN x.1.toNat, ()))

def an_word_Varint (x : BitVec 64) : Nat → SState → Option LoopAnn
 | 2, _ => some { X := Bytes × BitVec 64, slots := fun y => [(0, .sv (.dv (.u64 y.2))), (3, .sv (.own 10 .u8 y.1))], objs := fun _ => [(10, .tok t_uint8 1)], inv := fun y => y.1 ++ varintN y.2.toNat = varintN x.toNat, meas := fun y => y.2.toNat }
 | _, _ => none

theorem bigByte (y : BitVec 64) : BitVec.setWidth 8 y ||| 128#8 = BitVec.ofNat 8 (y.toNat % 128 + 128) := by
 rw [or128]; congr 1; simp
theorem shr7 (y : BitVec 64) : (y >>> 7).toNat = y.toNat / 128 := by simp [Nat.shiftRight_eq_div_pow]
theorem varintRoom {o r : Bytes} {x : BitVec 64} (h : o ++ r = varintN x.toNat) : o.length + r.length ≤ 10 ∧ ROOM = 4294967296 := by
 have := varintN_length 9 x.toNat (Nat.lt_of_lt_of_le x.isLt (by decide))
 rw [← h] at this
 simp at this
 exact ⟨this, rfl⟩

theorem word_Varint_vc (x : BitVec 64) :
 (∃ (x_1 : List (BitVec 8) × BitVec 64), x_1.1 ++ varintN (BitVec.toNat x_1.2) = varintN (BitVec.toNat x) ∧ x = x_1.2 ∧ x_1.1 = nilOf (T.den T.u8)) ∧
  ∀ (x_1 : List (BitVec 8) × BitVec 64),
  x_1.1 ++ varintN (BitVec.toNat x_1.2) = varintN (BitVec.toNat x) →
  (decide (128#64 ≤ x_1.2) = true →
  List.length x_1.1 + List.length [BitVec.setWidth 8 x_1.2 ||| 128#8] ≤ ROOM ∧
  ∃ (x' : List (BitVec 8) × BitVec 64),
  x'.1 ++ varintN (BitVec.toNat x'.2) = varintN (BitVec.toNat x) ∧
  BitVec.toNat x'.2 < BitVec.toNat x_1.2 ∧ x_1.2 >>> BitVec.toNat 7#64 = x'.2 ∧ x_1.1 ++ [BitVec.setWidth 8 x_1.2 ||| 128#8] = x'.1) ∧
  (decide (128#64 ≤ x_1.2) = false → List.length x_1.1 + List.length [BitVec.setWidth 8 x_1.2] ≤ ROOM ∧ x_1.1 ++ [BitVec.setWidth 8 x_1.2] = varintN (BitVec.toNat x)) := by
 refine ⟨⟨([], x), by simp, rfl, rfl⟩, fun ⟨o, y⟩ h => ⟨fun hc => ?_, fun hc => ?_⟩⟩
 all_goals simp only at h hc ⊢
 · have hy : ¬ y.toNat < 128 := by have := of_decide_eq_true hc; simp [BitVec.le_def] at this; omega
   have e := bigByte y
   rw [varintN_big hy] at h
   have hl := varintRoom h
   refine ⟨by simp; omega, ⟨(o ++ [BitVec.setWidth 8 y ||| 128#8], y >>> 7), ?_, ?_, rfl, rfl⟩⟩
   · rw [e, shr7]; simpa using h
   · rw [shr7]; omega
 · have hy : y.toNat < 128 := by have := of_decide_eq_false hc; simp [BitVec.le_def] at this; omega
   rw [varintN_small hy] at h
   have hl := varintRoom h
   refine ⟨by simp; omega, ?_⟩
   rw [← h]; congr 2

theorem word_Varint_spec : Vse.Spec P f_word_Varint c_Varint :=
 spec_fn (l := []) trivial h_word_Varint rfl rfl fun x _ _ => body_ok (an_word_Varint x.1) (word_Varint_vc x.1) (by kernel_rfl)

def c_Read : PC := D [.slc .u8] [.u64, .i64, .i64] (fun _ => none) (fun x => (BitVec.ofNat 64 (readN x.1 0 0).1, ((readN x.1 0 0).2.1 : Int), ((readN x.1 0 0).2.2 : Int), ()))

def an_word_Read (b : Bytes) : Nat → SState → Option LoopAnn
 | 3, _ => some { X := Nat × Nat, slots := fun y => [(5, .sv (.dv (.u64 (BitVec.ofNat 64 y.2)))), (11, .sv (.dv (.i64 y.1)))], objs := fun _ => [], inv := fun y => y.1 ≤ b.length ∧ y.1 ≤ 9 ∧ y.2 < 128 ^ y.1 ∧ readN (b.drop y.1) y.1 y.2 = readN b 0 0, meas := fun y => b.length - y.1 }
 | _, _ => none

theorem word_Read_vc (b : Bytes) :
 (∃ (x : Nat × Nat), (x.1 ≤ List.length b ∧ x.1 ≤ 9 ∧ x.2 < 128 ^ x.1 ∧ readN (List.drop x.1 b) x.1 x.2 = readN b 0 0) ∧ 0#64 = BitVec.ofNat 64 x.2 ∧ 0 = ofN x.1) ∧
  ∀ (x : Nat × Nat),
  x.1 ≤ List.length b ∧ x.1 ≤ 9 ∧ x.2 < 128 ^ x.1 ∧ readN (List.drop x.1 b) x.1 x.2 = readN b 0 0 →
  (decide (ofN x.1 < ofN (List.length b)) = true →
  within (ofN x.1) (List.length b) ∧
  ((ofN x.1 == 9 && List.getD b (Int.toNat (ofN x.1)) 0#8 != 1#8) = true → 0#64 = BitVec.ofNat 64 (readN b 0 0).1 ∧ ofN x.1 = ofN (readN b 0 0).2.1 ∧ 12 = ofN (readN b 0 0).2.2) ∧
  ((ofN x.1 == 9 && List.getD b (Int.toNat (ofN x.1)) 0#8 != 1#8) = false →
  ((decide (List.getD b (Int.toNat (ofN x.1)) 0#8 < 128#8) && List.getD b (Int.toNat (ofN x.1)) 0#8 == 0#8 && decide (0 < ofN x.1)) = true →
  0#64 = BitVec.ofNat 64 (readN b 0 0).1 ∧ ofN x.1 = ofN (readN b 0 0).2.1 ∧ 12 = ofN (readN b 0 0).2.2) ∧
  ((decide (List.getD b (Int.toNat (ofN x.1)) 0#8 < 128#8) && List.getD b (Int.toNat (ofN x.1)) 0#8 == 0#8 && decide (0 < ofN x.1)) = false →
  inI64 (7 * ofN x.1) ∧
  (decide (List.getD b (Int.toNat (ofN x.1)) 0#8 < 128#8) = true →
  inI64 (ofN x.1 + 1) ∧
  BitVec.ofNat 64 x.2 ||| BitVec.setWidth 64 (List.getD b (Int.toNat (ofN x.1)) 0#8 &&& 127#8) <<< BitVec.toNat (BitVec.ofInt 64 (7 * ofN x.1)) =
  BitVec.ofNat 64 (readN b 0 0).1 ∧
  ofN x.1 + 1 = ofN (readN b 0 0).2.1 ∧ 0 = ofN (readN b 0 0).2.2) ∧
  (decide (List.getD b (Int.toNat (ofN x.1)) 0#8 < 128#8) = false →
  inI64 (ofN x.1 + 1) ∧
  ∃ (x' : Nat × Nat),
  (x'.1 ≤ List.length b ∧ x'.1 ≤ 9 ∧ x'.2 < 128 ^ x'.1 ∧ readN (List.drop x'.1 b) x'.1 x'.2 = readN b 0 0) ∧
  List.length b - x'.1 < List.length b - x.1 ∧
  BitVec.ofNat 64 x.2 ||| BitVec.setWidth 64 (List.getD b (Int.toNat (ofN x.1)) 0#8 &&& 127#8) <<< BitVec.toNat (BitVec.ofInt 64 (7 * ofN x.1)) = BitVec.ofNat 64 x'.2 ∧
  ofN x.1 + 1 = ofN x'.1)))) ∧
  (decide (ofN x.1 < ofN (List.length b)) = false → 0#64 = BitVec.ofNat 64 (readN b 0 0).1 ∧ ofN (List.length b) = ofN (readN b 0 0).2.1 ∧ 11 = ofN (readN b 0 0).2.2) := by
 refine ⟨⟨(0, 0), ⟨by simp, by simp, by simp, by simp⟩, rfl, rfl⟩, fun ⟨i, acc⟩ ⟨h1, h2, h3, h4⟩ => ⟨fun hc => ?_, fun hc => ?_⟩⟩
 · simp only [ofN, decide_eq_true_eq, Int.ofNat_lt] at hc h1 h2 h3 h4 ⊢
   rw [readN_step hc] at h4
   simp only [Int.toNat_natCast, within, inI64, Bool.and_eq_true, beq_iff_eq, bne_iff_ne, ne_eq, decide_eq_true_eq, Bool.and_eq_false_iff, decide_eq_false_iff_not, beq_eq_false_iff_ne, bne_eq_false_iff_eq, BitVec.lt_def, Int.ofNat_inj]
   generalize b.getD i 0#8 = c at *
   generalize readN b 0 0 = R at *
   have e0 : (BitVec.ofInt 64 (7 * (i : Int))).toNat = 7 * i := shiftAmt h2
   refine ⟨by omega, fun ⟨g1, g2⟩ => ?_, fun g => ⟨fun ⟨⟨g1, g2⟩, g3⟩ => ?_, fun g' => ⟨by omega, fun hl => ⟨by omega, ?_⟩, fun hl => ⟨by omega, ?_⟩⟩⟩⟩
   · rw [if_pos (.inl ⟨by omega, g2⟩)] at h4
     rw [← h4]; simp
   · rw [if_pos (.inr ⟨by omega, g2⟩)] at h4
     rw [← h4]; simp
   · have hl' : c.toNat < 128 := hl
     have hbad : ¬ ((i = 9 ∧ c ≠ 1#8) ∨ (0 < i ∧ c = 0#8)) := by
      rintro (⟨u, v⟩ | ⟨u, v⟩)
      · rcases g with g | g
        · omega
        · exact v g
      · rcases g' with (g' | g') | g'
        · exact g' hl
        · exact g' v
        · omega
     rw [if_neg hbad, if_pos hl'] at h4
     rw [← h4, e0, low7 c, orShift acc i _ h2 h3 (fits7 h2 hl' hbad), Nat.mod_eq_of_lt hl']
     simp
   · have hl' : ¬ c.toNat < 128 := hl
     have hbad : ¬ ((i = 9 ∧ c ≠ 1#8) ∨ (0 < i ∧ c = 0#8)) := by
      rintro (⟨u, v⟩ | ⟨u, v⟩)
      · rcases g with g | g
        · omega
        · exact v g
      · subst v; exact hl' (by decide)
     have h9 : i ≤ 8 := by
      rcases Nat.lt_or_ge i 9 with h | h
      · omega
      · have : i = 9 := by omega
        exact absurd (.inl ⟨this, fun e => by subst e; exact hl' (by decide)⟩) hbad
     rw [if_neg hbad, if_neg hl'] at h4
     have hc8 : c.toNat < 256 := c.isLt
     have em : c.toNat % 128 = c.toNat - 128 := by omega
     refine ⟨(i + 1, acc + (c.toNat - 128) * 128 ^ i), ⟨hc, by omega, ?_, h4⟩, by omega, ?_, by omega⟩
     · exact grow7 h3 (by omega)
     · simp only
       rw [e0, low7 c, orShift acc i _ h2 h3 (fits8 h9 (by omega)), em]
 · simp only [ofN, decide_eq_false_iff_not, Int.ofNat_lt] at hc h1 h2 h3 h4 ⊢
   rw [readN_end (by omega)] at h4
   rw [← h4]; simp; omega

theorem word_Read_spec : Vse.Spec P f_word_Read c_Read :=
 spec_fn (l := []) trivial h_word_Read rfl rfl fun x _ _ => body_ok (an_word_Read x.1) (word_Read_vc x.1) (by kernel_rfl)

end Go.Sal
