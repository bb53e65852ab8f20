/- Contracts of package sha, and of what it calls. -/
import Derived.Test.YtdddnamfecgkeaaDoorWCWord
import Derived.Test.YtdddnamfecgkeaaDoorWSalWord
set_option maxRecDepth 100000
namespace Go.Sal
open Go.Vse Go.Sal.Nm

def x_labAt (S : SState) (t : Nat) : Nat :=
 match S.get t with
 | .sv (.ref (.cell l _ _)) => l
 | .sv (.ref (.win l _ _ _ _ _ _ _)) => l
 | _ => 0

def an_none : Nat → SState → Option LoopAnn := fun _ _ => none

abbrev T_St : T := .arr 8 .u32
abbrev T_Blk : T := .arr 64 .u8
abbrev T_Hash : T := .pair T_St (.pair (.slc .u8) (.pair .u64 .bool))

def c_width : PC := D [.i64] [.i64] (fun _ => none) (fun x => (widthV x.1, ()))

theorem word_width_vc (n : Int) :
 ((n == 8) = true → 0 = widthV n) ∧
  ((n == 8) = false →
  ((n == 16) = true → 0 = widthV n) ∧ ((n == 16) = false → ((n == 32) = true → 0 = widthV n) ∧ ((n == 32) = false → ((n == 64) = true → 0 = widthV n) ∧ ((n == 64) = false → 10 = widthV n)))) := by
 simp only [widthV, beq_iff_eq, beq_eq_false_iff_ne]
 grind

theorem word_width_spec : Vse.Spec P f_word_width c_width :=
 spec_fn (l := []) trivial h_word_width rfl rfl fun x _ _ => body_ok (an_none) (word_width_vc x.1) (by kernel_rfl)

def c_way : PC := D [.i64, .i64] [.i64] (fun _ => none) (fun x => (wayV x.1 x.2.1, ()))

theorem word_way_vc (n o : Int) :
 ((widthV n != 0) = true → widthV n = wayV n o) ∧ ((widthV n != 0) = false → ((o != 1 && o != 2) = true → 1 = wayV n o) ∧ ((o != 1 && o != 2) = false → 0 = wayV n o)) := by
 simp only [wayV, bne_iff_ne, ne_eq, bne_eq_false_iff_eq, Bool.and_eq_true, Bool.and_eq_false_iff]
 grind

theorem word_way_spec : Vse.Spec P f_word_way c_way :=
 spec_fn (l := [(f_word_width, c_width)]) ⟨word_width_spec, trivial⟩ h_word_way rfl rfl fun x _ _ => body_ok (an_none) (word_way_vc x.1 x.2.1) (by kernel_rfl)

def c_shift : PC := D [.i64, .i64, .i64] [.u64] (fun x => some (eqP x.2.2.1 1 ∧ 0 ≤ x.1 ∧ x.1 < x.2.1 ∧ x.2.1 ≤ 8)) (fun x => (BitVec.ofNat 64 (8 * (x.2.1 - 1 - x.1).toNat), ()))

theorem word_shift_vc (i n : Int) (h : 0 ≤ i ∧ i < n ∧ n ≤ 8) :
 (true = true → inI64 (n - 1) ∧ inI64 (n - 1 - i) ∧ inI64 (8 * (n - 1 - i)) ∧ BitVec.ofInt 64 (8 * (n - 1 - i)) = BitVec.ofNat 64 (8 * Int.toNat (n - 1 - i))) ∧
  (true = false → inI64 (8 * i) ∧ BitVec.ofInt 64 (8 * i) = BitVec.ofNat 64 (8 * Int.toNat (n - 1 - i))) := by
 obtain ⟨h1, h2, h3⟩ := h
 refine ⟨fun _ => ⟨by unfold inI64; omega, by unfold inI64; omega, by unfold inI64; omega, ?_⟩, fun h => by cases h⟩
 rw [show (8 * (n - 1 - i)) = ((8 * (n - 1 - i).toNat : Nat) : Int) by omega, BitVec.ofInt_natCast]

theorem word_shift_spec : Vse.Spec P f_word_shift c_shift :=
 spec_fn (l := []) trivial h_word_shift rfl rfl fun ⟨i, n, o, u⟩ h _ => by
  obtain ⟨ho, h⟩ := got h
  have ho : o = 1 := ho
  subst ho
  exact body_ok (an_none) (word_shift_vc i n h) (by kernel_rfl)

def c_number : PC := D [.slc .u8, .i64] [.u64] (fun x => some (eqP x.2.1 1 ∧ x.1.length ≤ 8)) (fun x => (BitVec.ofNat 64 (beN x.1), ()))

def an_number (b : Bytes) : Nat → SState → Option LoopAnn
 | 3, _ => some { X := Nat, slots := fun i => [(5, .sv (.dv (.u64 (BitVec.ofNat 64 (beN (b.take i) * 256 ^ (b.length - i)))))), (10, .sv (.dv (.i64 i)))], objs := fun _ => [], inv := fun i => i ≤ b.length, meas := fun i => b.length - i }
 | _, _ => none

theorem word_number_vc (b : Bytes) (h : b.length ≤ 8) :
 (∃ (x : Nat), x ≤ List.length b ∧ 0#64 = BitVec.ofNat 64 (beN (List.take x b) * 256 ^ (List.length b - x)) ∧ 0 = ofN x) ∧
  ∀ (x : Nat),
  x ≤ List.length b →
  (decide (ofN x < ofN (List.length b)) = true →
  within (ofN x) (List.length b) ∧
  (ofN 1 = 1 ∧ 0 ≤ ofN x ∧ ofN x < ofN (List.length b) ∧ ofN (List.length b) ≤ 8) ∧
  inI64 (ofN x + 1) ∧
  ∃ (x' : Nat),
  x' ≤ List.length b ∧
  List.length b - x' < List.length b - x ∧
  BitVec.ofNat 64 (beN (List.take x b) * 256 ^ (List.length b - x)) |||
  BitVec.setWidth 64 (List.getD b (Int.toNat (ofN x)) 0#8) <<< BitVec.toNat (BitVec.ofNat 64 (8 * Int.toNat (ofN (List.length b) - 1 - ofN x))) =
  BitVec.ofNat 64 (beN (List.take x' b) * 256 ^ (List.length b - x')) ∧
  ofN x + 1 = ofN x') ∧
  (decide (ofN x < ofN (List.length b)) = false → BitVec.ofNat 64 (beN (List.take x b) * 256 ^ (List.length b - x)) = BitVec.ofNat 64 (beN b)) := by
 refine ⟨⟨0, by omega, by simp [beN], rfl⟩, fun i hi => ⟨fun hc => ?_, fun hc => ?_⟩⟩
 · simp only [ofN, decide_eq_true_eq, Int.ofNat_lt] at hc ⊢
   refine ⟨by unfold within; omega, ⟨rfl, by omega, by omega, by omega⟩, by unfold inI64; omega, i + 1, by omega, by omega, ?_, by omega⟩
   have e1 : ((b.length : Int) - 1 - (i : Int)).toNat = b.length - 1 - i := by omega
   have e2 : (BitVec.ofNat 64 (8 * (b.length - 1 - i))).toNat = 8 * (b.length - (i + 1)) := by rw [BitVec.toNat_ofNat]; omega
   have e3 : b.length - i = b.length - (i + 1) + 1 := by omega
   rw [e1, e2, take_snoc hc, beN_snoc, Int.toNat_natCast, e3]
   refine orWord _ _ _ ?_
   rw [← beN_snoc, ← take_snoc hc]
   have h1 := beN_lt (b.take (i + 1))
   have hl : (b.take (i + 1)).length = i + 1 := by simp; omega
   rw [hl] at h1
   have h2 : (beN (b.take (i + 1)) + 1) * 256 ^ (b.length - (i + 1)) ≤ 256 ^ (i + 1) * 256 ^ (b.length - (i + 1)) := Nat.mul_le_mul_right _ h1
   rw [← Nat.pow_add, show i + 1 + (b.length - (i + 1)) = b.length by omega] at h2
   exact Nat.le_trans h2 (Nat.le_trans (Nat.pow_le_pow_right (by decide) h) (by decide))
 · simp only [ofN, decide_eq_false_iff_not, Int.ofNat_lt] at hc
   have : i = b.length := by omega
   subst this; simp

theorem word_number_spec : Vse.Spec P f_word_number c_number :=
 spec_fn (l := [(f_word_shift, c_shift)]) ⟨word_shift_spec, trivial⟩ h_word_number rfl rfl fun ⟨b, o, u⟩ h _ => by
  obtain ⟨ho, h⟩ := got h
  have ho : o = 1 := ho
  subst ho
  exact body_ok (an_number b) (word_number_vc b h) (by kernel_rfl)

def c_Words : PC := D [.slc .u8, .i64, .i64] [.slc .u64, .i64] (fun x => some (eqP x.2.1 32 ∧ eqP x.2.2.1 1 ∧ x.1.length % 4 = 0 ∧ x.1.length ≤ ROOM)) (fun x => (words32 x.1, 0, ()))

def an_Words (b : Bytes) : Nat → SState → Option LoopAnn
 | 9, _ => some { X := Nat, slots := fun i => [(10, .sv (.own 10 .u64 ((words32 b).take i))), (29, .sv (.dv (.i64 i)))], objs := fun _ => [(10, .tok t_uint64 1)], inv := fun i => i ≤ b.length / 4, meas := fun i => b.length / 4 - i }
 | _, _ => none

theorem word_Words_vc (b : Bytes) (h : b.length % 4 = 0) (hr : b.length ≤ ROOM) :
 ((wayV 32 1 != 0) = true → nilOf (T.den T.u64) = words32 b ∧ wayV 32 1 = 0) ∧
  ((wayV 32 1 != 0) = false →
  (ofN 8 ≠ 0 ∧ inI64 4) ∧
  ofN 4 ≠ 0 ∧
  ((Int.tmod (ofN (List.length b)) 4 != 0) = true → nilOf (T.den T.u64) = words32 b ∧ ofN 11 = 0) ∧
  ((Int.tmod (ofN (List.length b)) 4 != 0) = false →
  (ofN 4 ≠ 0 ∧ inI64 (Int.tdiv (ofN (List.length b)) 4)) ∧
  (∃ (x : Nat), x ≤ List.length b / 4 ∧ List.take x (words32 b) = nilOf (T.den T.u64) ∧ 0 = ofN x) ∧
  ∀ (x : Nat),
  x ≤ List.length b / 4 →
  (decide (ofN x < Int.tdiv (ofN (List.length b)) 4) = true →
  inI64 (ofN x * 4) ∧
  inI64 (ofN x + 1) ∧
  inI64 ((ofN x + 1) * 4) ∧
  (0 ≤ ofN x * 4 ∧ ofN x * 4 ≤ (ofN x + 1) * 4 ∧ (ofN x + 1) * 4 ≤ ofN (List.length b)) ∧
  (ofN 1 = 1 ∧ List.length (List.drop (Int.toNat (ofN x * 4)) (List.take (Int.toNat ((ofN x + 1) * 4)) b)) ≤ 8) ∧
  List.length (List.take x (words32 b)) + List.length [BitVec.ofNat 64 (beN (List.drop (Int.toNat (ofN x * 4)) (List.take (Int.toNat ((ofN x + 1) * 4)) b)))] ≤ ROOM ∧
  inI64 (ofN x + 1) ∧
  ∃ (x' : Nat),
  x' ≤ List.length b / 4 ∧
  List.length b / 4 - x' < List.length b / 4 - x ∧
  List.take x (words32 b) ++ [BitVec.ofNat 64 (beN (List.drop (Int.toNat (ofN x * 4)) (List.take (Int.toNat ((ofN x + 1) * 4)) b)))] =
  List.take x' (words32 b) ∧
  ofN x + 1 = ofN x') ∧
  (decide (ofN x < Int.tdiv (ofN (List.length b)) 4) = false → List.take x (words32 b) = words32 b ∧ ofN 0 = 0))) := by
 have hr' : b.length ≤ 4294967296 := hr
 have e4 : Int.tdiv (b.length : Int) 4 = ((b.length / 4 : Nat) : Int) := by rw [Int.tdiv_eq_ediv_of_nonneg (by omega)]; omega
 have e5 : Int.tmod (b.length : Int) 4 = 0 := by rw [Int.tmod_eq_emod_of_nonneg (by omega)]; omega
 refine ⟨fun h => by simp [wayV, widthV] at h, fun _ => ⟨⟨by decide, by unfold inI64; omega⟩, by decide, fun h => ?_, fun _ => ⟨⟨by decide, ?_⟩, ⟨0, by omega, by simp, rfl⟩, fun i hi => ⟨fun hc => ?_, fun hc => ?_⟩⟩⟩⟩
 · simp only [ofN] at h; rw [e5] at h; cases h
 · simp only [ofN]; rw [e4]; unfold inI64; omega
 · simp only [ofN] at hc ⊢
   rw [e4] at hc
   simp only [decide_eq_true_eq, Int.ofNat_lt] at hc
   have e6 : ((i : Int) * 4).toNat = 4 * i := by omega
   have e7 : (((i : Int) + 1) * 4).toNat = 4 * i + 4 := by omega
   have e8 : (b.take (4 * i + 4)).drop (4 * i) = (b.drop (4 * i)).take 4 := by rw [List.drop_take]; congr 1; omega
   rw [e6, e7, e8]
   refine ⟨by unfold inI64; omega, by unfold inI64; omega, by unfold inI64; omega, ⟨by omega, by omega, by omega⟩, ⟨rfl, by simp; omega⟩, ?_, by unfold inI64; omega, i + 1, by omega, by omega, (words32_snoc hc).symm, by omega⟩
   simp only [List.length_take, words32_length, List.length_cons, List.length_nil, ROOM]; omega
 · simp only [ofN] at hc
   rw [e4] at hc
   simp only [decide_eq_false_iff_not, Int.ofNat_lt] at hc
   exact ⟨List.take_of_length_le (by rw [words32_length]; omega), rfl⟩

theorem word_Words_spec : Vse.Spec P f_word_Words c_Words :=
 spec_fn (l := [(f_word_way, c_way), (f_word_number, c_number)]) ⟨word_way_spec, word_number_spec, trivial⟩ h_word_Words rfl rfl fun ⟨b, w, o, u⟩ h _ => by
  obtain ⟨hw, ho, h1, h2⟩ := got h
  have hw : w = 32 := hw
  have ho : o = 1 := ho
  subst hw; subst ho
  exact body_ok (an_Words b) (word_Words_vc b h1 h2) (by kernel_rfl)

def c_wBytes : PC := D [.u64, .i64, .i64] [.slc .u8, .i64] (fun x => some ((eqP x.2.1 64 ∨ eqP x.2.1 32) ∧ eqP x.2.2.1 1)) (fun x => (beBytes x.1 (x.2.1 / 8).toNat, 0, ()))

def an_wBytes (x : BitVec 64) (n : Nat) : Nat → SState → Option LoopAnn
 | 6, S => some { X := Nat, slots := fun i => [(22, .sv (.dv (.i64 i)))], objs := fun i => [(x_labAt S 9, .cells [.run (.many .u8 n ((beBytes x n).take i ++ List.replicate (n - i) 0#8))] false)], inv := fun i => i ≤ n, meas := fun i => n - i }
 | _, _ => none

theorem word_Bytes64_vc (x : BitVec 64) :
 ((wayV 64 1 != 0) = true → nilOf (T.den T.u8) = beBytes x 8 ∧ wayV 64 1 = 0) ∧
  ((wayV 64 1 != 0) = false →
  (ofN 8 ≠ 0 ∧ inI64 8) ∧
  (ofN 8 = 8 ∧ ofN 0 ≤ 8 ∧ 8 ≤ ofN ROOM) ∧
  (∃ (x_1 : Nat), x_1 ≤ 8 ∧ 0 = ofN x_1 ∧ List.replicate (Int.toNat 8) 0#8 = List.take x_1 (beBytes x 8) ++ List.replicate (8 - x_1) 0#8) ∧
  ∀ (x_1 : Nat),
  x_1 ≤ 8 →
  (decide (ofN x_1 < ofN (Int.toNat 8)) = true →
  (ofN 1 = 1 ∧ 0 ≤ ofN x_1 ∧ ofN x_1 < ofN (Int.toNat 8) ∧ ofN (Int.toNat 8) ≤ 8) ∧
  within (ofN x_1) (Int.toNat 8) ∧
  0 + Int.toNat (ofN x_1) < 8 ∧
  inI64 (ofN x_1 + 1) ∧
  ∃ (x' : Nat),
  x' ≤ 8 ∧
  8 - x' < 8 - x_1 ∧
  ofN x_1 + 1 = ofN x' ∧
  List.set (List.take x_1 (beBytes x 8) ++ List.replicate (8 - x_1) 0#8) (0 + Int.toNat (ofN x_1))
  (BitVec.setWidth 8 (x >>> BitVec.toNat (BitVec.ofNat 64 (8 * Int.toNat (ofN (Int.toNat 8) - 1 - ofN x_1))))) =
  List.take x' (beBytes x 8) ++ List.replicate (8 - x') 0#8) ∧
  (decide (ofN x_1 < ofN (Int.toNat 8)) = false →
  (Int.toNat 8 ≤ 8 ∧ List.take (Int.toNat 8) (List.drop 0 (List.take x_1 (beBytes x 8) ++ List.replicate (8 - x_1) 0#8)) = beBytes x 8) ∧ ofN 0 = 0)) := by
 have hl := beBytes_length x 8
 refine ⟨fun h => by simp [wayV, widthV] at h, fun _ => ⟨⟨by decide, by unfold inI64; omega⟩, ⟨rfl, by decide, by decide⟩, ⟨0, by omega, rfl, by simp⟩, fun i hi => ⟨fun hc => ?_, fun hc => ?_⟩⟩⟩
 · simp only [ofN, decide_eq_true_eq] at hc ⊢
   have hi' : i < 8 := by simp at hc; omega
   have e1 : (((Int.toNat 8 : Nat) : Int) - 1 - (i : Int)).toNat = 8 - 1 - i := by
    have : Int.toNat 8 = 8 := rfl
    rw [this]; omega
   have e2 : (BitVec.ofNat 64 (8 * (8 - 1 - i))).toNat = 8 * (8 - 1 - i) := by rw [BitVec.toNat_ofNat]; omega
   refine ⟨⟨rfl, by omega, hc, by decide⟩, by unfold within; omega, by simp; omega, by unfold inI64; omega, i + 1, by omega, by omega, by omega, ?_⟩
   rw [e1, e2, Nat.zero_add, Int.toNat_natCast]
   refine fill_set hl hi' ?_
   have := beBytes_getD (x := x) hi'
   rw [List.getElem?_eq_getElem (by omega)]
   simp [List.getD_eq_getElem?_getD, List.getElem?_eq_getElem (show i < (beBytes x 8).length by omega)] at this
   rw [this]
 · simp only [ofN, decide_eq_false_iff_not] at hc
   have hi' : i = 8 := by simp at hc; omega
   subst hi'
   refine ⟨⟨by decide, ?_⟩, rfl⟩
   simp only [Nat.sub_self, List.replicate_zero, List.append_nil, List.drop_zero]
   rw [List.take_of_length_le (by simp [hl]), List.take_of_length_le (by rw [hl]; omega)]

theorem word_Bytes32_vc (x : BitVec 64) :
 ((wayV 32 1 != 0) = true → nilOf (T.den T.u8) = beBytes x 4 ∧ wayV 32 1 = 0) ∧
  ((wayV 32 1 != 0) = false →
  (ofN 8 ≠ 0 ∧ inI64 4) ∧
  (ofN 4 = 4 ∧ ofN 0 ≤ 4 ∧ 4 ≤ ofN ROOM) ∧
  (∃ (x_1 : Nat), x_1 ≤ 4 ∧ 0 = ofN x_1 ∧ List.replicate (Int.toNat 4) 0#8 = List.take x_1 (beBytes x 4) ++ List.replicate (4 - x_1) 0#8) ∧
  ∀ (x_1 : Nat),
  x_1 ≤ 4 →
  (decide (ofN x_1 < ofN (Int.toNat 4)) = true →
  (ofN 1 = 1 ∧ 0 ≤ ofN x_1 ∧ ofN x_1 < ofN (Int.toNat 4) ∧ ofN (Int.toNat 4) ≤ 8) ∧
  within (ofN x_1) (Int.toNat 4) ∧
  0 + Int.toNat (ofN x_1) < 4 ∧
  inI64 (ofN x_1 + 1) ∧
  ∃ (x' : Nat),
  x' ≤ 4 ∧
  4 - x' < 4 - x_1 ∧
  ofN x_1 + 1 = ofN x' ∧
  List.set (List.take x_1 (beBytes x 4) ++ List.replicate (4 - x_1) 0#8) (0 + Int.toNat (ofN x_1))
  (BitVec.setWidth 8 (x >>> BitVec.toNat (BitVec.ofNat 64 (8 * Int.toNat (ofN (Int.toNat 4) - 1 - ofN x_1))))) =
  List.take x' (beBytes x 4) ++ List.replicate (4 - x') 0#8) ∧
  (decide (ofN x_1 < ofN (Int.toNat 4)) = false →
  (Int.toNat 4 ≤ 4 ∧ List.take (Int.toNat 4) (List.drop 0 (List.take x_1 (beBytes x 4) ++ List.replicate (4 - x_1) 0#8)) = beBytes x 4) ∧ ofN 0 = 0)) := by
 have hl := beBytes_length x 4
 refine ⟨fun h => by simp [wayV, widthV] at h, fun _ => ⟨⟨by decide, by unfold inI64; omega⟩, ⟨rfl, by decide, by decide⟩, ⟨0, by omega, rfl, by simp⟩, fun i hi => ⟨fun hc => ?_, fun hc => ?_⟩⟩⟩
 · simp only [ofN, decide_eq_true_eq] at hc ⊢
   have hi' : i < 4 := by simp at hc; omega
   have e1 : (((Int.toNat 4 : Nat) : Int) - 1 - (i : Int)).toNat = 4 - 1 - i := by
    have : Int.toNat 4 = 4 := rfl
    rw [this]; omega
   have e2 : (BitVec.ofNat 64 (8 * (4 - 1 - i))).toNat = 8 * (4 - 1 - i) := by rw [BitVec.toNat_ofNat]; omega
   refine ⟨⟨rfl, by omega, hc, by decide⟩, by unfold within; omega, by simp; omega, by unfold inI64; omega, i + 1, by omega, by omega, by omega, ?_⟩
   rw [e1, e2, Nat.zero_add, Int.toNat_natCast]
   refine fill_set hl hi' ?_
   have := beBytes_getD (x := x) hi'
   rw [List.getElem?_eq_getElem (by omega)]
   simp [List.getD_eq_getElem?_getD, List.getElem?_eq_getElem (show i < (beBytes x 4).length by omega)] at this
   rw [this]
 · simp only [ofN, decide_eq_false_iff_not] at hc
   have hi' : i = 4 := by simp at hc; omega
   subst hi'
   refine ⟨⟨by decide, ?_⟩, rfl⟩
   simp only [Nat.sub_self, List.replicate_zero, List.append_nil, List.drop_zero]
   rw [List.take_of_length_le (by simp [hl]), List.take_of_length_le (by rw [hl]; omega)]

theorem word_Bytes_spec : Vse.Spec P f_word_Bytes c_wBytes :=
 spec_fn (l := [(f_word_way, c_way), (f_word_shift, c_shift)]) ⟨word_way_spec, word_shift_spec, trivial⟩ h_word_Bytes rfl rfl fun ⟨x, w, o, u⟩ h _ => by
  obtain ⟨hw, ho⟩ := got h
  have hw : w = 64 ∨ w = 32 := hw
  have ho : o = 1 := ho
  subst ho
  rcases hw with rfl | rfl
  · exact body_ok (an_wBytes x 8) (word_Bytes64_vc x) (by kernel_rfl)
  · exact body_ok (an_wBytes x 4) (word_Bytes32_vc x) (by kernel_rfl)

def c_bytesClone : PC := O [.slc .u8] .u8 t_uint8 1 [] (fun x => some (x.1.length ≤ ROOM)) (fun x => (x.1, ()))

theorem bytes_Clone_vc (b : Bytes) (h : b.length ≤ ROOM) :
 ∀ (q : Bool),
  (q = true → b = nilOf (T.den T.u8)) → ((q == true) = true → b = nilOf (T.den T.u8)) ∧ ((q == true) = false → List.length (nilOf (T.den T.u8)) + List.length b ≤ ROOM ∧ nilOf (T.den T.u8) ++ b = b) := by
 exact fun q hq => ⟨fun e => hq (by simpa using e), fun _ => ⟨by simpa using h, rfl⟩⟩

theorem bytes_Clone_spec : Vse.Spec P f_bytes_Clone c_bytesClone :=
 spec_fn (l := []) trivial h_bytes_Clone rfl rfl fun x h _ => body_ok (an_none) (bytes_Clone_vc x.1 (got h)) (by kernel_rfl)

def c_shaStart : PC := D [] [T_St] (fun _ => none) (fun _ => (start, ()))

theorem sha_Start_vc :
 [1779033703#32, 3144134277#32, 1013904242#32, 2773480762#32, 1359893119#32, 2600822924#32, 528734635#32, 1541459225#32] = start := by
 rfl

theorem sha_Start_spec : Vse.Spec P f_sha_Start c_shaStart :=
 spec_fn (l := []) trivial h_sha_Start rfl rfl fun _ _ _ => body_ok (an_none) sha_Start_vc (by kernel_rfl)

def c_shaConstants : PC := D [] [.arr 64 .u32] (fun _ => none) (fun _ => (consts, ()))

theorem sha_constants_vc :
 [1116352408#32, 1899447441#32, 3049323471#32, 3921009573#32, 961987163#32, 1508970993#32, 2453635748#32, 2870763221#32, 3624381080#32, 310598401#32, 607225278#32, 1426881987#32, 1925078388#32,
  2162078206#32, 2614888103#32, 3248222580#32, 3835390401#32, 4022224774#32, 264347078#32, 604807628#32, 770255983#32, 1249150122#32, 1555081692#32, 1996064986#32, 2554220882#32, 2821834349#32,
  2952996808#32, 3210313671#32, 3336571891#32, 3584528711#32, 113926993#32, 338241895#32, 666307205#32, 773529912#32, 1294757372#32, 1396182291#32, 1695183700#32, 1986661051#32, 2177026350#32,
  2456956037#32, 2730485921#32, 2820302411#32, 3259730800#32, 3345764771#32, 3516065817#32, 3600352804#32, 4094571909#32, 275423344#32, 430227734#32, 506948616#32, 659060556#32, 883997877#32,
  958139571#32, 1322822218#32, 1537002063#32, 1747873779#32, 1955562222#32, 2024104815#32, 2227730452#32, 2361852424#32, 2428436474#32, 2756734187#32, 3204031479#32, 3329325298#32] =
  consts := by
 rfl

theorem sha_constants_spec : Vse.Spec P f_sha_constants c_shaConstants :=
 spec_fn (l := []) trivial h_sha_constants rfl rfl fun _ _ _ => body_ok (an_none) sha_constants_vc (by kernel_rfl)

def c_right : PC := D [.u32, .u64] [.u32] (fun x => some (x.2.1.toNat ≤ 32)) (fun x => (rotr x.1 x.2.1.toNat, ()))

theorem sha_right_vc (x : W32) (n : BitVec 64) (h : n.toNat ≤ 32) :
 x >>> BitVec.toNat n ||| x <<< BitVec.toNat (32#64 - n) = rotr x (BitVec.toNat n) := by
 have e : (32#64 - n).toNat = 32 - n.toNat := by
  rw [BitVec.toNat_sub]
  have : (32#64).toNat = 32 := by decide
  rw [this]
  have e64 : 2 ^ 64 = 18446744073709551616 := by decide
  rw [e64]; omega
 rw [e]; rfl

theorem sha_right_spec : Vse.Spec P f_sha_right c_right :=
 spec_fn (l := []) trivial h_sha_right rfl rfl fun x h _ => body_ok (an_none) (sha_right_vc x.1 x.2.1 (got h)) (by kernel_rfl)

def c_schedule : PC := D [T_Blk] [.arr 64 .u32] (fun _ => none) (fun x => (sched x.1, ()))

def an_schedule (b : Bytes) : Nat → SState → Option LoopAnn
 | 4, S => some { X := Nat, slots := fun i => [(20, .sv (.dv (.i64 i)))], objs := fun i => [(x_labAt S 3, .cells [.run (.many .u32 64 (iter (fun w i => w.set i (wordAt b i)) i (List.replicate 64 0#32)))] false)], inv := fun i => i ≤ 16, meas := fun i => 16 - i }
 | 9, S => some { X := Nat, slots := fun i => [(8, .sv (.dv (.i64 (i + 16 : Nat))))], objs := fun i => [(x_labAt S 3, .cells [.run (.many .u32 64 (iter schedStep i (sched16 b)))] false)], inv := fun i => i ≤ 48, meas := fun i => 48 - i }
 | _, _ => none

theorem sha_schedule_vc (b : Bytes) (h : b.length = 64) :
 (ofN 32 = 32 ∧ ofN 1 = 1 ∧ List.length (List.take 64 (List.drop 0 b)) % 4 = 0 ∧ List.length (List.take 64 (List.drop 0 b)) ≤ ROOM) ∧
  (∃ (x : Nat), x ≤ 16 ∧ 0 = ofN x ∧ List.replicate 64 0#32 = iter (fun (w : List (BitVec 32)) (i : Nat) => List.set w i (wordAt b i)) x (List.replicate 64 0#32)) ∧
  ∀ (x : Nat),
  x ≤ 16 →
  (decide (ofN x < ofN (List.length (words32 (List.take 64 (List.drop 0 b))))) = true →
  within (ofN x) (List.length (words32 (List.take 64 (List.drop 0 b)))) ∧
  within (ofN x) 64 ∧
  inI64 (ofN x + 1) ∧
  ∃ (x' : Nat),
  x' ≤ 16 ∧
  16 - x' < 16 - x ∧
  ofN x + 1 = ofN x' ∧
  List.set (iter (fun (w : List (BitVec 32)) (i : Nat) => List.set w i (wordAt b i)) x (List.replicate 64 0#32)) (Int.toNat (ofN x))
  (BitVec.setWidth 32 (List.getD (words32 (List.take 64 (List.drop 0 b))) (Int.toNat (ofN x)) 0#64)) =
  iter (fun (w : List (BitVec 32)) (i : Nat) => List.set w i (wordAt b i)) x' (List.replicate 64 0#32)) ∧
  (decide (ofN x < ofN (List.length (words32 (List.take 64 (List.drop 0 b))))) = false →
  (∃ (x_1 : Nat), x_1 ≤ 48 ∧ 16 = ofN (x_1 + 16) ∧ iter (fun (w : List (BitVec 32)) (i : Nat) => List.set w i (wordAt b i)) x (List.replicate 64 0#32) = iter schedStep x_1 (sched16 b)) ∧
  ∀ (x : Nat),
  x ≤ 48 →
  (decide (ofN (x + 16) < 64) = true →
  inI64 (ofN (x + 16) - 15) ∧
  within (ofN (x + 16) - 15) 64 ∧
  inI64 (ofN (x + 16) - 2) ∧
  within (ofN (x + 16) - 2) 64 ∧
  BitVec.toNat 7#64 ≤ 32 ∧
  BitVec.toNat 18#64 ≤ 32 ∧
  BitVec.toNat 17#64 ≤ 32 ∧
  BitVec.toNat 19#64 ≤ 32 ∧
  inI64 (ofN (x + 16) - 16) ∧
  within (ofN (x + 16) - 16) 64 ∧
  inI64 (ofN (x + 16) - 7) ∧
  within (ofN (x + 16) - 7) 64 ∧
  within (ofN (x + 16)) 64 ∧
  inI64 (ofN (x + 16) + 1) ∧
  ∃ (x' : Nat),
  x' ≤ 48 ∧
  48 - x' < 48 - x ∧
  ofN (x + 16) + 1 = ofN (x' + 16) ∧
  List.set (iter schedStep x (sched16 b)) (Int.toNat (ofN (x + 16)))
  (List.getD (iter schedStep x (sched16 b)) (Int.toNat (ofN (x + 16) - 16)) 0#32 +
  (rotr (List.getD (iter schedStep x (sched16 b)) (Int.toNat (ofN (x + 16) - 15)) 0#32) (BitVec.toNat 7#64) ^^^
  rotr (List.getD (iter schedStep x (sched16 b)) (Int.toNat (ofN (x + 16) - 15)) 0#32) (BitVec.toNat 18#64) ^^^
  List.getD (iter schedStep x (sched16 b)) (Int.toNat (ofN (x + 16) - 15)) 0#32 >>> BitVec.toNat 3#64) +
  List.getD (iter schedStep x (sched16 b)) (Int.toNat (ofN (x + 16) - 7)) 0#32 +
  (rotr (List.getD (iter schedStep x (sched16 b)) (Int.toNat (ofN (x + 16) - 2)) 0#32) (BitVec.toNat 17#64) ^^^
  rotr (List.getD (iter schedStep x (sched16 b)) (Int.toNat (ofN (x + 16) - 2)) 0#32) (BitVec.toNat 19#64) ^^^
  List.getD (iter schedStep x (sched16 b)) (Int.toNat (ofN (x + 16) - 2)) 0#32 >>> BitVec.toNat 10#64)) =
  iter schedStep x' (sched16 b)) ∧
  (decide (ofN (x + 16) < 64) = false → iter schedStep x (sched16 b) = sched b)) := by
 have e1 : List.take 64 (List.drop 0 b) = b := by rw [List.drop_zero, List.take_of_length_le (by omega)]
 rw [e1, words32_length, h]
 refine ⟨⟨rfl, rfl, by decide, by decide⟩, ⟨0, by omega, rfl, rfl⟩, fun i hi => ⟨fun hc => ?_, fun hc => ⟨⟨0, by omega, rfl, ?_⟩, fun k hk => ⟨fun hc => ?_, fun hc => ?_⟩⟩⟩⟩
 · simp only [ofN, decide_eq_true_eq, Int.ofNat_lt] at hc ⊢
   refine ⟨by unfold within; omega, by unfold within; omega, by unfold inI64; omega, i + 1, by omega, by omega, by omega, ?_⟩
   rw [Int.toNat_natCast, words32_getD (by omega), wordAt_eq (by omega)]
   rfl
 · simp only [ofN, decide_eq_false_iff_not, Int.ofNat_lt] at hc
   have : i = 16 := by omega
   subst this
   rw [iter_zero]
   exact (sched16_def b).symm
 · simp only [ofN, decide_eq_true_eq] at hc ⊢
   have e0 : ((k + 16 : Nat) : Int).toNat = k + 16 := by omega
   have e15 : (((k + 16 : Nat) : Int) - 15).toNat = k + 1 := by omega
   have e2 : (((k + 16 : Nat) : Int) - 2).toNat = k + 14 := by omega
   have e16 : (((k + 16 : Nat) : Int) - 16).toNat = k := by omega
   have e7 : (((k + 16 : Nat) : Int) - 7).toNat = k + 9 := by omega
   have t7 : BitVec.toNat 7#64 = 7 := rfl
   have t18 : BitVec.toNat 18#64 = 18 := rfl
   have t3 : BitVec.toNat 3#64 = 3 := rfl
   have t17 : BitVec.toNat 17#64 = 17 := rfl
   have t19 : BitVec.toNat 19#64 = 19 := rfl
   have t10 : BitVec.toNat 10#64 = 10 := rfl
   rw [e0, e15, e2, e16, e7, t7, t18, t3, t17, t19, t10]
   exact ⟨by unfold inI64; omega, by unfold within; omega, by unfold inI64; omega, by unfold within; omega, by decide, by decide, by decide, by decide, by unfold inI64; omega, by unfold within; omega, by unfold inI64; omega, by unfold within; omega,
    by unfold within; omega, by unfold inI64; omega, k + 1, by omega, by omega, by omega, rfl⟩
 · simp only [ofN, decide_eq_false_iff_not] at hc
   have : k = 48 := by omega
   subst this
   exact (sched_def b).symm

theorem sha_schedule_spec : Vse.Spec P f_sha_schedule c_schedule :=
 spec_fn (l := [(f_word_Words, c_Words), (f_sha_right, c_right)]) ⟨word_Words_spec, sha_right_spec, trivial⟩ h_sha_schedule rfl rfl fun x _ h => body_ok (an_schedule x.1) (sha_schedule_vc x.1 h.1.1) (by kernel_rfl)

def c_Step : PC := D [T_St, T_Blk] [T_St] (fun _ => none) (fun x => (step x.1 x.2.1, ()))

def an_Step (s : List W32) (b : Bytes) : Nat → SState → Option LoopAnn
 | 3, S => some { X := Nat, slots := fun i => [(23, .sv (.dv (.i64 i)))], objs := fun i => [(x_labAt S 7, .cells [.run (.many .u32 8 (iter (round (sched b)) i s))] false)], inv := fun i => i ≤ 64, meas := fun i => 64 - i }
 | 11, S => some { X := Nat, slots := fun i => [(102, .sv (.dv (.i64 i)))], objs := fun i => [(x_labAt S 7, .cells [.run (.many .u32 8 (iter (fun t i => t.set i (t.getD i 0#32 + s.getD i 0#32)) i (rounds b s)))] false)], inv := fun i => i ≤ 8, meas := fun i => 8 - i }
 | _, _ => none

theorem sha_Step_vc (s : List W32) (b : Bytes) :
 (∃ (x : Nat), x ≤ 64 ∧ 0 = ofN x ∧ s = iter (round (sched b)) x s) ∧
  ∀ (x : Nat),
  x ≤ 64 →
  (decide (ofN x < 64) = true →
  within 0 8 ∧
  within 1 8 ∧
  within 2 8 ∧
  within 4 8 ∧
  within 5 8 ∧
  within 6 8 ∧
  within 7 8 ∧
  BitVec.toNat 6#64 ≤ 32 ∧
  BitVec.toNat 11#64 ≤ 32 ∧
  BitVec.toNat 25#64 ≤ 32 ∧
  within (ofN x) 64 ∧
  within (ofN x) 64 ∧
  BitVec.toNat 2#64 ≤ 32 ∧
  BitVec.toNat 13#64 ≤ 32 ∧
  BitVec.toNat 22#64 ≤ 32 ∧
  within 3 8 ∧
  inI64 (ofN x + 1) ∧
  ∃ (x' : Nat),
  x' ≤ 64 ∧
  64 - x' < 64 - x ∧
  ofN x + 1 = ofN x' ∧
  [List.getD (iter (round (sched b)) x s) (Int.toNat 7) 0#32 +
  (rotr (List.getD (iter (round (sched b)) x s) (Int.toNat 4) 0#32) (BitVec.toNat 6#64) ^^^
  rotr (List.getD (iter (round (sched b)) x s) (Int.toNat 4) 0#32) (BitVec.toNat 11#64) ^^^
  rotr (List.getD (iter (round (sched b)) x s) (Int.toNat 4) 0#32) (BitVec.toNat 25#64)) +
  (List.getD (iter (round (sched b)) x s) (Int.toNat 4) 0#32 &&& List.getD (iter (round (sched b)) x s) (Int.toNat 5) 0#32 ^^^
  ~~~List.getD (iter (round (sched b)) x s) (Int.toNat 4) 0#32 &&& List.getD (iter (round (sched b)) x s) (Int.toNat 6) 0#32) +
  List.getD consts (Int.toNat (ofN x)) 0#32 +
  List.getD (sched b) (Int.toNat (ofN x)) 0#32 +
  ((rotr (List.getD (iter (round (sched b)) x s) (Int.toNat 0) 0#32) (BitVec.toNat 2#64) ^^^
  rotr (List.getD (iter (round (sched b)) x s) (Int.toNat 0) 0#32) (BitVec.toNat 13#64) ^^^
  rotr (List.getD (iter (round (sched b)) x s) (Int.toNat 0) 0#32) (BitVec.toNat 22#64)) +
  (List.getD (iter (round (sched b)) x s) (Int.toNat 0) 0#32 &&& List.getD (iter (round (sched b)) x s) (Int.toNat 1) 0#32 ^^^
  List.getD (iter (round (sched b)) x s) (Int.toNat 0) 0#32 &&& List.getD (iter (round (sched b)) x s) (Int.toNat 2) 0#32 ^^^
  List.getD (iter (round (sched b)) x s) (Int.toNat 1) 0#32 &&& List.getD (iter (round (sched b)) x s) (Int.toNat 2) 0#32)),
  List.getD (iter (round (sched b)) x s) (Int.toNat 0) 0#32, List.getD (iter (round (sched b)) x s) (Int.toNat 1) 0#32,
  List.getD (iter (round (sched b)) x s) (Int.toNat 2) 0#32,
  List.getD (iter (round (sched b)) x s) (Int.toNat 3) 0#32 +
  (List.getD (iter (round (sched b)) x s) (Int.toNat 7) 0#32 +
  (rotr (List.getD (iter (round (sched b)) x s) (Int.toNat 4) 0#32) (BitVec.toNat 6#64) ^^^
  rotr (List.getD (iter (round (sched b)) x s) (Int.toNat 4) 0#32) (BitVec.toNat 11#64) ^^^
  rotr (List.getD (iter (round (sched b)) x s) (Int.toNat 4) 0#32) (BitVec.toNat 25#64)) +
  (List.getD (iter (round (sched b)) x s) (Int.toNat 4) 0#32 &&& List.getD (iter (round (sched b)) x s) (Int.toNat 5) 0#32 ^^^
  ~~~List.getD (iter (round (sched b)) x s) (Int.toNat 4) 0#32 &&& List.getD (iter (round (sched b)) x s) (Int.toNat 6) 0#32) +
  List.getD consts (Int.toNat (ofN x)) 0#32 +
  List.getD (sched b) (Int.toNat (ofN x)) 0#32),
  List.getD (iter (round (sched b)) x s) (Int.toNat 4) 0#32, List.getD (iter (round (sched b)) x s) (Int.toNat 5) 0#32,
  List.getD (iter (round (sched b)) x s) (Int.toNat 6) 0#32] =
  iter (round (sched b)) x' s) ∧
  (decide (ofN x < 64) = false →
  (∃ (x_1 : Nat), x_1 ≤ 8 ∧ 0 = ofN x_1 ∧ iter (round (sched b)) x s = iter (fun (t : List (BitVec 32)) (i : Nat) => List.set t i (List.getD t i 0#32 + List.getD s i 0#32)) x_1 (rounds b s)) ∧
  ∀ (x : Nat),
  x ≤ 8 →
  (decide (ofN x < 8) = true →
  within (ofN x) 8 ∧
  within (ofN x) 8 ∧
  within (ofN x) 8 ∧
  inI64 (ofN x + 1) ∧
  ∃ (x' : Nat),
  x' ≤ 8 ∧
  8 - x' < 8 - x ∧
  ofN x + 1 = ofN x' ∧
  List.set (iter (fun (t : List (BitVec 32)) (i : Nat) => List.set t i (List.getD t i 0#32 + List.getD s i 0#32)) x (rounds b s)) (Int.toNat (ofN x))
  (List.getD (iter (fun (t : List (BitVec 32)) (i : Nat) => List.set t i (List.getD t i 0#32 + List.getD s i 0#32)) x (rounds b s)) (Int.toNat (ofN x)) 0#32 +
  List.getD s (Int.toNat (ofN x)) 0#32) =
  iter (fun (t : List (BitVec 32)) (i : Nat) => List.set t i (List.getD t i 0#32 + List.getD s i 0#32)) x' (rounds b s)) ∧
  (decide (ofN x < 8) = false → iter (fun (t : List (BitVec 32)) (i : Nat) => List.set t i (List.getD t i 0#32 + List.getD s i 0#32)) x (rounds b s) = step s b)) := by
 refine ⟨⟨0, by omega, rfl, rfl⟩, fun i hi => ⟨fun hc => ?_, fun hc => ⟨⟨0, by omega, rfl, ?_⟩, fun k hk => ⟨fun hc => ?_, fun hc => ?_⟩⟩⟩⟩
 · simp only [ofN, decide_eq_true_eq] at hc ⊢
   rw [Int.toNat_natCast]
   exact ⟨by unfold within; omega, by unfold within; omega, by unfold within; omega, by unfold within; omega, by unfold within; omega, by unfold within; omega, by unfold within; omega, by decide, by decide, by decide, by unfold within; omega, by unfold within; omega,
    by decide, by decide, by decide, by unfold within; omega, by unfold inI64; omega, i + 1, by omega, by omega, by omega, rfl⟩
 · simp only [ofN, decide_eq_false_iff_not] at hc
   have : i = 64 := by omega
   subst this; rfl
 · simp only [ofN, decide_eq_true_eq] at hc ⊢
   rw [Int.toNat_natCast]
   exact ⟨by unfold within; omega, by unfold within; omega, by unfold within; omega, by unfold inI64; omega, k + 1, by omega, by omega, by omega, rfl⟩
 · simp only [ofN, decide_eq_false_iff_not] at hc
   have : k = 8 := by omega
   subst this; rfl

theorem sha_Step_spec : Vse.Spec P f_sha_Step c_Step :=
 spec_fn (l := [(f_sha_schedule, c_schedule), (f_sha_constants, c_shaConstants), (f_sha_right, c_right)]) ⟨sha_schedule_spec, sha_constants_spec, sha_right_spec, trivial⟩ h_sha_Step rfl rfl
  fun x _ _ => body_ok (an_Step x.1 x.2.1) (sha_Step_vc x.1 x.2.1) (by kernel_rfl)

def c_Pad : PC := O [.u64] .u8 t_uint8 1 [] (fun _ => none) (fun x => (pad x.1, ()))

theorem sha_Pad_vc (n : BitVec 64) :
 64#64 ≠ 0#64 ∧
  64#64 ≠ 0#64 ∧
  (BitVec.toNat ((119#64 - n % 64#64) % 64#64) ≤ ROOM ∧ List.length [128#8] + List.length (List.replicate (BitVec.toNat ((119#64 - n % 64#64) % 64#64)) 0#8) ≤ ROOM) ∧
  ((ofN 64 = 64 ∨ ofN 64 = 32) ∧ ofN 1 = 1) ∧
  List.length ([128#8] ++ List.replicate (BitVec.toNat ((119#64 - n % 64#64) % 64#64)) 0#8) + List.length (beBytes (n <<< BitVec.toNat 3#64) (Int.toNat 8)) ≤ ROOM ∧
  [128#8] ++ List.replicate (BitVec.toNat ((119#64 - n % 64#64) % 64#64)) 0#8 ++ beBytes (n <<< BitVec.toNat 3#64) (Int.toNat 8) = pad n := by
 have e1 : ((119#64 - n % 64#64) % 64#64).toNat = zerosN n := by
  unfold zerosN
  rw [BitVec.toNat_umod, BitVec.toNat_sub, BitVec.toNat_umod]
  have a1 : (64#64).toNat = 64 := by decide
  have a2 : (119#64).toNat = 119 := by decide
  have e64 : 2 ^ 64 = 18446744073709551616 := by decide
  rw [a1, a2, e64]; omega
 have e2 : n <<< BitVec.toNat 3#64 = n * 8#64 := by
  apply BitVec.eq_of_toNat_eq
  rw [BitVec.toNat_shiftLeft, BitVec.toNat_mul, Nat.shiftLeft_eq]; rfl
 have hz := zerosN_lt n
 rw [e1, e2]
 refine ⟨by decide, by decide, ⟨?_, ?_⟩, ⟨.inl rfl, rfl⟩, ?_, ?_⟩
 · simp only [ROOM]; omega
 · simp [ROOM]; omega
 · simp [ROOM, beBytes_length]; omega
 · simp [pad, be8]

theorem sha_Pad_spec : Vse.Spec P f_sha_Pad c_Pad :=
 spec_fn (l := [(f_word_Bytes, c_wBytes)]) ⟨word_Bytes_spec, trivial⟩ h_sha_Pad rfl rfl fun x _ _ => body_ok (an_none) (sha_Pad_vc x.1) (by kernel_rfl)

def c_New : PC := cFn [] fun _ => ⟨none, .sv (.ref (.cell 0 [] 0)), some (.cells (ofRuns (enc T_Hash (start, [], 0#64, true))) false)⟩

theorem sha_New_vc :
 start = start ∧ nilOf (T.den T.u8) = nilOf (BitVec 8) ∧ 0#64 = 0#64 ∧ true = true := by
 exact ⟨rfl, rfl, rfl, rfl⟩

theorem sha_New_spec : Vse.Spec P f_sha_New c_New :=
 spec_fn (l := [(f_sha_Start, c_shaStart)]) ⟨sha_Start_spec, trivial⟩ h_sha_New rfl rfl fun _ _ _ => body_ok (an_none) sha_New_vc (by kernel_rfl)

def taken (s : T_Hash.den) (b : Bytes) : T_Hash.den := (run s.1 (s.2.1 ++ b), rest (s.2.1 ++ b), s.2.2.1 + BitVec.ofNat 64 b.length, s.2.2.2)

def c_take : PC := M T_Hash [.slc .u8] [] (fun s x => some (s.2.1.length + x.1.length ≤ ROOM)) (fun s x => (taken s x.1, ()))

def an_take (st : List W32) (l : Bytes) (n : BitVec 64) (m : Bool) (b : Bytes) : Nat → SState → Option LoopAnn
 | 2, _ => some { X := List W32 × Bytes, slots := fun y => [(4, .sv (.dv (.imm .u8 y.2)))], objs := fun y => [(1, .cells (ofRuns (enc T_Hash (y.1, l, n + BitVec.ofNat 64 b.length, m))) false)], inv := fun y => run y.1 y.2 = run st (l ++ b) ∧ rest y.2 = rest (l ++ b) ∧ y.2.length ≤ (l ++ b).length, meas := fun y => y.2.length }
 | _, _ => none

theorem sha_take_vc (st : List W32) (l : Bytes) (n : BitVec 64) (m : Bool) (b : Bytes) (h : l.length + b.length ≤ ROOM) :
 List.length l ≤ ROOM ∧
  List.length l + List.length b ≤ ROOM ∧
  (∃ (x : List (BitVec 32) × List (BitVec 8)),
  (run x.1 x.2 = run st (l ++ b) ∧ rest x.2 = rest (l ++ b) ∧ List.length x.2 ≤ List.length (l ++ b)) ∧
  l ++ b = x.2 ∧ st = x.1 ∧ l = l ∧ n + BitVec.ofInt 64 (ofN (List.length b)) = n + BitVec.ofNat 64 (List.length b) ∧ m = m) ∧
  ∀ (x : List (BitVec 32) × List (BitVec 8)),
  run x.1 x.2 = run st (l ++ b) ∧ rest x.2 = rest (l ++ b) ∧ List.length x.2 ≤ List.length (l ++ b) →
  (decide (64 ≤ ofN (List.length x.2)) = true →
  (ofN 0 ≤ 64 ∧ 64 ≤ ofN (List.length x.2)) ∧
  64 ≤ List.length (List.drop 0 (List.take (Int.toNat 64) x.2)) ∧
  (ofN 0 ≤ 64 ∧ 64 ≤ ofN (List.length x.2)) ∧
  ∃ (x' : List (BitVec 32) × List (BitVec 8)),
  (run x'.1 x'.2 = run st (l ++ b) ∧ rest x'.2 = rest (l ++ b) ∧ List.length x'.2 ≤ List.length (l ++ b)) ∧
  List.length x'.2 < List.length x.2 ∧
  List.drop (Int.toNat 64) (List.take (List.length x.2) x.2) = x'.2 ∧
  step x.1 (List.take 64 (List.drop 0 (List.take (Int.toNat 64) x.2))) = x'.1 ∧ l = l ∧ n + BitVec.ofNat 64 (List.length b) = n + BitVec.ofNat 64 (List.length b) ∧ m = m) ∧
  (decide (64 ≤ ofN (List.length x.2)) = false →
  List.length x.2 ≤ ROOM ∧ x.1 = run st (l ++ b) ∧ x.2 = rest (l ++ b) ∧ n + BitVec.ofNat 64 (List.length b) = n + BitVec.ofNat 64 (List.length b) ∧ m = m) := by
 refine ⟨by omega, h, ⟨(st, l ++ b), ⟨rfl, rfl, Nat.le_refl _⟩, rfl, rfl, rfl, by simp [ofN], rfl⟩, fun ⟨s, y⟩ ⟨h1, h2, h3⟩ => ⟨fun hc => ?_, fun hc => ?_⟩⟩
 · have hy : 64 ≤ y.length := by have := of_decide_eq_true hc; simp only [ofN] at this; omega
   have hc' : (64 : Int) ≤ ofN y.length := of_decide_eq_true hc
   have e0 : Int.toNat 64 = 64 := rfl
   simp only at h1 h2 h3 ⊢
   have e1 : List.take 64 (List.drop 0 (List.take 64 y)) = y.take 64 := by rw [List.drop_zero, List.take_take]; rfl
   rw [e0, e1, List.take_of_length_le (Nat.le_refl y.length)]
   refine ⟨⟨by decide, hc'⟩, by simp; omega, ⟨by decide, hc'⟩, (step s (y.take 64), y.drop 64), ⟨?_, ?_, by simp at h3 ⊢; omega⟩, by simp; omega, rfl, rfl, by trivial, by trivial, by trivial⟩
   · rw [← h1, run_big (b := y) hy]
   · rw [← h2, rest_big (b := y) hy]
 · have hy : y.length < 64 := by have := of_decide_eq_false hc; simp only [ofN] at this; omega
   simp only at h1 h2 h3 ⊢
   rw [run_small hy] at h1
   rw [rest_small hy] at h2
   exact ⟨by simp only [ROOM]; omega, h1, h2, by trivial, by trivial⟩

theorem sha_take_spec : Vse.Spec P f_sha_Hash_take c_take :=
 spec_mt (l := [(f_bytes_Clone, c_bytesClone), (f_sha_Step, c_Step)]) ⟨bytes_Clone_spec, sha_Step_spec, trivial⟩ h_sha_Hash_take rfl rfl
  fun s x h _ _ => body_ok (an_take s.1 s.2.1 s.2.2.1 s.2.2.2 x.1) (sha_take_vc s.1 s.2.1 s.2.2.1 s.2.2.2 x.1 (got h)) (by kernel_rfl)

def c_end : PC := M T_Hash [] [.arr 32 .u8] (fun s _ => some (s.2.1.length ≤ 1073741824)) (fun s _ => (s, digest (run s.1 (s.2.1 ++ pad s.2.2.1)), ()))

def an_end (st : List W32) (l : Bytes) (n : BitVec 64) : Nat → SState → Option LoopAnn
 | 5, S => some { X := Nat, slots := fun i => [(20, .sv (.dv (.i64 i)))], objs := fun i => [(x_labAt S 4, .cells [.run (.many .u8 32 ((digest (run st (l ++ pad n))).take (4 * i) ++ List.replicate (32 - 4 * i) 0#8))] false)], inv := fun i => i ≤ 8, meas := fun i => 8 - i }
 | _, _ => none

theorem sha_end_vc (st : List W32) (l : Bytes) (n : BitVec 64) (m : Bool) (h : l.length ≤ 1073741824) :
 List.length l + List.length (pad n) ≤ ROOM ∧
  (∃ (x : Nat), x ≤ 8 ∧ 0 = ofN x ∧ List.replicate 32 0#8 = List.take (4 * x) (digest (run st (l ++ pad n))) ++ List.replicate (32 - 4 * x) 0#8) ∧
  ∀ (x : Nat),
  x ≤ 8 →
  (decide (ofN x < 8) = true →
  within (ofN x) 8 ∧
  ((ofN 32 = 64 ∨ ofN 32 = 32) ∧ ofN 1 = 1) ∧
  inI64 (4 * ofN x) ∧
  ((0 ≤ 4 * ofN x ∧ 4 * ofN x ≤ ofN 32) ∧ Int.toNat (4 * ofN x) < 32) ∧
  inI64 (ofN x + 1) ∧
  ∃ (x' : Nat),
  x' ≤ 8 ∧
  8 - x' < 8 - x ∧
  ofN x + 1 = ofN x' ∧
  spliceL (List.take (4 * x) (digest (run st (l ++ pad n))) ++ List.replicate (32 - 4 * x) 0#8)
  (List.take (32 - Int.toNat (4 * ofN x)) (beBytes (BitVec.setWidth 64 (List.getD (taken (st, l, n, m) (pad n)).1 (Int.toNat (ofN x)) 0#32)) (Int.toNat 4)))
  (Int.toNat (4 * ofN x)) =
  List.take (4 * x') (digest (run st (l ++ pad n))) ++ List.replicate (32 - 4 * x') 0#8) ∧
  (decide (ofN x < 8) = false → List.take (4 * x) (digest (run st (l ++ pad n))) ++ List.replicate (32 - 4 * x) 0#8 = digest (run st (l ++ pad n)) ∧ st = st ∧ l = l ∧ n = n ∧ m = m) := by
 have hz := zerosN_lt n
 have hd := digest_length (run st (l ++ pad n))
 refine ⟨by rw [pad_length]; simp only [ROOM]; omega, ⟨0, by omega, rfl, by simp⟩, fun i hi => ⟨fun hc => ?_, fun hc => ?_⟩⟩
 · simp only [ofN, decide_eq_true_eq] at hc ⊢
   have e1 : (4 * (i : Int)).toNat = 4 * i := by omega
   rw [e1, Int.toNat_natCast]
   refine ⟨by unfold within; omega, ⟨.inr rfl, rfl⟩, by unfold inI64; omega, ⟨⟨by omega, by omega⟩, by omega⟩, by unfold inI64; omega, i + 1, by omega, by omega, by omega, ?_⟩
   exact fill_splice hd (by omega) (digest_four _ (by omega))
 · simp only [ofN, decide_eq_false_iff_not] at hc
   have : i = 8 := by omega
   subst this
   refine ⟨?_, rfl, rfl, rfl, rfl⟩
   rw [List.take_of_length_le (by omega)]; simp

theorem sha_end_spec : Vse.Spec P f_sha_Hash_end c_end :=
 spec_mt (l := [(f_sha_Pad, c_Pad), (f_sha_Hash_take, c_take), (f_word_Bytes, c_wBytes)]) ⟨sha_Pad_spec, sha_take_spec, word_Bytes_spec, trivial⟩ h_sha_Hash_end rfl rfl
  fun s _ h _ _ => body_ok (an_end s.1 s.2.1 s.2.2.1) (sha_end_vc s.1 s.2.1 s.2.2.1 s.2.2.2 (got h)) (by kernel_rfl)

def c_shaSum : PC := D [.slc (.slc .u8)] [.arr 32 .u8] (fun x => some (x.1.flatten.length ≤ 1073741824)) (fun x => (sha x.1.flatten, ()))

def an_shaSum (l : List Bytes) : Nat → SState → Option LoopAnn
 | 3, S => some { X := Nat, slots := fun i => [(9, .sv (.dv (.i64 i)))], objs := fun i => [(x_labAt S 3, .cells (ofRuns (enc T_Hash (taken (start, [], 0#64, true) (l.take i).flatten))) false)], inv := fun i => i ≤ l.length, meas := fun i => l.length - i }
 | _, _ => none

theorem sha_Sum_vc (l : List Bytes) (h : l.flatten.length ≤ 1073741824) (hlim : l.length ≤ LIM) :
 (∃ (x : Nat),
  x ≤ List.length l ∧
  0 = ofN x ∧
  start = (taken (start, nilOf (BitVec 8), 0#64, true) (List.flatten (List.take x l))).1 ∧
  nilOf (BitVec 8) = (taken (start, nilOf (BitVec 8), 0#64, true) (List.flatten (List.take x l))).2.1 ∧
  0#64 = (taken (start, nilOf (BitVec 8), 0#64, true) (List.flatten (List.take x l))).2.2.1 ∧ true = (taken (start, nilOf (BitVec 8), 0#64, true) (List.flatten (List.take x l))).2.2.2) ∧
  ∀ (x : Nat),
  x ≤ List.length l →
  (decide (ofN x < ofN (List.length l)) = true →
  within (ofN x) (List.length l) ∧
  List.length (taken (start, nilOf (BitVec 8), 0#64, true) (List.flatten (List.take x l))).2.1 + List.length (List.getD l (Int.toNat (ofN x)) (T.dflt (T.slc T.u8))) ≤ ROOM ∧
  inI64 (ofN x + 1) ∧
  ∃ (x' : Nat),
  x' ≤ List.length l ∧
  List.length l - x' < List.length l - x ∧
  ofN x + 1 = ofN x' ∧
  (taken
  ((taken (start, nilOf (BitVec 8), 0#64, true) (List.flatten (List.take x l))).1, (taken (start, nilOf (BitVec 8), 0#64, true) (List.flatten (List.take x l))).2.1,
  (taken (start, nilOf (BitVec 8), 0#64, true) (List.flatten (List.take x l))).2.2.1,
  (taken (start, nilOf (BitVec 8), 0#64, true) (List.flatten (List.take x l))).2.2.2)
  (List.getD l (Int.toNat (ofN x)) (T.dflt (T.slc T.u8)))).1 =
  (taken (start, nilOf (BitVec 8), 0#64, true) (List.flatten (List.take x' l))).1 ∧
  (taken
  ((taken (start, nilOf (BitVec 8), 0#64, true) (List.flatten (List.take x l))).1, (taken (start, nilOf (BitVec 8), 0#64, true) (List.flatten (List.take x l))).2.1,
  (taken (start, nilOf (BitVec 8), 0#64, true) (List.flatten (List.take x l))).2.2.1,
  (taken (start, nilOf (BitVec 8), 0#64, true) (List.flatten (List.take x l))).2.2.2)
  (List.getD l (Int.toNat (ofN x)) (T.dflt (T.slc T.u8)))).2.1 =
  (taken (start, nilOf (BitVec 8), 0#64, true) (List.flatten (List.take x' l))).2.1 ∧
  (taken
  ((taken (start, nilOf (BitVec 8), 0#64, true) (List.flatten (List.take x l))).1,
  (taken (start, nilOf (BitVec 8), 0#64, true) (List.flatten (List.take x l))).2.1,
  (taken (start, nilOf (BitVec 8), 0#64, true) (List.flatten (List.take x l))).2.2.1,
  (taken (start, nilOf (BitVec 8), 0#64, true) (List.flatten (List.take x l))).2.2.2)
  (List.getD l (Int.toNat (ofN x)) (T.dflt (T.slc T.u8)))).2.2.1 =
  (taken (start, nilOf (BitVec 8), 0#64, true) (List.flatten (List.take x' l))).2.2.1 ∧
  (taken
  ((taken (start, nilOf (BitVec 8), 0#64, true) (List.flatten (List.take x l))).1,
  (taken (start, nilOf (BitVec 8), 0#64, true) (List.flatten (List.take x l))).2.1,
  (taken (start, nilOf (BitVec 8), 0#64, true) (List.flatten (List.take x l))).2.2.1,
  (taken (start, nilOf (BitVec 8), 0#64, true) (List.flatten (List.take x l))).2.2.2)
  (List.getD l (Int.toNat (ofN x)) (T.dflt (T.slc T.u8)))).2.2.2 =
  (taken (start, nilOf (BitVec 8), 0#64, true) (List.flatten (List.take x' l))).2.2.2) ∧
  (decide (ofN x < ofN (List.length l)) = false →
  List.length (taken (start, nilOf (BitVec 8), 0#64, true) (List.flatten (List.take x l))).2.1 ≤ 1073741824 ∧
  digest
  (run (taken (start, nilOf (BitVec 8), 0#64, true) (List.flatten (List.take x l))).1
  ((taken (start, nilOf (BitVec 8), 0#64, true) (List.flatten (List.take x l))).2.1 ++ pad (taken (start, nilOf (BitVec 8), 0#64, true) (List.flatten (List.take x l))).2.2.1)) =
  sha (List.flatten l)) := by
 refine ⟨⟨0, by omega, rfl, ?_⟩, fun i hi => ⟨fun hc => ?_, fun hc => ?_⟩⟩
 · simp [taken, run_small, rest_small]
 · simp only [ofN, decide_eq_true_eq, Int.ofNat_lt] at hc ⊢
   rw [Int.toNat_natCast]
   have hx : l.getD i (T.dflt (T.slc T.u8)) = l[i] := by simp [List.getD_eq_getElem?_getD, hc]
   have hlen : (l.take i).flatten.length + (l[i]).length ≤ 1073741824 := by
    have e : l.flatten = (l.take (i + 1)).flatten ++ (l.drop (i + 1)).flatten := by rw [← List.flatten_append, List.take_append_drop]
    rw [e, List.take_succ_eq_append_getElem hc, List.flatten_append, List.length_append, List.length_append] at h
    simp only [List.flatten_cons, List.flatten_nil, List.append_nil] at h
    omega
   have key : taken (taken (start, [], 0#64, true) (List.flatten (List.take i l))) (l[i]) = taken (start, [], 0#64, true) (List.flatten (List.take (i + 1) l)) := by
    rw [List.take_succ_eq_append_getElem hc]
    simp only [taken, List.nil_append, List.flatten_append, List.flatten_cons, List.flatten_nil, List.append_nil, List.length_append, BitVec.ofNat_add]
    rw [← run_append, ← rest_append]
    simp [BitVec.add_assoc]
   rw [hx]
   have hr := rest_length ([] ++ (l.take i).flatten)
   have hl63 : l.length ≤ 9223372036854775807 := hlim
   refine ⟨by unfold within; omega, ?_, by unfold inI64; omega, i + 1, by omega, by omega, by omega, ?_⟩
   · have hr' : (rest ([] ++ (l.take i).flatten)).length + (l[i]).length ≤ ROOM := by simp only [ROOM]; omega
     exact hr'
   · exact ⟨congrArg (·.1) key, congrArg (·.2.1) key, congrArg (·.2.2.1) key, congrArg (·.2.2.2) key⟩
 · simp only [ofN, decide_eq_false_iff_not, Int.ofNat_lt] at hc ⊢
   have : i = l.length := by omega
   subst this
   rw [List.take_of_length_le (Nat.le_refl _)]
   have hr := rest_length ([] ++ l.flatten)
   refine ⟨?_, ?_⟩
   · have hr' : (rest ([] ++ l.flatten)).length ≤ 1073741824 := by omega
     exact hr'
   simp only [taken, List.nil_append, BitVec.zero_add]
   rw [← run_append]
   rfl

theorem sha_Sum_spec : Vse.Spec P f_sha_Sum c_shaSum :=
 spec_fn (l := [(f_sha_New, c_New), (f_sha_Hash_take, c_take), (f_sha_Hash_end, c_end)]) ⟨sha_New_spec, sha_take_spec, sha_end_spec, trivial⟩ h_sha_Sum rfl rfl fun x h ok => body_ok (an_shaSum x.1) (sha_Sum_vc x.1 (got h) ok.1.1) (by kernel_rfl)

end Go.Sal
