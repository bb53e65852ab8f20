/- Contracts of package record, and of its reference, but for Parse. -/
import Derived.Test.YtogjeflhlnnbdaaWCRef03
import Derived.Test.YtogjeflhlnnbdaaWSalWord
set_option maxRecDepth 100000
namespace Go.Sal
open Go.Vse Go.Sal.Nm

def c_IsPath : PC := D [.str] [.bool] (fun _ => none) (fun x => (isPath x.1, ()))

def an_IsPath (s : Bytes) : Nat → SState → Option LoopAnn
 | 4, _ => some { X := Nat, slots := fun i => [(14, .sv (.dv (.i64 i)))], objs := fun _ => [], inv := fun i => i ≤ s.length ∧ (s.take i).all okChar = true, meas := fun i => s.length - i }
 | _, _ => none

theorem record_IsPath_vc (s : Bytes) (hl : s.length ≤ LIM) :
 ((decide (ofN (List.length s) < 1) || decide (255 < ofN (List.length s))) = true → false = isPath s) ∧
  ((decide (ofN (List.length s) < 1) || decide (255 < ofN (List.length s))) = false →
  (∃ (x : Nat), (x ≤ List.length s ∧ List.all (List.take x s) okChar = true) ∧ 0 = ofN x) ∧
  ∀ (x : Nat),
  x ≤ List.length s ∧ List.all (List.take x s) okChar = true →
  (decide (ofN x < ofN (List.length s)) = true →
  within (ofN x) (List.length s) ∧
  (decide (List.getD s (Int.toNat (ofN x)) 0#8 < 33#8) = false → within (ofN x) (List.length s)) ∧
  ((decide (List.getD s (Int.toNat (ofN x)) 0#8 < 33#8) || decide (126#8 < List.getD s (Int.toNat (ofN x)) 0#8)) = true → false = isPath s) ∧
  ((decide (List.getD s (Int.toNat (ofN x)) 0#8 < 33#8) || decide (126#8 < List.getD s (Int.toNat (ofN x)) 0#8)) = false →
  inI64 (ofN x + 1) ∧ ∃ (x' : Nat), (x' ≤ List.length s ∧ List.all (List.take x' s) okChar = true) ∧ List.length s - x' < List.length s - x ∧ ofN x + 1 = ofN x')) ∧
  (decide (ofN x < ofN (List.length s)) = false → true = isPath s)) := by
 have hl63 : s.length ≤ 9223372036854775807 := hl
 refine ⟨fun h => ?_, fun h => ⟨⟨0, ⟨by omega, by simp⟩, rfl⟩, fun i ⟨h1, h2⟩ => ⟨fun hc => ?_, fun hc => ?_⟩⟩⟩
 · simp only [ofN, Bool.or_eq_true, decide_eq_true_eq] at h
   unfold isPath
   rcases h with h | h
   · rw [decide_eq_false (by omega : ¬ 1 ≤ s.length)]; rfl
   · rw [decide_eq_false (by omega : ¬ s.length ≤ 255)]; simp
 · simp only [ofN, decide_eq_true_eq, Int.ofNat_lt, Int.toNat_natCast, Bool.or_eq_true, Bool.or_eq_false_iff, decide_eq_false_iff_not] at hc h ⊢
   have hx := all_take (p := okChar) (d := 0#8) hc
   rw [h2, Bool.true_and] at hx
   generalize s.getD i 0#8 = c at hx ⊢
   refine ⟨by unfold within; omega, fun _ => by unfold within; omega, fun g => ?_, fun g => ⟨by unfold inI64; omega, i + 1, ⟨by omega, ?_⟩, by omega, by omega⟩⟩
   · have hf : okChar c = false := by
       unfold okChar
       rcases g with g | g
       · have g : c.toNat < 33 := g
         rw [decide_eq_false (by omega : ¬ 33 ≤ c.toNat)]; rfl
       · have g : 126 < c.toNat := g
         rw [decide_eq_false (by omega : ¬ c.toNat ≤ 126)]; simp
     rw [hf] at hx
     unfold isPath
     rw [all_of_take (i + 1) hx]; simp
   · have g1 : ¬ c.toNat < 33 := g.1
     have g2 : ¬ 126 < c.toNat := g.2
     rw [hx]
     unfold okChar
     rw [decide_eq_true (by omega : 33 ≤ c.toNat), decide_eq_true (by omega : c.toNat ≤ 126)]; rfl
 · simp only [ofN, decide_eq_false_iff_not, Int.ofNat_lt, Bool.or_eq_false_iff] at hc h
   have : i = s.length := by omega
   subst this
   rw [List.take_of_length_le (Nat.le_refl _)] at h2
   unfold isPath
   rw [h2, decide_eq_true (by omega : 1 ≤ s.length), decide_eq_true (by omega : s.length ≤ 255)]; rfl

theorem record_IsPath_spec : Vse.Spec P f_record_IsPath c_IsPath :=
 spec_fn (l := []) trivial h_record_IsPath rfl rfl fun x _ ok => body_ok (an_IsPath x.1) (record_IsPath_vc x.1 ok.1) (by kernel_rfl)

def c_Size : PC := D [.slc T_Pie] [.i64, .i64] (fun _ => none) (fun x => ((sizeV x.1).1, (sizeV x.1).2, ()))

def an_Size (l : List Pie) : Nat → SState → Option LoopAnn
 | 5, _ => some { X := Nat, slots := fun i => [(4, .sv (.dv (.i64 (sumP (l.take i))))), (12, .sv (.dv (.i64 i)))], objs := fun _ => [], inv := fun i => i ≤ l.length ∧ (l.take i).all okPie = true ∧ sumP (l.take i) ≤ 1048576, meas := fun i => l.length - i }
 | _, _ => none

theorem record_Size_vc (l : List Pie) :
 (decide (4096 < ofN (List.length l)) = true → 0 = (sizeV l).1 ∧ 130 = (sizeV l).2) ∧
  (decide (4096 < ofN (List.length l)) = false →
  (∃ (x : Nat), (x ≤ List.length l ∧ List.all (List.take x l) okPie = true ∧ sumP (List.take x l) ≤ 1048576) ∧ 0 = sumP (List.take x l) ∧ 0 = ofN x) ∧
  ∀ (x : Nat),
  x ≤ List.length l ∧ List.all (List.take x l) okPie = true ∧ sumP (List.take x l) ≤ 1048576 →
  (decide (ofN x < ofN (List.length l)) = true →
  within (ofN x) (List.length l) ∧
  ((decide ((List.getD l (Int.toNat (ofN x)) (T.dflt (T.pair (T.arr 32 T.u8) T.i64))).2 < 1) ||
  decide (4096 < (List.getD l (Int.toNat (ofN x)) (T.dflt (T.pair (T.arr 32 T.u8) T.i64))).2)) =
  true →
  0 = (sizeV l).1 ∧ 130 = (sizeV l).2) ∧
  ((decide ((List.getD l (Int.toNat (ofN x)) (T.dflt (T.pair (T.arr 32 T.u8) T.i64))).2 < 1) ||
  decide (4096 < (List.getD l (Int.toNat (ofN x)) (T.dflt (T.pair (T.arr 32 T.u8) T.i64))).2)) =
  false →
  inI64 (sumP (List.take x l) + (List.getD l (Int.toNat (ofN x)) (T.dflt (T.pair (T.arr 32 T.u8) T.i64))).2) ∧
  (decide (1048576 < sumP (List.take x l) + (List.getD l (Int.toNat (ofN x)) (T.dflt (T.pair (T.arr 32 T.u8) T.i64))).2) = true → 0 = (sizeV l).1 ∧ 130 = (sizeV l).2) ∧
  (decide (1048576 < sumP (List.take x l) + (List.getD l (Int.toNat (ofN x)) (T.dflt (T.pair (T.arr 32 T.u8) T.i64))).2) = false →
  inI64 (ofN x + 1) ∧
  ∃ (x' : Nat),
  (x' ≤ List.length l ∧ List.all (List.take x' l) okPie = true ∧ sumP (List.take x' l) ≤ 1048576) ∧
  List.length l - x' < List.length l - x ∧
  sumP (List.take x l) + (List.getD l (Int.toNat (ofN x)) (T.dflt (T.pair (T.arr 32 T.u8) T.i64))).2 = sumP (List.take x' l) ∧ ofN x + 1 = ofN x'))) ∧
  (decide (ofN x < ofN (List.length l)) = false → sumP (List.take x l) = (sizeV l).1 ∧ 0 = (sizeV l).2)) := by
 refine ⟨fun h => ?_, fun h => ⟨⟨0, ⟨by omega, by simp, by simp [sumP]⟩, rfl, rfl⟩, fun i ⟨h1, h2, h3⟩ => ⟨fun hc => ?_, fun hc => ?_⟩⟩⟩
 · simp only [ofN, decide_eq_true_eq] at h
   rw [sizeV_bad (by omega)]; exact ⟨rfl, rfl⟩
 · simp only [ofN, decide_eq_true_eq, decide_eq_false_iff_not, Int.ofNat_lt, Int.toNat_natCast, Bool.or_eq_true, Bool.or_eq_false_iff] at hc h ⊢
   have hx := all_take (p := okPie) (d := T.dflt (T.pair (T.arr 32 T.u8) T.i64)) hc
   have hs : sumP (l.take (i + 1)) = sumP (l.take i) + (l.getD i (T.dflt (T.pair (T.arr 32 T.u8) T.i64))).2 := by
    rw [take_snoc' (d := T.dflt (T.pair (T.arr 32 T.u8) T.i64)) hc, sumP_append]; simp only [sumP]; omega
   have h0 := sumP_nonneg h2
   rw [h2, Bool.true_and] at hx
   generalize l.getD i (T.dflt (T.pair (T.arr 32 T.u8) T.i64)) = p at hx hs ⊢
   have hp : ∀ q : Int, q = p.2 → True := fun _ _ => trivial
   have hok : okPie p = (decide ((1 : Int) ≤ p.2) && decide ((4096 : Int) ≥ p.2)) := rfl
   refine ⟨by unfold within; omega, fun g => ?_, fun g => ⟨?_, fun g2 => ?_, fun g2 => ⟨by unfold inI64; omega, i + 1, ⟨by omega, ?_, ?_⟩, by omega, hs.symm, by omega⟩⟩⟩
   · have hf : okPie p = false := by
       rw [hok]
       rcases g with g | g
       · have g : (1 : Int) > p.2 := g
         rw [decide_eq_false (by omega)]; rfl
       · have g : (4096 : Int) < p.2 := g
         rw [decide_eq_false (by omega : ¬ (4096 : Int) ≥ p.2)]; simp
     rw [hf] at hx
     rw [sizeV_all (all_of_take (i + 1) hx)]; exact ⟨rfl, rfl⟩
   · have g1 : ¬ (1 : Int) > p.2 := g.1
     have g2 : ¬ (4096 : Int) < p.2 := g.2
     unfold inI64; omega
   · rw [sizeV_sum (i := i + 1) ?_]
     · exact ⟨rfl, rfl⟩
     · rw [hs]; exact g2
   · have g1 : ¬ (1 : Int) > p.2 := g.1
     have g2 : ¬ (4096 : Int) < p.2 := g.2
     rw [hx, hok, decide_eq_true (by omega), decide_eq_true (by omega : (4096 : Int) ≥ p.2)]; rfl
   · rw [hs]; have g2 : ¬ (1048576 : Int) < sumP (l.take i) + p.2 := g2; omega
 · simp only [ofN, decide_eq_false_iff_not, Int.ofNat_lt] at hc h
   have : i = l.length := by omega
   subst this
   rw [List.take_of_length_le (Nat.le_refl _)] at h2 h3 ⊢
   rw [sizeV, if_pos ⟨by omega, h2, h3⟩]; exact ⟨rfl, rfl⟩

theorem record_Size_spec : Vse.Spec P f_record_Size c_Size :=
 spec_fn (l := []) trivial h_record_Size rfl rfl fun x _ _ => body_ok (an_Size x.1) (record_Size_vc x.1) (by kernel_rfl)

def c_fits : PC := D [T_Rec] [.bool] (fun _ => none) (fun x => (fitsV x.1, ()))

theorem record_fits_vc (r : Rec) :
 ((r.2.2.2.1 == 1) = true → ((r.2.2.2.2.1 == 0 || r.2.2.2.2.1 == 1) && r.2.2.2.2.2.1 == List.map UInt8.toBitVec (nilOf UInt8) && ofN (List.length r.2.2.2.2.2.2) == 0) = fitsV r) ∧
  ((r.2.2.2.1 == 1) = false →
  ((r.2.2.2.1 == 3) = true →
  (decide (0 < ofN (List.length r.2.2.2.2.2.2)) = true → false = fitsV r) ∧
  (decide (0 < ofN (List.length r.2.2.2.2.2.2)) = false → (r.2.2.2.2.1 == 0 && isPath r.2.2.2.2.2.1 && (sizeV r.2.2.2.2.2.2).2 == 0) = fitsV r)) ∧
  ((r.2.2.2.1 == 3) = false → ((r.2.2.2.1 == 2) = true → (r.2.2.2.2.1 == 0 && isPath r.2.2.2.2.2.1 && (sizeV r.2.2.2.2.2.2).2 == 0) = fitsV r) ∧ ((r.2.2.2.1 == 2) = false → false = fitsV r))) := by
 have enil : List.map UInt8.toBitVec (nilOf UInt8) = ([] : Bytes) := rfl
 rw [enil]
 unfold fitsV
 simp only [beq_iff_eq, beq_eq_false_iff_ne, ne_eq, ofN, decide_eq_true_eq, decide_eq_false_iff_not]
 refine ⟨fun h1 => by rw [if_pos h1], fun h1 => ⟨fun h3 => ⟨fun hp => ?_, fun hp => ?_⟩, fun h3 => ⟨fun h2 => by rw [if_neg h1, if_neg h3, if_pos h2], fun h2 => by rw [if_neg h1, if_neg h3, if_neg h2]⟩⟩⟩
 · rw [if_neg h1, if_pos h3]
   have : (((r.2.2.2.2.2.2.length : Nat) : Int) == 0) = false := by simp; intro e; rw [e] at hp; simp at hp
   rw [this]; rfl
 · rw [if_neg h1, if_pos h3]
   have hl : r.2.2.2.2.2.2.length = 0 := by omega
   have e := List.eq_nil_of_length_eq_zero hl
   rw [e, sizeV_nil]; simp

theorem record_fits_spec : Vse.Spec P f_record_fits c_fits :=
 spec_fn (l := [(f_record_Size, c_Size), (f_record_IsPath, c_IsPath)]) ⟨record_Size_spec, record_IsPath_spec, trivial⟩ h_record_fits rfl rfl fun x _ _ => body_ok (an_none) (record_fits_vc x.1) (by kernel_rfl)

def c_Check : PC := D [T_Rec] [.i64] (fun _ => none) (fun x => (checkV x.1, ()))

theorem record_Check_vc (r : Rec) :
 ((decide (min r.1 r.2.1 < 1) || decide (1073741824 < r.1) || decide (1073741824 < r.2.1) || !fitsV (r.1, r.2.1, r.2.2.1, r.2.2.2.1, r.2.2.2.2.1, r.2.2.2.2.2.1, r.2.2.2.2.2.2)) = true →
  130 = checkV r) ∧
  ((decide (min r.1 r.2.1 < 1) || decide (1073741824 < r.1) || decide (1073741824 < r.2.1) || !fitsV (r.1, r.2.1, r.2.2.1, r.2.2.2.1, r.2.2.2.2.1, r.2.2.2.2.2.1, r.2.2.2.2.2.2)) = false →
  0 = checkV r) := by
 have er : (r.1, r.2.1, r.2.2.1, r.2.2.2.1, r.2.2.2.2.1, r.2.2.2.2.2.1, r.2.2.2.2.2.2) = r := rfl
 rw [er]
 obtain ⟨seq, epoch, rest⟩ := r
 have key : (decide (min seq epoch < (1 : Int)) || decide ((1073741824 : Int) < seq) || decide ((1073741824 : Int) < epoch) || !fitsV (seq, epoch, rest)) = !decide ((1 : Int) ≤ seq ∧ (1073741824 : Int) ≥ seq ∧ (1 : Int) ≤ epoch ∧ (1073741824 : Int) ≥ epoch ∧ fitsV (seq, epoch, rest) = true) := by
  cases fitsV (seq, epoch, rest) with
  | false => simp
  | true =>
    rw [Bool.eq_iff_iff]
    simp only [Bool.or_eq_true, decide_eq_true_eq, Bool.not_true, Bool.false_eq_true, or_false, Bool.not_eq_true', decide_eq_false_iff_not, and_true, Int.min_def]
    have a1 : ∀ a b : Int, ((if a ≤ b then a else b) < 1 ∨ 1073741824 < a) ∨ 1073741824 < b ↔ ¬ (1 ≤ a ∧ 1073741824 ≥ a ∧ 1 ≤ b ∧ 1073741824 ≥ b) := by
     intro a b; split <;> omega
    exact a1 seq epoch
 simp only
 rw [show (decide (min seq epoch < 1) || decide (1073741824 < seq) || decide (1073741824 < epoch) || !fitsV (seq, epoch, rest)) = _ from key]
 unfold checkV
 refine ⟨fun h => ?_, fun h => ?_⟩
 · simp only [Bool.not_eq_true', decide_eq_false_iff_not] at h
   rw [if_neg h]
 · simp only [Bool.not_eq_false', decide_eq_true_eq] at h
   rw [if_pos h]

theorem record_Check_spec : Vse.Spec P f_record_Check c_Check :=
 spec_fn (l := [(f_record_fits, c_fits)]) ⟨record_fits_spec, trivial⟩ h_record_Check rfl rfl fun x _ _ => body_ok (an_none) (record_Check_vc x.1) (by kernel_rfl)

def c_Bytes : PC := D [T_Rec] [.slc .u8, .i64] (fun _ => none) (fun x => ((bytesV x.1).1, (bytesV x.1).2, ()))

def an_Bytes (r : Rec) : Nat → SState → Option LoopAnn
 | 14, S => some { X := Nat, slots := fun i => [(5, .sv (.own 10 .u8 (pre r ++ ((r.2.2.2.2.2.2.take i).map pieBytes).flatten))), (65, .sv (.dv (.i64 i)))], objs := fun _ => [(x_tok S 5, .gone), (10, .tok t_uint8 1)], inv := fun i => i ≤ r.2.2.2.2.2.2.length, meas := fun i => r.2.2.2.2.2.2.length - i }
 | _, _ => none

theorem record_Bytes_vc (r : Rec) (hp : r.2.2.1.length = 32) (hd : ∀ p ∈ r.2.2.2.2.2.2, p.1.length = 32) :
 ((checkV (r.1, r.2.1, r.2.2.1, r.2.2.2.1, r.2.2.2.2.1, r.2.2.2.2.2.1, r.2.2.2.2.2.2) != 0) = true →
  nilOf (T.den T.u8) = (bytesV r).1 ∧ checkV (r.1, r.2.1, r.2.2.1, r.2.2.2.1, r.2.2.2.2.1, r.2.2.2.2.2.1, r.2.2.2.2.2.2) = (bytesV r).2) ∧
  ((checkV (r.1, r.2.1, r.2.2.1, r.2.2.2.1, r.2.2.2.2.1, r.2.2.2.2.2.1, r.2.2.2.2.2.2) != 0) = false →
  List.length [82#8, BitVec.ofInt 8 r.2.2.2.1] + List.length (varintN (BitVec.toNat (BitVec.ofInt 64 r.1))) ≤ ROOM ∧
  List.length ([82#8, BitVec.ofInt 8 r.2.2.2.1] ++ varintN (BitVec.toNat (BitVec.ofInt 64 r.1))) + List.length (varintN (BitVec.toNat (BitVec.ofInt 64 r.2.1))) ≤ ROOM ∧
  List.length ([82#8, BitVec.ofInt 8 r.2.2.2.1] ++ varintN (BitVec.toNat (BitVec.ofInt 64 r.1)) ++ varintN (BitVec.toNat (BitVec.ofInt 64 r.2.1))) +
  List.length (List.take 32 (List.drop 0 r.2.2.1)) ≤
  ROOM ∧
  ((r.2.2.2.1 == 1) = true →
  List.length ([82#8, BitVec.ofInt 8 r.2.2.2.1] ++ varintN (BitVec.toNat (BitVec.ofInt 64 r.1)) ++ varintN (BitVec.toNat (BitVec.ofInt 64 r.2.1)) ++ List.take 32 (List.drop 0 r.2.2.1)) +
  List.length [BitVec.ofInt 8 r.2.2.2.2.1] ≤
  ROOM ∧
  [82#8, BitVec.ofInt 8 r.2.2.2.1] ++ varintN (BitVec.toNat (BitVec.ofInt 64 r.1)) ++ varintN (BitVec.toNat (BitVec.ofInt 64 r.2.1)) ++ List.take 32 (List.drop 0 r.2.2.1) ++
  [BitVec.ofInt 8 r.2.2.2.2.1] =
  (bytesV r).1 ∧
  0 = (bytesV r).2) ∧
  ((r.2.2.2.1 == 1) = false →
  List.length ([82#8, BitVec.ofInt 8 r.2.2.2.1] ++ varintN (BitVec.toNat (BitVec.ofInt 64 r.1)) ++ varintN (BitVec.toNat (BitVec.ofInt 64 r.2.1)) ++ List.take 32 (List.drop 0 r.2.2.1)) +
  List.length [BitVec.ofInt 8 (ofN (List.length r.2.2.2.2.2.1))] ≤
  ROOM ∧
  List.length
  ([82#8, BitVec.ofInt 8 r.2.2.2.1] ++ varintN (BitVec.toNat (BitVec.ofInt 64 r.1)) ++ varintN (BitVec.toNat (BitVec.ofInt 64 r.2.1)) ++ List.take 32 (List.drop 0 r.2.2.1) ++
  [BitVec.ofInt 8 (ofN (List.length r.2.2.2.2.2.1))]) +
  List.length r.2.2.2.2.2.1 ≤
  ROOM ∧
  ((r.2.2.2.1 == 3) = true →
  [82#8, BitVec.ofInt 8 r.2.2.2.1] ++ varintN (BitVec.toNat (BitVec.ofInt 64 r.1)) ++ varintN (BitVec.toNat (BitVec.ofInt 64 r.2.1)) ++ List.take 32 (List.drop 0 r.2.2.1) ++
  [BitVec.ofInt 8 (ofN (List.length r.2.2.2.2.2.1))] ++
  r.2.2.2.2.2.1 =
  (bytesV r).1 ∧
  0 = (bytesV r).2) ∧
  ((r.2.2.2.1 == 3) = false →
  List.length
  ([82#8, BitVec.ofInt 8 r.2.2.2.1] ++ varintN (BitVec.toNat (BitVec.ofInt 64 r.1)) ++ varintN (BitVec.toNat (BitVec.ofInt 64 r.2.1)) ++
  List.take 32 (List.drop 0 r.2.2.1) ++
  [BitVec.ofInt 8 (ofN (List.length r.2.2.2.2.2.1))] ++
  r.2.2.2.2.2.1) +
  List.length (varintN (BitVec.toNat (BitVec.ofInt 64 (ofN (List.length r.2.2.2.2.2.2))))) ≤
  ROOM ∧
  (∃ (x : Nat),
  x ≤ List.length r.2.2.2.2.2.2 ∧
  [82#8, BitVec.ofInt 8 r.2.2.2.1] ++ varintN (BitVec.toNat (BitVec.ofInt 64 r.1)) ++ varintN (BitVec.toNat (BitVec.ofInt 64 r.2.1)) ++
  List.take 32 (List.drop 0 r.2.2.1) ++
  [BitVec.ofInt 8 (ofN (List.length r.2.2.2.2.2.1))] ++
  r.2.2.2.2.2.1 ++
  varintN (BitVec.toNat (BitVec.ofInt 64 (ofN (List.length r.2.2.2.2.2.2)))) =
  pre r ++ List.flatten (List.map pieBytes (List.take x r.2.2.2.2.2.2)) ∧
  0 = ofN x) ∧
  ∀ (x : Nat),
  x ≤ List.length r.2.2.2.2.2.2 →
  (decide (ofN x < ofN (List.length r.2.2.2.2.2.2)) = true →
  within (ofN x) (List.length r.2.2.2.2.2.2) ∧
  List.length (pre r ++ List.flatten (List.map pieBytes (List.take x r.2.2.2.2.2.2))) +
  List.length (varintN (BitVec.toNat (BitVec.ofInt 64 (List.getD r.2.2.2.2.2.2 (Int.toNat (ofN x)) (T.dflt (T.pair (T.arr 32 T.u8) T.i64))).2))) ≤
  ROOM ∧
  List.length
  (pre r ++ List.flatten (List.map pieBytes (List.take x r.2.2.2.2.2.2)) ++
  varintN (BitVec.toNat (BitVec.ofInt 64 (List.getD r.2.2.2.2.2.2 (Int.toNat (ofN x)) (T.dflt (T.pair (T.arr 32 T.u8) T.i64))).2))) +
  List.length (List.take 32 (List.drop 0 (List.getD r.2.2.2.2.2.2 (Int.toNat (ofN x)) (T.dflt (T.pair (T.arr 32 T.u8) T.i64))).1)) ≤
  ROOM ∧
  inI64 (ofN x + 1) ∧
  ∃ (x' : Nat),
  x' ≤ List.length r.2.2.2.2.2.2 ∧
  List.length r.2.2.2.2.2.2 - x' < List.length r.2.2.2.2.2.2 - x ∧
  pre r ++ List.flatten (List.map pieBytes (List.take x r.2.2.2.2.2.2)) ++
  varintN (BitVec.toNat (BitVec.ofInt 64 (List.getD r.2.2.2.2.2.2 (Int.toNat (ofN x)) (T.dflt (T.pair (T.arr 32 T.u8) T.i64))).2)) ++
  List.take 32 (List.drop 0 (List.getD r.2.2.2.2.2.2 (Int.toNat (ofN x)) (T.dflt (T.pair (T.arr 32 T.u8) T.i64))).1) =
  pre r ++ List.flatten (List.map pieBytes (List.take x' r.2.2.2.2.2.2)) ∧
  ofN x + 1 = ofN x') ∧
  (decide (ofN x < ofN (List.length r.2.2.2.2.2.2)) = false → pre r ++ List.flatten (List.map pieBytes (List.take x r.2.2.2.2.2.2)) = (bytesV r).1 ∧ 0 = (bytesV r).2)))) := by
 have er : (r.1, r.2.1, r.2.2.1, r.2.2.2.1, r.2.2.2.2.1, r.2.2.2.2.2.1, r.2.2.2.2.2.2) = r := rfl
 rw [er]
 have R : ROOM = 4294967296 := rfl
 refine ⟨fun h => ?_, fun h => ?_⟩
 · have h : ¬ checkV r = 0 := by simpa using h
   rw [bytesV_bad h]; exact ⟨rfl, rfl⟩
 have h : checkV r = 0 := by simpa using h
 rw [bytesV_ok h]
 obtain ⟨c1, c2, c3, c4, c5⟩ := check_ok h
 obtain ⟨f0, f1, f2, f3⟩ := fits_parts c5
 have a1 := vlen r.1.toNat (by omega)
 have a2 := vlen r.2.1.toNat (by omega)
 have a3 := vlen r.2.2.2.2.2.2.length (by omega)
 have e1 : (BitVec.ofInt 64 r.1).toNat = r.1.toNat := toNat64 (by omega) (by omega)
 have e2 : (BitVec.ofInt 64 r.2.1).toNat = r.2.1.toNat := toNat64 (by omega) (by omega)
 have e3 : (BitVec.ofInt 64 (ofN r.2.2.2.2.2.2.length)).toNat = r.2.2.2.2.2.2.length := by rw [toNat64 (by simp only [ofN]; omega) (by simp only [ofN]; omega)]; simp [ofN]
 have e4 : List.take 32 (List.drop 0 r.2.2.1) = r.2.2.1 := by rw [List.drop_zero, List.take_of_length_le (by omega)]
 rw [e1, e2, e3, e4]
 have hh := head_len h hp
 have ehead : [82#8, BitVec.ofInt 8 r.2.2.2.1] ++ varintN r.1.toNat ++ varintN r.2.1.toNat ++ r.2.2.1 = headBytes r := rfl
 rw [ehead]
 have epre : headBytes r ++ [BitVec.ofInt 8 (ofN r.2.2.2.2.2.1.length)] ++ r.2.2.2.2.2.1 ++ varintN r.2.2.2.2.2.2.length = pre r := rfl
 refine ⟨by simp only [List.length_cons, List.length_nil]; omega, by simp only [List.length_append, List.length_cons, List.length_nil]; omega, by simp only [List.length_append, List.length_cons, List.length_nil, hp]; omega, fun k1 => ?_, fun k1 => ?_⟩
 · have k1 : r.2.2.2.1 = (1 : Int) := by simpa using k1
   refine ⟨by simp only [List.length_cons, List.length_nil]; omega, ?_, rfl⟩
   unfold recBytes; rw [if_pos k1]
 have k1 : ¬ r.2.2.2.1 = (1 : Int) := by simpa using k1
 have hpath := f1 k1
 have hpre := pre_len h hp k1
 refine ⟨by simp only [List.length_cons, List.length_nil]; omega, by simp only [List.length_append, List.length_cons, List.length_nil]; omega, fun k3 => ?_, fun k3 => ?_⟩
 · have k3 : r.2.2.2.1 = (3 : Int) := by simpa using k3
   refine ⟨?_, rfl⟩
   unfold recBytes; rw [if_neg k1, if_pos k3]
 · have k3 : ¬ r.2.2.2.1 = (3 : Int) := by simpa using k3
   rw [epre]
   refine ⟨by simp only [List.length_append, List.length_cons, List.length_nil]; omega, ⟨0, by omega, by simp, rfl⟩, fun i hi => ⟨fun hc => ?_, fun hc => ?_⟩⟩
   · simp only [ofN, decide_eq_true_eq, Int.ofNat_lt, Int.toNat_natCast] at hc ⊢
     have ht := take_pies hc (T.dflt (T.pair (T.arr 32 T.u8) T.i64))
     have hpl := pies_len (l := r.2.2.2.2.2.2.take i) (by
      have := f3
      rw [← List.take_append_drop i r.2.2.2.2.2.2, List.all_append, Bool.and_eq_true] at this
      exact this.1) (fun p hp => hd p (List.mem_of_mem_take hp))
     have hti : (r.2.2.2.2.2.2.take i).length = i := by simp; omega
     rw [hti] at hpl
     have hpm : r.2.2.2.2.2.2.getD i (T.dflt (T.pair (T.arr 32 T.u8) T.i64)) ∈ r.2.2.2.2.2.2 := by rw [getD_lt hc]; exact List.getElem_mem _
     have hpo := List.all_eq_true.1 f3 _ hpm
     have hp32 := hd _ hpm
     generalize r.2.2.2.2.2.2.getD i (T.dflt (T.pair (T.arr 32 T.u8) T.i64)) = p at ht hpo hp32 ⊢
     obtain ⟨p1, p2⟩ := pie_ok hpo
     have ep : (BitVec.ofInt 64 p.2).toNat = p.2.toNat := toNat64 (by omega) (by omega)
     have e5 : List.take 32 (List.drop 0 p.1) = p.1 := by rw [List.drop_zero, List.take_of_length_le (by omega)]
     have ev := vlen p.2.toNat (by omega)
     rw [ep, e5]
     refine ⟨by unfold within; omega, by simp only [List.length_append]; omega, by simp only [List.length_append]; omega, by unfold inI64; omega, i + 1, by omega, by omega, ?_, by omega⟩
     rw [ht]; unfold pieBytes; simp only [List.append_assoc]
   · simp only [ofN, decide_eq_false_iff_not, Int.ofNat_lt] at hc
     have : i = r.2.2.2.2.2.2.length := by omega
     subst this
     rw [List.take_of_length_le (Nat.le_refl _)]
     refine ⟨?_, rfl⟩
     unfold recBytes
     rw [if_neg k1, if_neg k3]
     rfl

theorem record_Bytes_spec : Vse.Spec P f_record_Bytes c_Bytes :=
 spec_fn (l := [(f_record_Check, c_Check), (f_word_Varint, c_Varint)]) ⟨record_Check_spec, word_Varint_spec, trivial⟩ h_record_Bytes rfl rfl
  fun x _ ok => body_ok (an_Bytes x.1) (record_Bytes_vc x.1 ok.1.2.2.1.1 (fun p hp => (ok.1.2.2.2.2.2.2.2 p hp).1.1)) (by kernel_rfl)

end Go.Sal
