/- Contracts of mac and of ref04: MACs. -/
import Derived.Test.YtmebmabepifjaaaQCRec
import Derived.Test.YtmebmabepifjaaaQSalMac
set_option maxRecDepth 100000
namespace Go.Sal
open Go.Vse Go.Sal.Nm

def c_macOf : PC := D [.slc .u8] [.arr 64 .u8] (fun x => some (x.1.length ≤ 1073741824)) (fun x => (blkV x.1, ()))

theorem mac_of_vc (key : Bytes) (h : key.length ≤ 1073741824) :
    (decide (64 < ofN (List.length key)) = true →
        List.length (List.flatten [key]) ≤ 1073741824 ∧ spliceL (List.replicate 64 0#8) (List.take 64 (List.take 32 (List.drop 0 (sha (List.flatten [key]))))) 0 = blkV key) ∧
      (decide (64 < ofN (List.length key)) = false → spliceL (List.replicate 64 0#8) (List.take 64 key) 0 = blkV key) := by
  have sp : ∀ k : Bytes, k.length ≤ 64 → spliceL (List.replicate 64 0#8) (List.take 64 k) 0 = k ++ List.replicate (64 - k.length) 0#8 := fun k hk => by
    unfold spliceL
    rw [List.take_of_length_le hk, List.take_zero, List.nil_append, Nat.zero_add, List.drop_replicate]
  refine ⟨fun g => ?_, fun g => ?_⟩
  · have g := of_decide_eq_true g
    have g : 64 < key.length := by unfold ofN at g; omega
    have e : List.flatten [key] = key := by simp
    have e2 : List.take 32 (List.drop 0 (sha key)) = sha key := by rw [List.drop_zero, List.take_of_length_le (by rw [sha_length]; omega)]
    rw [e, e2, sp _ (by rw [sha_length]; omega)]
    refine ⟨h, ?_⟩
    unfold blkV keyV
    rw [if_pos g]
  · have g := of_decide_eq_false g
    have g : ¬ 64 < key.length := by unfold ofN at g; omega
    rw [sp _ (by omega)]
    unfold blkV keyV
    rw [if_neg g]

def c_with : PC := D [.arr 64 .u8, .u8] [.slc .u8] (fun _ => none) (fun x => (xorV x.1 x.2.1, ()))

def an_with (b : Bytes) (m : B8) : Nat → SState → Option LoopAnn
  | 2, S => some { X := Nat, slots := fun i => [(6, .sv (.dv (.i64 i)))], objs := fun i => [(x_labAt S 2, .cells [.run (.many .u8 64 (mixV b m i))] false)], inv := fun i => i ≤ 64, meas := fun i => 64 - i }
  | _, _ => none

theorem mac_with_vc (b : Bytes) (m : B8) (h : b.length = 64) :
    (∃ (x : Nat), x ≤ 64 ∧ 0 = ofN x ∧ b = mixV b m x) ∧
      ∀ (x : Nat),
        x ≤ 64 →
          (decide (ofN x < 64) = true →
              within (ofN x) 64 ∧
                within (ofN x) 64 ∧
                  inI64 (ofN x + 1) ∧
                    ∃ (x' : Nat), x' ≤ 64 ∧ 64 - x' < 64 - x ∧ ofN x + 1 = ofN x' ∧ List.set (mixV b m x) (Int.toNat (ofN x)) (List.getD (mixV b m x) (Int.toNat (ofN x)) 0#8 ^^^ m) = mixV b m x') ∧
            (decide (ofN x < 64) = false → List.take 64 (List.drop 0 (mixV b m x)) = xorV b m) := by
  refine ⟨⟨0, by omega, rfl, (mixV_zero b m).symm⟩, fun x hx => ⟨fun hc => ?_, fun hc => ?_⟩⟩
  · have hc := of_decide_eq_true hc
    have hc : x < 64 := by unfold ofN at hc; omega
    have w1 : within (ofN x) 64 := by unfold within ofN; omega
    exact ⟨w1, w1, by unfold inI64 ofN; omega, x + 1, by omega, by omega, by unfold ofN; omega, mixV_set (by omega)⟩
  · have hc := of_decide_eq_false hc
    have hc : x = b.length := by unfold ofN at hc; omega
    rw [hc, mixV_all, List.drop_zero, List.take_of_length_le (by rw [xorV_len]; omega)]

def c_macSum : PC := D [.slc .u8, .slc (.slc .u8)] [T_Dig] (fun x => some (x.1.length ≤ 1000000 ∧ x.2.1.flatten.length ≤ 1000000 ∧ x.2.1.length ≤ 1000000)) (fun x => (macV x.1 x.2.1.flatten, ()))

theorem mac_Sum_vc (key : Bytes) (parts : List Bytes) (h : key.length ≤ 1000000) (h2 : parts.flatten.length ≤ 1000000) (h3 : parts.length ≤ 1000000) :
    List.length key ≤ 1073741824 ∧
      List.length [xorV (blkV key) 54#8] + List.length parts ≤ ROOM ∧
        List.length (List.flatten ([xorV (blkV key) 54#8] ++ parts)) ≤ 1073741824 ∧
          List.length (List.flatten [xorV (blkV key) 92#8, List.take 32 (List.drop 0 (sha (List.flatten ([xorV (blkV key) 54#8] ++ parts))))]) ≤ 1073741824 ∧
            sha (List.flatten [xorV (blkV key) 92#8, List.take 32 (List.drop 0 (sha (List.flatten ([xorV (blkV key) 54#8] ++ parts))))]) = macV key (List.flatten parts) := by
  have e1 : List.flatten ([xorV (blkV key) 54#8] ++ parts) = xorV (blkV key) 54#8 ++ parts.flatten := by simp
  have e2 : ∀ z : Bytes, List.take 32 (List.drop 0 (sha z)) = sha z := fun z => by rw [List.drop_zero, List.take_of_length_le (by rw [sha_length]; omega)]
  have e3 : ∀ x y : Bytes, List.flatten [x, y] = x ++ y := fun x y => by simp
  rw [e1, e2, e3]
  refine ⟨by omega, ?_, ?_, ?_, rfl⟩
  · simp only [List.length_cons, List.length_nil]; unfold ROOM; omega
  · rw [List.length_append, xorV_len, blkV_len]; omega
  · rw [List.length_append, xorV_len, blkV_len, sha_length]; omega

def c_Derive : PC := D [.slc .u8, .str, .u64] [T_Dig] (fun x => some (x.1.length ≤ 1000000 ∧ x.2.1.length ≤ 1000)) (fun x => (deriveV x.1 x.2.1 x.2.2.1, ()))

theorem mac_Derive_vc (key purpose : Bytes) (n : BitVec 64) (h : key.length ≤ 1000000) (h2 : purpose.length ≤ 1000) :
    ((ofN 64 = 64 ∨ ofN 64 = 32) ∧ ofN 1 = 1) ∧
      List.length purpose ≤ ROOM ∧
        (List.length key ≤ 1000000 ∧ List.length (List.flatten [purpose, [0#8], beBytes n (Int.toNat 8)]) ≤ 1000000 ∧ List.length [purpose, [0#8], beBytes n (Int.toNat 8)] ≤ 1000000) ∧
          macV key (List.flatten [purpose, [0#8], beBytes n (Int.toNat 8)]) = deriveV key purpose n := by
  have e : List.flatten [purpose, [0#8], beBytes n (Int.toNat 8)] = purpose ++ [0#8] ++ beBytes n 8 := by
    simp
  rw [e]
  refine ⟨⟨.inl rfl, rfl⟩, by unfold ROOM; omega, ⟨h, ?_, by simp⟩, rfl⟩
  rw [List.length_append, List.length_append, beBytes_length]
  simp only [List.length_cons, List.length_nil]; omega

def c_macSame : PC := D [T_Dig, T_Dig] [.bool] (fun _ => none) (fun x => (alikeV x.1 x.2.1, ()))

def an_macSame (a b : Bytes) : Nat → SState → Option LoopAnn
  | 3, _ => some { X := Nat × B8, slots := fun y => [(5, .sv (.dv (.u8 y.2))), (7, .sv (.dv (.i64 y.1)))], objs := fun _ => [], inv := fun y => y.1 ≤ 32 ∧ (y.2 = 0#8 ↔ a.take y.1 = b.take y.1), meas := fun y => 32 - y.1 }
  | _, _ => none

theorem mac_Same_vc (a b : Bytes) (ha : a.length = 32) (hb : b.length = 32) :
    (∃ (x : Nat × BitVec 8), (x.1 ≤ 32 ∧ (x.2 = 0#8 ↔ List.take x.1 a = List.take x.1 b)) ∧ 0#8 = x.2 ∧ 0 = ofN x.1) ∧
      ∀ (x : Nat × BitVec 8),
        x.1 ≤ 32 ∧ (x.2 = 0#8 ↔ List.take x.1 a = List.take x.1 b) →
          (decide (ofN x.1 < 32) = true →
              within (ofN x.1) 32 ∧
                within (ofN x.1) 32 ∧
                  inI64 (ofN x.1 + 1) ∧
                    ∃ (x' : Nat × BitVec 8),
                      (x'.1 ≤ 32 ∧ (x'.2 = 0#8 ↔ List.take x'.1 a = List.take x'.1 b)) ∧
                        32 - x'.1 < 32 - x.1 ∧ x.2 ||| List.getD a (Int.toNat (ofN x.1)) 0#8 ^^^ List.getD b (Int.toNat (ofN x.1)) 0#8 = x'.2 ∧ ofN x.1 + 1 = ofN x'.1) ∧
            (decide (ofN x.1 < 32) = false → (x.2 == 0#8) = alikeV a b) := by
  refine ⟨⟨(0, 0#8), ⟨by omega, by simp⟩, rfl, rfl⟩, fun x ⟨h1, h2⟩ => ⟨fun hc => ?_, fun hc => ?_⟩⟩
  · have hc := of_decide_eq_true hc
    have hc : x.1 < 32 := by unfold ofN at hc; omega
    have w1 : within (ofN x.1) 32 := by unfold within ofN; omega
    refine ⟨w1, w1, by unfold inI64 ofN; omega, (x.1 + 1, _), ⟨hc, ?_⟩, ?_, rfl, ?_⟩
    · show x.2 ||| (List.getD a x.1 0#8 ^^^ List.getD b x.1 0#8) = 0#8 ↔ a.take (x.1 + 1) = b.take (x.1 + 1)
      rw [or_zero, h2, take_snoc' (l := a) (i := x.1) (d := 0#8) (by omega), take_snoc' (l := b) (i := x.1) (d := 0#8) (by omega)]
      constructor
      · rintro ⟨e1, e2⟩; rw [e1, e2]
      · intro e
        have := List.append_inj e (by rw [List.length_take, List.length_take]; omega)
        exact ⟨this.1, by simpa using this.2⟩
    · show 32 - (x.1 + 1) < 32 - x.1
      omega
    · show ofN x.1 + 1 = ofN (x.1 + 1)
      unfold ofN; omega
  · have hc := of_decide_eq_false hc
    have hc : x.1 = 32 := by unfold ofN at hc; omega
    rw [hc, List.take_of_length_le (by omega), List.take_of_length_le (by omega)] at h2
    unfold alikeV
    rw [Bool.eq_iff_iff]
    simp only [beq_iff_eq]
    exact h2

theorem mac_of_spec : Vse.Spec P f_mac_of c_macOf :=
  spec_fn (l := [(f_sha_Sum, c_shaSum)]) ⟨sha_Sum_spec, trivial⟩ h_mac_of rfl rfl fun x h _ => body_ok an_none (mac_of_vc x.1 (got h)) (by kernel_rfl)

theorem mac_with_spec : Vse.Spec P f_mac_block_with c_with :=
  spec_fn (l := []) trivial h_mac_block_with rfl rfl fun x _ ok => body_ok (an_with x.1 x.2.1) (mac_with_vc x.1 x.2.1 ok.1.1) (by kernel_rfl)

theorem mac_Sum_spec : Vse.Spec P f_mac_Sum c_macSum :=
  spec_fn (l := [(f_mac_of, c_macOf), (f_mac_block_with, c_with), (f_sha_Sum, c_shaSum)]) ⟨mac_of_spec, mac_with_spec, sha_Sum_spec, trivial⟩ h_mac_Sum rfl rfl
    fun x h _ => body_ok an_none (mac_Sum_vc x.1 x.2.1 (got h).1 (got h).2.1 (got h).2.2) (by kernel_rfl)

theorem mac_Derive_spec : Vse.Spec P f_mac_Derive c_Derive :=
  spec_fn (l := [(f_word_Bytes, c_wBytes), (f_mac_Sum, c_macSum)]) ⟨word_Bytes_spec, mac_Sum_spec, trivial⟩ h_mac_Derive rfl rfl
    fun x h _ => body_ok an_none (mac_Derive_vc x.1 x.2.1 x.2.2.1 (got h).1 (got h).2) (by kernel_rfl)

theorem mac_Same_spec : Vse.Spec P f_mac_Same c_macSame :=
  spec_fn (l := []) trivial h_mac_Same rfl rfl fun x _ ok => body_ok (an_macSame x.1 x.2.1) (mac_Same_vc x.1 x.2.1 ok.1.1 ok.2.1.1) (by kernel_rfl)

end Go.Sal
