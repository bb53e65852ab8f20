/- Contracts of ref04: MACs. -/
import Derived.Test.YtmebmabepifjaaaQCMac
set_option maxRecDepth 100000
namespace Go.Sal
open Go.Vse Go.Sal.Nm

def c_rblock : PC := D [.slc .u8] [.slc .u8] (fun x => some (x.1.length ≤ 1073741824)) (fun x => (blkV x.1, ()))

def an_rblock (key : Bytes) : Nat → SState → Option LoopAnn
  | 5, S => some { X := Bytes, slots := fun y => [(3, .sv (.own 10 .u8 y))], objs := fun _ => [(x_tok S 3, .gone), (10, .tok t_uint8 1)], inv := fun y => y.length ≤ 64 ∧ y ++ List.replicate (64 - y.length) 0#8 = blkV key, meas := fun y => 64 - y.length }
  | _, _ => none

theorem ref04_block_vc (key : Bytes) (h : key.length ≤ 1073741824) :
    List.length (nilOf (T.den T.u8)) + List.length key ≤ ROOM ∧
      (decide (64 < ofN (List.length key)) = true →
          List.length key ≤ 1073741824 ∧
            List.length (nilOf (T.den T.u8)) + List.length (List.take 32 (List.drop 0 (sha key))) ≤ ROOM ∧
              (∃ (x : List (BitVec 8)), (List.length x ≤ 64 ∧ x ++ List.replicate (64 - List.length x) 0#8 = blkV key) ∧ nilOf (BitVec 8) ++ List.take 32 (List.drop 0 (sha key)) = x) ∧
                ∀ (x : List (BitVec 8)),
                  List.length x ≤ 64 ∧ x ++ List.replicate (64 - List.length x) 0#8 = blkV key →
                    (decide (ofN (List.length x) < 64) = true →
                        List.length x + List.length [0#8] ≤ ROOM ∧
                          ∃ (x' : List (BitVec 8)), (List.length x' ≤ 64 ∧ x' ++ List.replicate (64 - List.length x') 0#8 = blkV key) ∧ 64 - List.length x' < 64 - List.length x ∧ x ++ [0#8] = x') ∧
                      (decide (ofN (List.length x) < 64) = false → x = blkV key)) ∧
        (decide (64 < ofN (List.length key)) = false →
          (∃ (x : List (BitVec 8)), (List.length x ≤ 64 ∧ x ++ List.replicate (64 - List.length x) 0#8 = blkV key) ∧ nilOf (BitVec 8) ++ key = x) ∧
            ∀ (x : List (BitVec 8)),
              List.length x ≤ 64 ∧ x ++ List.replicate (64 - List.length x) 0#8 = blkV key →
                (decide (ofN (List.length x) < 64) = true →
                    List.length x + List.length [0#8] ≤ ROOM ∧
                      ∃ (x' : List (BitVec 8)), (List.length x' ≤ 64 ∧ x' ++ List.replicate (64 - List.length x') 0#8 = blkV key) ∧ 64 - List.length x' < 64 - List.length x ∧ x ++ [0#8] = x') ∧
                  (decide (ofN (List.length x) < 64) = false → x = blkV key)) := by
  have kl := keyV_len key
  have lp : ∀ y : Bytes, (y.length ≤ 64 ∧ y ++ List.replicate (64 - y.length) 0#8 = blkV key) →
      (decide (ofN y.length < 64) = true → y.length + List.length [0#8] ≤ ROOM ∧ ∃ (x' : List (BitVec 8)), (x'.length ≤ 64 ∧ x' ++ List.replicate (64 - x'.length) 0#8 = blkV key) ∧ 64 - x'.length < 64 - y.length ∧ y ++ [0#8] = x') ∧
      (decide (ofN y.length < 64) = false → y = blkV key) := fun y ⟨h1, h2⟩ => by
    refine ⟨fun hc => ?_, fun hc => ?_⟩
    · have hc := of_decide_eq_true hc
      have hc : y.length < 64 := by unfold ofN at hc; omega
      refine ⟨by simp only [List.length_cons, List.length_nil]; unfold ROOM; omega, y ++ [0#8], ⟨by simp; omega, ?_⟩, by simp; omega, rfl⟩
      rw [← h2, List.append_assoc]
      congr 1
      obtain ⟨j, hj⟩ : ∃ j, 64 - y.length = j + 1 := ⟨63 - y.length, by omega⟩
      have hj2 : 64 - (y ++ [0#8]).length = j := by simp; omega
      rw [hj, hj2, List.replicate_succ]; rfl
    · have hc := of_decide_eq_false hc
      have hc : y.length = 64 := by unfold ofN at hc; omega
      rw [hc] at h2
      simpa using h2
  have e2 : List.take 32 (List.drop 0 (sha key)) = sha key := by rw [List.drop_zero, List.take_of_length_le (by rw [sha_length]; omega)]
  rw [e2]
  refine ⟨by unfold nilOf ROOM; simp; omega, fun g => ⟨h, by unfold nilOf ROOM; rw [sha_length]; simp, ⟨sha key, ⟨by rw [sha_length]; omega, ?_⟩, rfl⟩, lp⟩, fun g => ⟨⟨key, ⟨?_, ?_⟩, rfl⟩, lp⟩⟩
  · have g := of_decide_eq_true g
    have g : 64 < key.length := by unfold ofN at g; omega
    unfold blkV keyV
    rw [if_pos g]
  · have g := of_decide_eq_false g
    unfold ofN at g; omega
  · have g := of_decide_eq_false g
    have g : ¬ 64 < key.length := by unfold ofN at g; omega
    unfold blkV keyV
    rw [if_neg g]

def c_xored : PC := D [.slc .u8, .u8] [.slc .u8] (fun x => some (x.1.length ≤ 1073741824)) (fun x => (xorV x.1 x.2.1, ()))

def an_xored (b : Bytes) (m : B8) : Nat → SState → Option LoopAnn
  | 3, S => some { X := Nat, slots := fun i => [(5, .sv (.own 10 .u8 ((xorV b m).take i))), (6, .sv (.dv (.i64 i)))], objs := fun _ => [(x_tok S 5, .gone), (10, .tok t_uint8 1)], inv := fun i => i ≤ b.length, meas := fun i => b.length - i }
  | _, _ => none

theorem ref04_xored_vc (b : Bytes) (m : B8) (h : b.length ≤ 1073741824) :
    (∃ (x : Nat), x ≤ List.length b ∧ List.take x (xorV b m) = nilOf (T.den T.u8) ∧ 0 = ofN x) ∧
      ∀ (x : Nat),
        x ≤ List.length b →
          (decide (ofN x < ofN (List.length b)) = true →
              within (ofN x) (List.length b) ∧
                List.length (List.take x (xorV b m)) + List.length [List.getD b (Int.toNat (ofN x)) 0#8 ^^^ m] ≤ ROOM ∧
                  inI64 (ofN x + 1) ∧
                    ∃ (x' : Nat),
                      x' ≤ List.length b ∧ List.length b - x' < List.length b - x ∧ List.take x (xorV b m) ++ [List.getD b (Int.toNat (ofN x)) 0#8 ^^^ m] = List.take x' (xorV b m) ∧ ofN x + 1 = ofN x') ∧
            (decide (ofN x < ofN (List.length b)) = false → List.take x (xorV b m) = xorV b m) := by
  have hl := xorV_len b m
  refine ⟨⟨0, by omega, rfl, rfl⟩, fun x hx => ⟨fun hc => ?_, fun hc => ?_⟩⟩
  · have hc := of_decide_eq_true hc
    have hc : x < b.length := by unfold ofN at hc; omega
    refine ⟨by unfold within ofN; omega, by rw [List.length_take]; simp only [List.length_cons, List.length_nil]; unfold ROOM; omega, by unfold inI64 ofN; omega, x + 1, by omega, by omega, (xorV_take hc).symm, by unfold ofN; omega⟩
  · have hc := of_decide_eq_false hc
    have hc : x = b.length := by unfold ofN at hc; omega
    rw [hc]
    exact List.take_of_length_le (by omega)

theorem ref04_Sum_vc (key : Bytes) (parts : List Bytes) (h : key.length ≤ 1000000) (h2 : parts.flatten.length ≤ 1000000) (h3 : parts.length ≤ 1000000) :
    List.length key ≤ 1073741824 ∧
      List.length (blkV key) ≤ 1073741824 ∧
        List.length [xorV (blkV key) 54#8] + List.length parts ≤ ROOM ∧
          List.length (List.flatten ([xorV (blkV key) 54#8] ++ parts)) ≤ 1073741824 ∧
            List.length (blkV key) ≤ 1073741824 ∧
              List.length (List.flatten [xorV (blkV key) 92#8, List.take 32 (List.drop 0 (sha (List.flatten ([xorV (blkV key) 54#8] ++ parts))))]) ≤ 1073741824 ∧
                sha (List.flatten [xorV (blkV key) 92#8, List.take 32 (List.drop 0 (sha (List.flatten ([xorV (blkV key) 54#8] ++ parts))))]) = macV key (List.flatten parts) := by
  have e1 : List.flatten ([xorV (blkV key) 54#8] ++ parts) = xorV (blkV key) 54#8 ++ parts.flatten := by simp
  have e2 : ∀ z : Bytes, List.take 32 (List.drop 0 (sha z)) = sha z := fun z => by rw [List.drop_zero, List.take_of_length_le (by rw [sha_length]; omega)]
  have e3 : ∀ x y : Bytes, List.flatten [x, y] = x ++ y := fun x y => by simp
  rw [e1, e2, e3, blkV_len]
  refine ⟨by omega, by omega, ?_, ?_, by omega, ?_, rfl⟩
  · simp only [List.length_cons, List.length_nil]; unfold ROOM; omega
  · rw [List.length_append, xorV_len, blkV_len]; omega
  · rw [List.length_append, xorV_len, blkV_len, sha_length]; omega

def c_r4Of : PC := D [.slc .u8, .slc .u8] [T_Dig] (fun x => some (x.1.length ≤ 1000000 ∧ x.2.1.length ≤ 1000000)) (fun x => (macV x.1 x.2.1, ()))

theorem ref04_Of_vc (key b : Bytes) (h : key.length ≤ 1000000) (h2 : b.length ≤ 1000000) :
    (List.length key ≤ 1000000 ∧ List.length (List.flatten [b]) ≤ 1000000 ∧ List.length [b] ≤ 1000000) ∧ macV key (List.flatten [b]) = macV key b := by
  have e : List.flatten [b] = b := by simp
  rw [e]
  exact ⟨⟨h, h2, by simp⟩, rfl⟩

def an_rDerive (purpose : Bytes) (n : BitVec 64) : Nat → SState → Option LoopAnn
  | 3, S => some { X := Nat, slots := fun k => [(7, .sv (.own 10 .u8 (purpose ++ [0#8] ++ (beBytes n 8).take k))), (8, .sv (.dv (.i64 (7 - k))))], objs := fun _ => [(x_tok S 7, .gone), (10, .tok t_uint8 1)], inv := fun k => k ≤ 8, meas := fun k => 8 - k }
  | _, _ => none

theorem ref04_Derive_vc (key purpose : Bytes) (n : BitVec 64) (h : key.length ≤ 1000000) (h2 : purpose.length ≤ 1000) :
    List.length purpose ≤ ROOM ∧
      List.length purpose + List.length [0#8] ≤ ROOM ∧
        (∃ (x : Nat), x ≤ 8 ∧ purpose ++ [0#8] = purpose ++ [0#8] ++ List.take x (beBytes n 8) ∧ 7 = 7 - ofN x) ∧
          ∀ (x : Nat),
            x ≤ 8 →
              (decide (0 ≤ 7 - ofN x) = true →
                  inI64 (8 * (7 - ofN x)) ∧
                    List.length (purpose ++ [0#8] ++ List.take x (beBytes n 8)) + List.length [BitVec.setWidth 8 (n >>> BitVec.toNat (BitVec.ofInt 64 (8 * (7 - ofN x))))] ≤ ROOM ∧
                      inI64 (7 - ofN x - 1) ∧
                        ∃ (x' : Nat),
                          x' ≤ 8 ∧
                            8 - x' < 8 - x ∧
                              purpose ++ [0#8] ++ List.take x (beBytes n 8) ++ [BitVec.setWidth 8 (n >>> BitVec.toNat (BitVec.ofInt 64 (8 * (7 - ofN x))))] =
                                  purpose ++ [0#8] ++ List.take x' (beBytes n 8) ∧
                                7 - ofN x - 1 = 7 - ofN x') ∧
                (decide (0 ≤ 7 - ofN x) = false →
                  (List.length key ≤ 1000000 ∧ List.length (purpose ++ [0#8] ++ List.take x (beBytes n 8)) ≤ 1000000) ∧ macV key (purpose ++ [0#8] ++ List.take x (beBytes n 8)) = deriveV key purpose n) := by
  have hb := beBytes_length n 8
  refine ⟨by unfold ROOM; omega, by simp only [List.length_cons, List.length_nil]; unfold ROOM; omega, ⟨0, by omega, by simp, rfl⟩, fun x hx => ⟨fun hc => ?_, fun hc => ?_⟩⟩
  · have hc := of_decide_eq_true hc
    have hc : x < 8 := by unfold ofN at hc; omega
    have ht : (purpose ++ [0#8] ++ List.take x (beBytes n 8)).length ≤ 1009 := by
      rw [List.length_append, List.length_append, List.length_take]; simp only [List.length_cons, List.length_nil]; omega
    have hs : BitVec.toNat (BitVec.ofInt 64 (8 * (7 - ofN x))) = 8 * (7 - x) := by
      rw [toNat64 (by unfold ofN; omega) (by unfold ofN; omega)]
      unfold ofN; omega
    refine ⟨by unfold inI64 ofN; omega, by simp only [List.length_cons, List.length_nil]; unfold ROOM; omega, by unfold inI64 ofN; omega, x + 1, by omega, by omega, ?_, by unfold ofN; omega⟩
    rw [hs, take_snoc' (l := beBytes n 8) (i := x) (d := 0#8) (by omega), beBytes_getD hc, List.append_assoc (purpose ++ [0#8])]
  · have hc := of_decide_eq_false hc
    have hc : x = 8 := by unfold ofN at hc; omega
    rw [hc, List.take_of_length_le (by omega)]
    refine ⟨⟨h, ?_⟩, rfl⟩
    rw [List.length_append, List.length_append, hb]; simp only [List.length_cons, List.length_nil]; omega

theorem ref04_block_spec : Vse.Spec P f_ref04_block c_rblock :=
  spec_fn (l := [(f_ref03_Of, c_rOf)]) ⟨ref03_Of_spec, trivial⟩ h_ref04_block rfl rfl fun x h _ => body_ok (an_rblock x.1) (ref04_block_vc x.1 (got h)) (by kernel_rfl)

theorem ref04_xored_spec : Vse.Spec P f_ref04_xored c_xored :=
  spec_fn (l := []) trivial h_ref04_xored rfl rfl fun x h _ => body_ok (an_xored x.1 x.2.1) (ref04_xored_vc x.1 x.2.1 (got h)) (by kernel_rfl)

theorem ref04_Sum_spec : Vse.Spec P f_ref04_Sum c_macSum :=
  spec_fn (l := [(f_ref04_block, c_rblock), (f_ref04_xored, c_xored), (f_ref03_Sum, c_shaSum)]) ⟨ref04_block_spec, ref04_xored_spec, ref03_Sum_spec, trivial⟩ h_ref04_Sum rfl rfl
    fun x h _ => body_ok an_none (ref04_Sum_vc x.1 x.2.1 (got h).1 (got h).2.1 (got h).2.2) (by kernel_rfl)

theorem ref04_Of_spec : Vse.Spec P f_ref04_Of c_r4Of :=
  spec_fn (l := [(f_ref04_Sum, c_macSum)]) ⟨ref04_Sum_spec, trivial⟩ h_ref04_Of rfl rfl fun x h _ => body_ok an_none (ref04_Of_vc x.1 x.2.1 (got h).1 (got h).2) (by kernel_rfl)

theorem ref04_Derive_spec : Vse.Spec P f_ref04_Derive c_Derive :=
  spec_fn (l := [(f_ref04_Of, c_r4Of)]) ⟨ref04_Of_spec, trivial⟩ h_ref04_Derive rfl rfl fun x h _ => body_ok (an_rDerive x.2.1 x.2.2.1) (ref04_Derive_vc x.1 x.2.1 x.2.2.1 (got h).1 (got h).2) (by kernel_rfl)

end Go.Sal
