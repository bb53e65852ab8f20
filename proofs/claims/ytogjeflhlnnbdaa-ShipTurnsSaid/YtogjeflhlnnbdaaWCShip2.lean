/- Contracts of ship's reading, and of the reference's messages. -/
import Derived.Test.YtogjeflhlnnbdaaWCShip
import Derived.Test.YtogjeflhlnnbdaaWSalMac
set_option maxRecDepth 100000
namespace Go.Sal
open Go.Vse Go.Sal.Nm

def c_snum : PC := D [.slc .u8] [.i64, .slc .u8] (fun _ => none) (fun x => (numV x.1, numR x.1, ()))
def c_digs : PC := D [.slc .u8] [.slc T_Dig] (fun x => some (x.1.length ≤ 1000000)) (fun x => (digsV x.1, ()))
def c_first : PC := D [.slc .u8] [T_Dig] (fun x => some (x.1.length ≤ 1000000)) (fun x => (fstDig x.1, ()))
def c_ParseM : PC := D [.slc .u8] [T_Msg, .i64] (fun x => some (x.1.length ≤ 1000000)) (fun x => ((parseMs x.1).1, (parseMs x.1).2, ()))
def c_less : PC := D [T_Dig, T_Dig] [.bool] (fun _ => none) (fun x => (lessL x.1 x.2.1, ()))
def c_sort12 : PC := D [.slc T_Dig] [.slc T_Dig] (fun x => some (x.1.length ≤ 1000000)) (fun x => (sortV x.1, ()))
def c_ris20 : PC := D [.slc T_Dig] [.slc T_Dig] (fun x => some (x.1.length ≤ 1000000)) (fun x => (risV x.1, ()))
def c_Same12 : PC := D [.slc T_Dig, .slc T_Dig] [.bool] (fun _ => none) (fun x => (sameDg x.1 x.2.1, ()))
theorem ship_number_vc (b : Bytes) :
 ((ofN (readN b 0 0).2.2 != 0 || decide (1073741824#64 < BitVec.ofNat 64 (readN b 0 0).1)) = true → -1 = numV b ∧ nilOf (BitVec 8) = numR b) ∧
  ((ofN (readN b 0 0).2.2 != 0 || decide (1073741824#64 < BitVec.ofNat 64 (readN b 0 0).1)) = false →
  (0 ≤ ofN (readN b 0 0).2.1 ∧ ofN (readN b 0 0).2.1 ≤ ofN (List.length b)) ∧
  BitVec.toInt (BitVec.setWidth 64 (BitVec.ofNat 64 (readN b 0 0).1)) = numV b ∧ List.drop (Int.toNat (ofN (readN b 0 0).2.1)) (List.take (List.length b) b) = numR b) := by
 unfold numV numR okNum valNum offNum ofN
 have hle := readP_le b 0 0
 refine ⟨fun g => ?_, fun g => ?_⟩
 · have : (decide ((readN b 0 0).2.2 = 0) && decide ((BitVec.ofNat 64 (readN b 0 0).1).toNat ≤ 1073741824)) = false := by
     simp only [Bool.or_eq_true, bne_iff_ne, ne_eq, decide_eq_true_eq, BitVec.lt_def] at g
     rw [Bool.and_eq_false_iff, decide_eq_false_iff_not, decide_eq_false_iff_not]
     rcases g with g | g
     · exact .inl (fun e => g (by omega))
     · exact .inr (Nat.not_le.2 g)
   rw [this]
   exact ⟨rfl, rfl⟩
 · simp only [Bool.or_eq_false_iff, bne_eq_false_iff_eq, decide_eq_false_iff_not, BitVec.lt_def] at g
   have h1 : (readN b 0 0).2.2 = 0 := by have := g.1; omega
   have h2 : (BitVec.ofNat 64 (readN b 0 0).1).toNat ≤ 1073741824 := Nat.not_lt.1 g.2
   rw [h1, decide_eq_true rfl, decide_eq_true h2]
   refine ⟨⟨by omega, by omega⟩, ?_, ?_⟩
   · simp only [Bool.and_self, cond_true, BitVec.setWidth_eq]
     rw [BitVec.toInt_eq_toNat_of_lt (by omega)]
   · simp only [Bool.and_self, cond_true, List.take_length]
     rfl

def an_digs (b : Bytes) : Nat → SState → Option LoopAnn
 | 2, S => some { X := Nat, slots := fun i => [(0, .sv (.dv (.imm .u8 (b.drop (32 * i))))), (3, .sv (.own 10 T_Dig ((digsV b).take i)))], objs := fun _ => [(x_tok S 3, .gone), (10, .tok t_api_Digest 32)], inv := fun i => 32 * i ≤ b.length, meas := fun i => b.length - 32 * i }
 | _, _ => none

theorem digs_get {b : Bytes} {x : Nat} (h : x < b.length / 32) : (digsV b).getD x dig0 = (b.drop (32 * x)).take 32 := by
 have hdl : (digsV b).length = b.length / 32 := by unfold digsV; simp
 rw [getD_lt (by omega)]
 unfold digsV
 rw [List.getElem_map, List.getElem_range]

theorem ship_digests_vc (b : Bytes) (hb : b.length ≤ 1000000) :
 (∃ (x : Nat), 32 * x ≤ List.length b ∧ b = List.drop (32 * x) b ∧ List.take x (digsV b) = nilOf (List (BitVec 8))) ∧
  ∀ (x : Nat),
  32 * x ≤ List.length b →
  (decide (32 ≤ ofN (List.length (List.drop (32 * x) b))) = true →
  (ofN 0 ≤ 32 ∧ 32 ≤ ofN (List.length (List.drop (32 * x) b))) ∧
  32 ≤ List.length (List.drop 0 (List.take (Int.toNat 32) (List.drop (32 * x) b))) ∧
  List.length (List.take x (digsV b)) + List.length [List.take 32 (List.drop 0 (List.take (Int.toNat 32) (List.drop (32 * x) b)))] ≤ ROOM ∧
  (ofN 0 ≤ 32 ∧ 32 ≤ ofN (List.length (List.drop (32 * x) b))) ∧
  ∃ (x' : Nat),
  32 * x' ≤ List.length b ∧
  List.length b - 32 * x' < List.length b - 32 * x ∧
  List.drop (Int.toNat 32) (List.take (List.length (List.drop (32 * x) b)) (List.drop (32 * x) b)) = List.drop (32 * x') b ∧
  List.take x (digsV b) ++ [List.take 32 (List.drop 0 (List.take (Int.toNat 32) (List.drop (32 * x) b)))] = List.take x' (digsV b)) ∧
  (decide (32 ≤ ofN (List.length (List.drop (32 * x) b))) = false → List.take x (digsV b) = digsV b) := by
 unfold ROOM ofN
 have hdl : (digsV b).length = b.length / 32 := by unfold digsV; simp
 refine ⟨⟨0, by omega, rfl, rfl⟩, fun x hx => ⟨fun g => ?_, fun g => ?_⟩⟩
 · simp only [decide_eq_true_eq, List.length_drop] at g
   have hlt : x < b.length / 32 := by omega
   have e32 : (32 : Int).toNat = 32 := rfl
   have eg : (digsV b).getD x dig0 = (b.drop (32 * x)).take 32 := by
    rw [getD_lt (by omega)]
    unfold digsV
    rw [List.getElem_map, List.getElem_range]
   have et : List.take 32 (List.drop 0 (List.take 32 (List.drop (32 * x) b))) = (b.drop (32 * x)).take 32 := by
    rw [List.drop_zero, List.take_take, Nat.min_self]
   rw [e32, et, List.take_length, List.drop_drop]
   refine ⟨⟨by omega, by rw [List.length_drop]; omega⟩, by rw [List.drop_zero, List.length_take, List.length_drop]; omega, ?_, ⟨by omega, by rw [List.length_drop]; omega⟩, x + 1, by omega, by omega, by rw [Nat.mul_add], ?_⟩
   · rw [List.length_take, List.length_cons, List.length_nil]; omega
   · rw [take_snoc' (d := dig0) (by omega), eg]
 · simp only [decide_eq_false_iff_not, List.length_drop] at g
   rw [List.take_of_length_le (by omega)]

def an_first : Nat → SState → Option LoopAnn
 | 2, _ => some { X := Nat, slots := fun _ => [(8, .sv (.dv (.i64 0)))], objs := fun _ => [], inv := fun _ => True, meas := fun _ => 0 }
 | _, _ => none

theorem ship_first_vc (b : Bytes) (hb : b.length ≤ 1000000) :
 List.length b ≤ 1000000 ∧
  (∃ (x : Nat), True ∧ ofN 0 = 0) ∧
  ∀ (x : Nat),
  True →
  (decide (0 < ofN (List.length (digsV b))) = true → within 0 (List.length (digsV b)) ∧ List.getD (digsV b) (Int.toNat 0) (T.dflt (T.arr 32 T.u8)) = fstDig b) ∧
  (decide (0 < ofN (List.length (digsV b))) = false → List.replicate 32 0#8 = fstDig b) := by
 have hdl : (digsV b).length = b.length / 32 := by unfold digsV; simp
 unfold within ofN
 refine ⟨hb, ⟨0, trivial, rfl⟩, fun _ _ => ⟨fun g => ?_, fun g => ?_⟩⟩
 · simp only [decide_eq_true_eq] at g
   have hlt : 0 < (digsV b).length := by omega
   refine ⟨by omega, ?_⟩
   refine (digs_get (x := 0) (by omega)).trans ?_
   unfold fstDig
   rw [decide_eq_true (by omega)]; rfl
 · simp only [decide_eq_false_iff_not] at g
   unfold fstDig
   rw [decide_eq_false (by omega)]; rfl

abbrev x_msgIs (x y : Msg) : Prop := x.1 = y.1 ∧ x.2.1.1 = y.2.1.1 ∧ x.2.1.2.1 = y.2.1.2.1 ∧ x.2.1.2.2 = y.2.1.2.2 ∧ x.2.2.1 = y.2.2.1 ∧ x.2.2.2.1 = y.2.2.2.1 ∧ x.2.2.2.2.1.1 = y.2.2.2.2.1.1 ∧ x.2.2.2.2.1.2.1 = y.2.2.2.2.1.2.1 ∧ x.2.2.2.2.1.2.2.1 = y.2.2.2.2.1.2.2.1 ∧ x.2.2.2.2.1.2.2.2.1 = y.2.2.2.2.1.2.2.2.1 ∧ x.2.2.2.2.1.2.2.2.2.1 = y.2.2.2.2.1.2.2.2.2.1 ∧ x.2.2.2.2.1.2.2.2.2.2.1 = y.2.2.2.2.1.2.2.2.2.2.1 ∧ x.2.2.2.2.1.2.2.2.2.2.2 = y.2.2.2.2.1.2.2.2.2.2.2 ∧ x.2.2.2.2.2.1 = y.2.2.2.2.2.1 ∧ x.2.2.2.2.2.2 = y.2.2.2.2.2.2

theorem msg_is {x y : Msg} (h : y = x) : x_msgIs x y := by
 subst h; exact ⟨rfl, rfl, rfl, rfl, rfl, rfl, rfl, rfl, rfl, rfl, rfl, rfl, rfl, rfl, rfl⟩
theorem parse_leaf {b : Bytes} {X : Msg} (hl : 2 ≤ b.length) (hX : parseX b = X) :
 (((bytesM X).2 != 0 || !(bytesM X).1 == b) = true → x_msgIs msg0 (parseMs b).1 ∧ 200 = (parseMs b).2) ∧ (((bytesM X).2 != 0 || !(bytesM X).1 == b) = false → x_msgIs X (parseMs b).1 ∧ 0 = (parseMs b).2) := by
 subst hX
 unfold parseMs
 refine ⟨fun g => ?_, fun g => ?_⟩
 · rw [if_neg]
   · exact ⟨msg_is rfl, rfl⟩
   · rintro ⟨_, h⟩
     rw [h] at g
     simp at g
 · simp only [Bool.or_eq_false_iff, bne_eq_false_iff_eq, Bool.not_eq_false', beq_iff_eq] at g
   rw [if_pos ⟨hl, Prod.ext g.2 g.1⟩]
   exact ⟨msg_is rfl, rfl⟩
theorem numR_len (b : Bytes) : (numR b).length ≤ b.length := by
 unfold numR offNum
 cases okNum b
 · simp
 · simp only [cond_true, List.length_drop]; omega

theorem ship_Parse_vc (b : Bytes) (hb : b.length ≤ 1000000) :
 (decide (ofN (List.length b) < 2) = true →
  (0 = (parseMs b).1.1 ∧
  0 = (parseMs b).1.2.1.1 ∧
  0 = (parseMs b).1.2.1.2.1 ∧
  List.replicate 32 0#8 = (parseMs b).1.2.1.2.2 ∧
  0 = (parseMs b).1.2.2.1 ∧
  List.replicate 32 0#8 = (parseMs b).1.2.2.2.1 ∧
  0 = (parseMs b).1.2.2.2.2.1.1 ∧
  0 = (parseMs b).1.2.2.2.2.1.2.1 ∧
  List.replicate 32 0#8 = (parseMs b).1.2.2.2.2.1.2.2.1 ∧
  0 = (parseMs b).1.2.2.2.2.1.2.2.2.1 ∧
  0 = (parseMs b).1.2.2.2.2.1.2.2.2.2.1 ∧
  nilOf (BitVec 8) = (parseMs b).1.2.2.2.2.1.2.2.2.2.2.1 ∧
  nilOf (List (BitVec 8) × Int) = (parseMs b).1.2.2.2.2.1.2.2.2.2.2.2 ∧
  nilOf (List (BitVec 8)) = (parseMs b).1.2.2.2.2.2.1 ∧ nilOf (BitVec 8) = (parseMs b).1.2.2.2.2.2.2) ∧
  200 = (parseMs b).2) ∧
  (decide (ofN (List.length b) < 2) = false →
  within 0 (List.length b) ∧
  (ofN 0 ≤ 1 ∧ 1 ≤ ofN (List.length b)) ∧
  ((ofN (BitVec.toNat (List.getD b (Int.toNat 0) 0#8)) == 1) = true →
  List.length (numR (numR (List.drop (Int.toNat 1) (List.take (List.length b) b)))) ≤ 1000000 ∧
  (((bytesM
  (ofN (BitVec.toNat (List.getD b (Int.toNat 0) 0#8)),
  (numV (List.drop (Int.toNat 1) (List.take (List.length b) b)), numV (numR (List.drop (Int.toNat 1) (List.take (List.length b) b))),
  fstDig (numR (numR (List.drop (Int.toNat 1) (List.take (List.length b) b))))),
  0, List.replicate 32 0#8, (0, 0, List.replicate 32 0#8, 0, 0, nilOf (BitVec 8), nilOf (List (BitVec 8) × Int)), nilOf (List (BitVec 8)), nilOf (BitVec 8))).2 !=
  0 ||
  !(bytesM
  (ofN (BitVec.toNat (List.getD b (Int.toNat 0) 0#8)),
  (numV (List.drop (Int.toNat 1) (List.take (List.length b) b)), numV (numR (List.drop (Int.toNat 1) (List.take (List.length b) b))),
  fstDig (numR (numR (List.drop (Int.toNat 1) (List.take (List.length b) b))))),
  0, List.replicate 32 0#8, (0, 0, List.replicate 32 0#8, 0, 0, nilOf (BitVec 8), nilOf (List (BitVec 8) × Int)), nilOf (List (BitVec 8)), nilOf (BitVec 8))).1 ==
  b) =
  true →
  (0 = (parseMs b).1.1 ∧
  0 = (parseMs b).1.2.1.1 ∧
  0 = (parseMs b).1.2.1.2.1 ∧
  List.replicate 32 0#8 = (parseMs b).1.2.1.2.2 ∧
  0 = (parseMs b).1.2.2.1 ∧
  List.replicate 32 0#8 = (parseMs b).1.2.2.2.1 ∧
  0 = (parseMs b).1.2.2.2.2.1.1 ∧
  0 = (parseMs b).1.2.2.2.2.1.2.1 ∧
  List.replicate 32 0#8 = (parseMs b).1.2.2.2.2.1.2.2.1 ∧
  0 = (parseMs b).1.2.2.2.2.1.2.2.2.1 ∧
  0 = (parseMs b).1.2.2.2.2.1.2.2.2.2.1 ∧
  nilOf (BitVec 8) = (parseMs b).1.2.2.2.2.1.2.2.2.2.2.1 ∧
  nilOf (List (BitVec 8) × Int) = (parseMs b).1.2.2.2.2.1.2.2.2.2.2.2 ∧
  nilOf (List (BitVec 8)) = (parseMs b).1.2.2.2.2.2.1 ∧ nilOf (BitVec 8) = (parseMs b).1.2.2.2.2.2.2) ∧
  200 = (parseMs b).2) ∧
  (((bytesM
  (ofN (BitVec.toNat (List.getD b (Int.toNat 0) 0#8)),
  (numV (List.drop (Int.toNat 1) (List.take (List.length b) b)), numV (numR (List.drop (Int.toNat 1) (List.take (List.length b) b))),
  fstDig (numR (numR (List.drop (Int.toNat 1) (List.take (List.length b) b))))),
  0, List.replicate 32 0#8, (0, 0, List.replicate 32 0#8, 0, 0, nilOf (BitVec 8), nilOf (List (BitVec 8) × Int)), nilOf (List (BitVec 8)), nilOf (BitVec 8))).2 !=
  0 ||
  !(bytesM
  (ofN (BitVec.toNat (List.getD b (Int.toNat 0) 0#8)),
  (numV (List.drop (Int.toNat 1) (List.take (List.length b) b)), numV (numR (List.drop (Int.toNat 1) (List.take (List.length b) b))),
  fstDig (numR (numR (List.drop (Int.toNat 1) (List.take (List.length b) b))))),
  0, List.replicate 32 0#8, (0, 0, List.replicate 32 0#8, 0, 0, nilOf (BitVec 8), nilOf (List (BitVec 8) × Int)), nilOf (List (BitVec 8)), nilOf (BitVec 8))).1 ==
  b) =
  false →
  (ofN (BitVec.toNat (List.getD b (Int.toNat 0) 0#8)) = (parseMs b).1.1 ∧
  numV (List.drop (Int.toNat 1) (List.take (List.length b) b)) = (parseMs b).1.2.1.1 ∧
  numV (numR (List.drop (Int.toNat 1) (List.take (List.length b) b))) = (parseMs b).1.2.1.2.1 ∧
  fstDig (numR (numR (List.drop (Int.toNat 1) (List.take (List.length b) b)))) = (parseMs b).1.2.1.2.2 ∧
  0 = (parseMs b).1.2.2.1 ∧
  List.replicate 32 0#8 = (parseMs b).1.2.2.2.1 ∧
  0 = (parseMs b).1.2.2.2.2.1.1 ∧
  0 = (parseMs b).1.2.2.2.2.1.2.1 ∧
  List.replicate 32 0#8 = (parseMs b).1.2.2.2.2.1.2.2.1 ∧
  0 = (parseMs b).1.2.2.2.2.1.2.2.2.1 ∧
  0 = (parseMs b).1.2.2.2.2.1.2.2.2.2.1 ∧
  nilOf (BitVec 8) = (parseMs b).1.2.2.2.2.1.2.2.2.2.2.1 ∧
  nilOf (List (BitVec 8) × Int) = (parseMs b).1.2.2.2.2.1.2.2.2.2.2.2 ∧
  nilOf (List (BitVec 8)) = (parseMs b).1.2.2.2.2.2.1 ∧ nilOf (BitVec 8) = (parseMs b).1.2.2.2.2.2.2) ∧
  0 = (parseMs b).2)) ∧
  ((ofN (BitVec.toNat (List.getD b (Int.toNat 0) 0#8)) == 1) = false →
  ((ofN (BitVec.toNat (List.getD b (Int.toNat 0) 0#8)) == 9) = true →
  List.length (numR (numR (List.drop (Int.toNat 1) (List.take (List.length b) b)))) ≤ 1000000 ∧
  (((bytesM
  (ofN (BitVec.toNat (List.getD b (Int.toNat 0) 0#8)),
  (numV (List.drop (Int.toNat 1) (List.take (List.length b) b)), numV (numR (List.drop (Int.toNat 1) (List.take (List.length b) b))),
  fstDig (numR (numR (List.drop (Int.toNat 1) (List.take (List.length b) b))))),
  0, List.replicate 32 0#8, (0, 0, List.replicate 32 0#8, 0, 0, nilOf (BitVec 8), nilOf (List (BitVec 8) × Int)), nilOf (List (BitVec 8)), nilOf (BitVec 8))).2 !=
  0 ||
  !(bytesM
  (ofN (BitVec.toNat (List.getD b (Int.toNat 0) 0#8)),
  (numV (List.drop (Int.toNat 1) (List.take (List.length b) b)), numV (numR (List.drop (Int.toNat 1) (List.take (List.length b) b))),
  fstDig (numR (numR (List.drop (Int.toNat 1) (List.take (List.length b) b))))),
  0, List.replicate 32 0#8, (0, 0, List.replicate 32 0#8, 0, 0, nilOf (BitVec 8), nilOf (List (BitVec 8) × Int)), nilOf (List (BitVec 8)), nilOf (BitVec 8))).1 ==
  b) =
  true →
  (0 = (parseMs b).1.1 ∧
  0 = (parseMs b).1.2.1.1 ∧
  0 = (parseMs b).1.2.1.2.1 ∧
  List.replicate 32 0#8 = (parseMs b).1.2.1.2.2 ∧
  0 = (parseMs b).1.2.2.1 ∧
  List.replicate 32 0#8 = (parseMs b).1.2.2.2.1 ∧
  0 = (parseMs b).1.2.2.2.2.1.1 ∧
  0 = (parseMs b).1.2.2.2.2.1.2.1 ∧
  List.replicate 32 0#8 = (parseMs b).1.2.2.2.2.1.2.2.1 ∧
  0 = (parseMs b).1.2.2.2.2.1.2.2.2.1 ∧
  0 = (parseMs b).1.2.2.2.2.1.2.2.2.2.1 ∧
  nilOf (BitVec 8) = (parseMs b).1.2.2.2.2.1.2.2.2.2.2.1 ∧
  nilOf (List (BitVec 8) × Int) = (parseMs b).1.2.2.2.2.1.2.2.2.2.2.2 ∧
  nilOf (List (BitVec 8)) = (parseMs b).1.2.2.2.2.2.1 ∧ nilOf (BitVec 8) = (parseMs b).1.2.2.2.2.2.2) ∧
  200 = (parseMs b).2) ∧
  (((bytesM
  (ofN (BitVec.toNat (List.getD b (Int.toNat 0) 0#8)),
  (numV (List.drop (Int.toNat 1) (List.take (List.length b) b)), numV (numR (List.drop (Int.toNat 1) (List.take (List.length b) b))),
  fstDig (numR (numR (List.drop (Int.toNat 1) (List.take (List.length b) b))))),
  0, List.replicate 32 0#8, (0, 0, List.replicate 32 0#8, 0, 0, nilOf (BitVec 8), nilOf (List (BitVec 8) × Int)), nilOf (List (BitVec 8)), nilOf (BitVec 8))).2 !=
  0 ||
  !(bytesM
  (ofN (BitVec.toNat (List.getD b (Int.toNat 0) 0#8)),
  (numV (List.drop (Int.toNat 1) (List.take (List.length b) b)), numV (numR (List.drop (Int.toNat 1) (List.take (List.length b) b))),
  fstDig (numR (numR (List.drop (Int.toNat 1) (List.take (List.length b) b))))),
  0, List.replicate 32 0#8, (0, 0, List.replicate 32 0#8, 0, 0, nilOf (BitVec 8), nilOf (List (BitVec 8) × Int)), nilOf (List (BitVec 8)), nilOf (BitVec 8))).1 ==
  b) =
  false →
  (ofN (BitVec.toNat (List.getD b (Int.toNat 0) 0#8)) = (parseMs b).1.1 ∧
  numV (List.drop (Int.toNat 1) (List.take (List.length b) b)) = (parseMs b).1.2.1.1 ∧
  numV (numR (List.drop (Int.toNat 1) (List.take (List.length b) b))) = (parseMs b).1.2.1.2.1 ∧
  fstDig (numR (numR (List.drop (Int.toNat 1) (List.take (List.length b) b)))) = (parseMs b).1.2.1.2.2 ∧
  0 = (parseMs b).1.2.2.1 ∧
  List.replicate 32 0#8 = (parseMs b).1.2.2.2.1 ∧
  0 = (parseMs b).1.2.2.2.2.1.1 ∧
  0 = (parseMs b).1.2.2.2.2.1.2.1 ∧
  List.replicate 32 0#8 = (parseMs b).1.2.2.2.2.1.2.2.1 ∧
  0 = (parseMs b).1.2.2.2.2.1.2.2.2.1 ∧
  0 = (parseMs b).1.2.2.2.2.1.2.2.2.2.1 ∧
  nilOf (BitVec 8) = (parseMs b).1.2.2.2.2.1.2.2.2.2.2.1 ∧
  nilOf (List (BitVec 8) × Int) = (parseMs b).1.2.2.2.2.1.2.2.2.2.2.2 ∧
  nilOf (List (BitVec 8)) = (parseMs b).1.2.2.2.2.2.1 ∧ nilOf (BitVec 8) = (parseMs b).1.2.2.2.2.2.2) ∧
  0 = (parseMs b).2)) ∧
  ((ofN (BitVec.toNat (List.getD b (Int.toNat 0) 0#8)) == 9) = false →
  ((ofN (BitVec.toNat (List.getD b (Int.toNat 0) 0#8)) == 2) = true →
  (((bytesM
  (ofN (BitVec.toNat (List.getD b (Int.toNat 0) 0#8)), (0, 0, List.replicate 32 0#8), numV (List.drop (Int.toNat 1) (List.take (List.length b) b)),
  List.replicate 32 0#8, (0, 0, List.replicate 32 0#8, 0, 0, nilOf (BitVec 8), nilOf (List (BitVec 8) × Int)), nilOf (List (BitVec 8)), nilOf (BitVec 8))).2 !=
  0 ||
  !(bytesM
  (ofN (BitVec.toNat (List.getD b (Int.toNat 0) 0#8)), (0, 0, List.replicate 32 0#8), numV (List.drop (Int.toNat 1) (List.take (List.length b) b)),
  List.replicate 32 0#8, (0, 0, List.replicate 32 0#8, 0, 0, nilOf (BitVec 8), nilOf (List (BitVec 8) × Int)), nilOf (List (BitVec 8)), nilOf (BitVec 8))).1 ==
  b) =
  true →
  (0 = (parseMs b).1.1 ∧
  0 = (parseMs b).1.2.1.1 ∧
  0 = (parseMs b).1.2.1.2.1 ∧
  List.replicate 32 0#8 = (parseMs b).1.2.1.2.2 ∧
  0 = (parseMs b).1.2.2.1 ∧
  List.replicate 32 0#8 = (parseMs b).1.2.2.2.1 ∧
  0 = (parseMs b).1.2.2.2.2.1.1 ∧
  0 = (parseMs b).1.2.2.2.2.1.2.1 ∧
  List.replicate 32 0#8 = (parseMs b).1.2.2.2.2.1.2.2.1 ∧
  0 = (parseMs b).1.2.2.2.2.1.2.2.2.1 ∧
  0 = (parseMs b).1.2.2.2.2.1.2.2.2.2.1 ∧
  nilOf (BitVec 8) = (parseMs b).1.2.2.2.2.1.2.2.2.2.2.1 ∧
  nilOf (List (BitVec 8) × Int) = (parseMs b).1.2.2.2.2.1.2.2.2.2.2.2 ∧
  nilOf (List (BitVec 8)) = (parseMs b).1.2.2.2.2.2.1 ∧ nilOf (BitVec 8) = (parseMs b).1.2.2.2.2.2.2) ∧
  200 = (parseMs b).2) ∧
  (((bytesM
  (ofN (BitVec.toNat (List.getD b (Int.toNat 0) 0#8)), (0, 0, List.replicate 32 0#8), numV (List.drop (Int.toNat 1) (List.take (List.length b) b)),
  List.replicate 32 0#8, (0, 0, List.replicate 32 0#8, 0, 0, nilOf (BitVec 8), nilOf (List (BitVec 8) × Int)), nilOf (List (BitVec 8)), nilOf (BitVec 8))).2 !=
  0 ||
  !(bytesM
  (ofN (BitVec.toNat (List.getD b (Int.toNat 0) 0#8)), (0, 0, List.replicate 32 0#8), numV (List.drop (Int.toNat 1) (List.take (List.length b) b)),
  List.replicate 32 0#8, (0, 0, List.replicate 32 0#8, 0, 0, nilOf (BitVec 8), nilOf (List (BitVec 8) × Int)), nilOf (List (BitVec 8)), nilOf (BitVec 8))).1 ==
  b) =
  false →
  (ofN (BitVec.toNat (List.getD b (Int.toNat 0) 0#8)) = (parseMs b).1.1 ∧
  0 = (parseMs b).1.2.1.1 ∧
  0 = (parseMs b).1.2.1.2.1 ∧
  List.replicate 32 0#8 = (parseMs b).1.2.1.2.2 ∧
  numV (List.drop (Int.toNat 1) (List.take (List.length b) b)) = (parseMs b).1.2.2.1 ∧
  List.replicate 32 0#8 = (parseMs b).1.2.2.2.1 ∧
  0 = (parseMs b).1.2.2.2.2.1.1 ∧
  0 = (parseMs b).1.2.2.2.2.1.2.1 ∧
  List.replicate 32 0#8 = (parseMs b).1.2.2.2.2.1.2.2.1 ∧
  0 = (parseMs b).1.2.2.2.2.1.2.2.2.1 ∧
  0 = (parseMs b).1.2.2.2.2.1.2.2.2.2.1 ∧
  nilOf (BitVec 8) = (parseMs b).1.2.2.2.2.1.2.2.2.2.2.1 ∧
  nilOf (List (BitVec 8) × Int) = (parseMs b).1.2.2.2.2.1.2.2.2.2.2.2 ∧
  nilOf (List (BitVec 8)) = (parseMs b).1.2.2.2.2.2.1 ∧ nilOf (BitVec 8) = (parseMs b).1.2.2.2.2.2.2) ∧
  0 = (parseMs b).2)) ∧
  ((ofN (BitVec.toNat (List.getD b (Int.toNat 0) 0#8)) == 2) = false →
  ((ofN (BitVec.toNat (List.getD b (Int.toNat 0) 0#8)) == 3) = true →
  List.length (numR (List.drop (Int.toNat 1) (List.take (List.length b) b))) ≤ 1000000 ∧
  (((bytesM
  (ofN (BitVec.toNat (List.getD b (Int.toNat 0) 0#8)), (0, 0, List.replicate 32 0#8), numV (List.drop (Int.toNat 1) (List.take (List.length b) b)),
  fstDig (numR (List.drop (Int.toNat 1) (List.take (List.length b) b))), (0, 0, List.replicate 32 0#8, 0, 0, nilOf (BitVec 8), nilOf (List (BitVec 8) × Int)),
  nilOf (List (BitVec 8)), nilOf (BitVec 8))).2 !=
  0 ||
  !(bytesM
  (ofN (BitVec.toNat (List.getD b (Int.toNat 0) 0#8)), (0, 0, List.replicate 32 0#8), numV (List.drop (Int.toNat 1) (List.take (List.length b) b)),
  fstDig (numR (List.drop (Int.toNat 1) (List.take (List.length b) b))), (0, 0, List.replicate 32 0#8, 0, 0, nilOf (BitVec 8), nilOf (List (BitVec 8) × Int)),
  nilOf (List (BitVec 8)), nilOf (BitVec 8))).1 ==
  b) =
  true →
  (0 = (parseMs b).1.1 ∧
  0 = (parseMs b).1.2.1.1 ∧
  0 = (parseMs b).1.2.1.2.1 ∧
  List.replicate 32 0#8 = (parseMs b).1.2.1.2.2 ∧
  0 = (parseMs b).1.2.2.1 ∧
  List.replicate 32 0#8 = (parseMs b).1.2.2.2.1 ∧
  0 = (parseMs b).1.2.2.2.2.1.1 ∧
  0 = (parseMs b).1.2.2.2.2.1.2.1 ∧
  List.replicate 32 0#8 = (parseMs b).1.2.2.2.2.1.2.2.1 ∧
  0 = (parseMs b).1.2.2.2.2.1.2.2.2.1 ∧
  0 = (parseMs b).1.2.2.2.2.1.2.2.2.2.1 ∧
  nilOf (BitVec 8) = (parseMs b).1.2.2.2.2.1.2.2.2.2.2.1 ∧
  nilOf (List (BitVec 8) × Int) = (parseMs b).1.2.2.2.2.1.2.2.2.2.2.2 ∧
  nilOf (List (BitVec 8)) = (parseMs b).1.2.2.2.2.2.1 ∧ nilOf (BitVec 8) = (parseMs b).1.2.2.2.2.2.2) ∧
  200 = (parseMs b).2) ∧
  (((bytesM
  (ofN (BitVec.toNat (List.getD b (Int.toNat 0) 0#8)), (0, 0, List.replicate 32 0#8), numV (List.drop (Int.toNat 1) (List.take (List.length b) b)),
  fstDig (numR (List.drop (Int.toNat 1) (List.take (List.length b) b))), (0, 0, List.replicate 32 0#8, 0, 0, nilOf (BitVec 8), nilOf (List (BitVec 8) × Int)),
  nilOf (List (BitVec 8)), nilOf (BitVec 8))).2 !=
  0 ||
  !(bytesM
  (ofN (BitVec.toNat (List.getD b (Int.toNat 0) 0#8)), (0, 0, List.replicate 32 0#8), numV (List.drop (Int.toNat 1) (List.take (List.length b) b)),
  fstDig (numR (List.drop (Int.toNat 1) (List.take (List.length b) b))), (0, 0, List.replicate 32 0#8, 0, 0, nilOf (BitVec 8), nilOf (List (BitVec 8) × Int)),
  nilOf (List (BitVec 8)), nilOf (BitVec 8))).1 ==
  b) =
  false →
  (ofN (BitVec.toNat (List.getD b (Int.toNat 0) 0#8)) = (parseMs b).1.1 ∧
  0 = (parseMs b).1.2.1.1 ∧
  0 = (parseMs b).1.2.1.2.1 ∧
  List.replicate 32 0#8 = (parseMs b).1.2.1.2.2 ∧
  numV (List.drop (Int.toNat 1) (List.take (List.length b) b)) = (parseMs b).1.2.2.1 ∧
  fstDig (numR (List.drop (Int.toNat 1) (List.take (List.length b) b))) = (parseMs b).1.2.2.2.1 ∧
  0 = (parseMs b).1.2.2.2.2.1.1 ∧
  0 = (parseMs b).1.2.2.2.2.1.2.1 ∧
  List.replicate 32 0#8 = (parseMs b).1.2.2.2.2.1.2.2.1 ∧
  0 = (parseMs b).1.2.2.2.2.1.2.2.2.1 ∧
  0 = (parseMs b).1.2.2.2.2.1.2.2.2.2.1 ∧
  nilOf (BitVec 8) = (parseMs b).1.2.2.2.2.1.2.2.2.2.2.1 ∧
  nilOf (List (BitVec 8) × Int) = (parseMs b).1.2.2.2.2.1.2.2.2.2.2.2 ∧
  nilOf (List (BitVec 8)) = (parseMs b).1.2.2.2.2.2.1 ∧ nilOf (BitVec 8) = (parseMs b).1.2.2.2.2.2.2) ∧
  0 = (parseMs b).2)) ∧
  ((ofN (BitVec.toNat (List.getD b (Int.toNat 0) 0#8)) == 3) = false →
  ((ofN (BitVec.toNat (List.getD b (Int.toNat 0) 0#8)) == 4) = true →
  List.length (numR (List.drop (Int.toNat 1) (List.take (List.length b) b))) ≤ 1000000 ∧
  (((bytesM
  (ofN (BitVec.toNat (List.getD b (Int.toNat 0) 0#8)), (0, 0, List.replicate 32 0#8), numV (List.drop (Int.toNat 1) (List.take (List.length b) b)),
  fstDig (numR (List.drop (Int.toNat 1) (List.take (List.length b) b))),
  (0, 0, List.replicate 32 0#8, 0, 0, nilOf (BitVec 8), nilOf (List (BitVec 8) × Int)), nilOf (List (BitVec 8)), nilOf (BitVec 8))).2 !=
  0 ||
  !(bytesM
  (ofN (BitVec.toNat (List.getD b (Int.toNat 0) 0#8)), (0, 0, List.replicate 32 0#8), numV (List.drop (Int.toNat 1) (List.take (List.length b) b)),
  fstDig (numR (List.drop (Int.toNat 1) (List.take (List.length b) b))),
  (0, 0, List.replicate 32 0#8, 0, 0, nilOf (BitVec 8), nilOf (List (BitVec 8) × Int)), nilOf (List (BitVec 8)), nilOf (BitVec 8))).1 ==
  b) =
  true →
  (0 = (parseMs b).1.1 ∧
  0 = (parseMs b).1.2.1.1 ∧
  0 = (parseMs b).1.2.1.2.1 ∧
  List.replicate 32 0#8 = (parseMs b).1.2.1.2.2 ∧
  0 = (parseMs b).1.2.2.1 ∧
  List.replicate 32 0#8 = (parseMs b).1.2.2.2.1 ∧
  0 = (parseMs b).1.2.2.2.2.1.1 ∧
  0 = (parseMs b).1.2.2.2.2.1.2.1 ∧
  List.replicate 32 0#8 = (parseMs b).1.2.2.2.2.1.2.2.1 ∧
  0 = (parseMs b).1.2.2.2.2.1.2.2.2.1 ∧
  0 = (parseMs b).1.2.2.2.2.1.2.2.2.2.1 ∧
  nilOf (BitVec 8) = (parseMs b).1.2.2.2.2.1.2.2.2.2.2.1 ∧
  nilOf (List (BitVec 8) × Int) = (parseMs b).1.2.2.2.2.1.2.2.2.2.2.2 ∧
  nilOf (List (BitVec 8)) = (parseMs b).1.2.2.2.2.2.1 ∧ nilOf (BitVec 8) = (parseMs b).1.2.2.2.2.2.2) ∧
  200 = (parseMs b).2) ∧
  (((bytesM
  (ofN (BitVec.toNat (List.getD b (Int.toNat 0) 0#8)), (0, 0, List.replicate 32 0#8), numV (List.drop (Int.toNat 1) (List.take (List.length b) b)),
  fstDig (numR (List.drop (Int.toNat 1) (List.take (List.length b) b))),
  (0, 0, List.replicate 32 0#8, 0, 0, nilOf (BitVec 8), nilOf (List (BitVec 8) × Int)), nilOf (List (BitVec 8)), nilOf (BitVec 8))).2 !=
  0 ||
  !(bytesM
  (ofN (BitVec.toNat (List.getD b (Int.toNat 0) 0#8)), (0, 0, List.replicate 32 0#8), numV (List.drop (Int.toNat 1) (List.take (List.length b) b)),
  fstDig (numR (List.drop (Int.toNat 1) (List.take (List.length b) b))),
  (0, 0, List.replicate 32 0#8, 0, 0, nilOf (BitVec 8), nilOf (List (BitVec 8) × Int)), nilOf (List (BitVec 8)), nilOf (BitVec 8))).1 ==
  b) =
  false →
  (ofN (BitVec.toNat (List.getD b (Int.toNat 0) 0#8)) = (parseMs b).1.1 ∧
  0 = (parseMs b).1.2.1.1 ∧
  0 = (parseMs b).1.2.1.2.1 ∧
  List.replicate 32 0#8 = (parseMs b).1.2.1.2.2 ∧
  numV (List.drop (Int.toNat 1) (List.take (List.length b) b)) = (parseMs b).1.2.2.1 ∧
  fstDig (numR (List.drop (Int.toNat 1) (List.take (List.length b) b))) = (parseMs b).1.2.2.2.1 ∧
  0 = (parseMs b).1.2.2.2.2.1.1 ∧
  0 = (parseMs b).1.2.2.2.2.1.2.1 ∧
  List.replicate 32 0#8 = (parseMs b).1.2.2.2.2.1.2.2.1 ∧
  0 = (parseMs b).1.2.2.2.2.1.2.2.2.1 ∧
  0 = (parseMs b).1.2.2.2.2.1.2.2.2.2.1 ∧
  nilOf (BitVec 8) = (parseMs b).1.2.2.2.2.1.2.2.2.2.2.1 ∧
  nilOf (List (BitVec 8) × Int) = (parseMs b).1.2.2.2.2.1.2.2.2.2.2.2 ∧
  nilOf (List (BitVec 8)) = (parseMs b).1.2.2.2.2.2.1 ∧ nilOf (BitVec 8) = (parseMs b).1.2.2.2.2.2.2) ∧
  0 = (parseMs b).2)) ∧
  ((ofN (BitVec.toNat (List.getD b (Int.toNat 0) 0#8)) == 4) = false →
  ((ofN (BitVec.toNat (List.getD b (Int.toNat 0) 0#8)) == 5) = true →
  (((bytesM
  (ofN (BitVec.toNat (List.getD b (Int.toNat 0) 0#8)), (0, 0, List.replicate 32 0#8), 0, List.replicate 32 0#8,
  (parseV (List.drop (Int.toNat 1) (List.take (List.length b) b))).1, nilOf (List (BitVec 8)), nilOf (BitVec 8))).2 !=
  0 ||
  !(bytesM
  (ofN (BitVec.toNat (List.getD b (Int.toNat 0) 0#8)), (0, 0, List.replicate 32 0#8), 0, List.replicate 32 0#8,
  (parseV (List.drop (Int.toNat 1) (List.take (List.length b) b))).1, nilOf (List (BitVec 8)), nilOf (BitVec 8))).1 ==
  b) =
  true →
  (0 = (parseMs b).1.1 ∧
  0 = (parseMs b).1.2.1.1 ∧
  0 = (parseMs b).1.2.1.2.1 ∧
  List.replicate 32 0#8 = (parseMs b).1.2.1.2.2 ∧
  0 = (parseMs b).1.2.2.1 ∧
  List.replicate 32 0#8 = (parseMs b).1.2.2.2.1 ∧
  0 = (parseMs b).1.2.2.2.2.1.1 ∧
  0 = (parseMs b).1.2.2.2.2.1.2.1 ∧
  List.replicate 32 0#8 = (parseMs b).1.2.2.2.2.1.2.2.1 ∧
  0 = (parseMs b).1.2.2.2.2.1.2.2.2.1 ∧
  0 = (parseMs b).1.2.2.2.2.1.2.2.2.2.1 ∧
  nilOf (BitVec 8) = (parseMs b).1.2.2.2.2.1.2.2.2.2.2.1 ∧
  nilOf (List (BitVec 8) × Int) = (parseMs b).1.2.2.2.2.1.2.2.2.2.2.2 ∧
  nilOf (List (BitVec 8)) = (parseMs b).1.2.2.2.2.2.1 ∧ nilOf (BitVec 8) = (parseMs b).1.2.2.2.2.2.2) ∧
  200 = (parseMs b).2) ∧
  (((bytesM
  (ofN (BitVec.toNat (List.getD b (Int.toNat 0) 0#8)), (0, 0, List.replicate 32 0#8), 0, List.replicate 32 0#8,
  (parseV (List.drop (Int.toNat 1) (List.take (List.length b) b))).1, nilOf (List (BitVec 8)), nilOf (BitVec 8))).2 !=
  0 ||
  !(bytesM
  (ofN (BitVec.toNat (List.getD b (Int.toNat 0) 0#8)), (0, 0, List.replicate 32 0#8), 0, List.replicate 32 0#8,
  (parseV (List.drop (Int.toNat 1) (List.take (List.length b) b))).1, nilOf (List (BitVec 8)), nilOf (BitVec 8))).1 ==
  b) =
  false →
  (ofN (BitVec.toNat (List.getD b (Int.toNat 0) 0#8)) = (parseMs b).1.1 ∧
  0 = (parseMs b).1.2.1.1 ∧
  0 = (parseMs b).1.2.1.2.1 ∧
  List.replicate 32 0#8 = (parseMs b).1.2.1.2.2 ∧
  0 = (parseMs b).1.2.2.1 ∧
  List.replicate 32 0#8 = (parseMs b).1.2.2.2.1 ∧
  (parseV (List.drop (Int.toNat 1) (List.take (List.length b) b))).1.1 = (parseMs b).1.2.2.2.2.1.1 ∧
  (parseV (List.drop (Int.toNat 1) (List.take (List.length b) b))).1.2.1 = (parseMs b).1.2.2.2.2.1.2.1 ∧
  (parseV (List.drop (Int.toNat 1) (List.take (List.length b) b))).1.2.2.1 = (parseMs b).1.2.2.2.2.1.2.2.1 ∧
  (parseV (List.drop (Int.toNat 1) (List.take (List.length b) b))).1.2.2.2.1 = (parseMs b).1.2.2.2.2.1.2.2.2.1 ∧
  (parseV (List.drop (Int.toNat 1) (List.take (List.length b) b))).1.2.2.2.2.1 = (parseMs b).1.2.2.2.2.1.2.2.2.2.1 ∧
  (parseV (List.drop (Int.toNat 1) (List.take (List.length b) b))).1.2.2.2.2.2.1 = (parseMs b).1.2.2.2.2.1.2.2.2.2.2.1 ∧
  (parseV (List.drop (Int.toNat 1) (List.take (List.length b) b))).1.2.2.2.2.2.2 = (parseMs b).1.2.2.2.2.1.2.2.2.2.2.2 ∧
  nilOf (List (BitVec 8)) = (parseMs b).1.2.2.2.2.2.1 ∧ nilOf (BitVec 8) = (parseMs b).1.2.2.2.2.2.2) ∧
  0 = (parseMs b).2)) ∧
  ((ofN (BitVec.toNat (List.getD b (Int.toNat 0) 0#8)) == 5) = false →
  ((ofN (BitVec.toNat (List.getD b (Int.toNat 0) 0#8)) == 6) = true →
  (ofN 0 ≤ 1 ∧ 1 ≤ ofN (List.length (List.drop (Int.toNat 1) (List.take (List.length b) b)))) ∧
  List.length
  (List.drop (Int.toNat 1)
  (List.take (List.length (List.drop (Int.toNat 1) (List.take (List.length b) b))) (List.drop (Int.toNat 1) (List.take (List.length b) b)))) ≤
  1000000 ∧
  (((bytesM
  (ofN (BitVec.toNat (List.getD b (Int.toNat 0) 0#8)), (0, 0, List.replicate 32 0#8), 0, List.replicate 32 0#8,
  (0, 0, List.replicate 32 0#8, 0, 0, nilOf (BitVec 8), nilOf (List (BitVec 8) × Int)),
  digsV
  (List.drop (Int.toNat 1)
  (List.take (List.length (List.drop (Int.toNat 1) (List.take (List.length b) b))) (List.drop (Int.toNat 1) (List.take (List.length b) b)))),
  nilOf (BitVec 8))).2 !=
  0 ||
  !(bytesM
  (ofN (BitVec.toNat (List.getD b (Int.toNat 0) 0#8)), (0, 0, List.replicate 32 0#8), 0, List.replicate 32 0#8,
  (0, 0, List.replicate 32 0#8, 0, 0, nilOf (BitVec 8), nilOf (List (BitVec 8) × Int)),
  digsV
  (List.drop (Int.toNat 1)
  (List.take (List.length (List.drop (Int.toNat 1) (List.take (List.length b) b)))
  (List.drop (Int.toNat 1) (List.take (List.length b) b)))),
  nilOf (BitVec 8))).1 ==
  b) =
  true →
  (0 = (parseMs b).1.1 ∧
  0 = (parseMs b).1.2.1.1 ∧
  0 = (parseMs b).1.2.1.2.1 ∧
  List.replicate 32 0#8 = (parseMs b).1.2.1.2.2 ∧
  0 = (parseMs b).1.2.2.1 ∧
  List.replicate 32 0#8 = (parseMs b).1.2.2.2.1 ∧
  0 = (parseMs b).1.2.2.2.2.1.1 ∧
  0 = (parseMs b).1.2.2.2.2.1.2.1 ∧
  List.replicate 32 0#8 = (parseMs b).1.2.2.2.2.1.2.2.1 ∧
  0 = (parseMs b).1.2.2.2.2.1.2.2.2.1 ∧
  0 = (parseMs b).1.2.2.2.2.1.2.2.2.2.1 ∧
  nilOf (BitVec 8) = (parseMs b).1.2.2.2.2.1.2.2.2.2.2.1 ∧
  nilOf (List (BitVec 8) × Int) = (parseMs b).1.2.2.2.2.1.2.2.2.2.2.2 ∧
  nilOf (List (BitVec 8)) = (parseMs b).1.2.2.2.2.2.1 ∧ nilOf (BitVec 8) = (parseMs b).1.2.2.2.2.2.2) ∧
  200 = (parseMs b).2) ∧
  (((bytesM
  (ofN (BitVec.toNat (List.getD b (Int.toNat 0) 0#8)), (0, 0, List.replicate 32 0#8), 0, List.replicate 32 0#8,
  (0, 0, List.replicate 32 0#8, 0, 0, nilOf (BitVec 8), nilOf (List (BitVec 8) × Int)),
  digsV
  (List.drop (Int.toNat 1)
  (List.take (List.length (List.drop (Int.toNat 1) (List.take (List.length b) b))) (List.drop (Int.toNat 1) (List.take (List.length b) b)))),
  nilOf (BitVec 8))).2 !=
  0 ||
  !(bytesM
  (ofN (BitVec.toNat (List.getD b (Int.toNat 0) 0#8)), (0, 0, List.replicate 32 0#8), 0, List.replicate 32 0#8,
  (0, 0, List.replicate 32 0#8, 0, 0, nilOf (BitVec 8), nilOf (List (BitVec 8) × Int)),
  digsV
  (List.drop (Int.toNat 1)
  (List.take (List.length (List.drop (Int.toNat 1) (List.take (List.length b) b)))
  (List.drop (Int.toNat 1) (List.take (List.length b) b)))),
  nilOf (BitVec 8))).1 ==
  b) =
  false →
  (ofN (BitVec.toNat (List.getD b (Int.toNat 0) 0#8)) = (parseMs b).1.1 ∧
  0 = (parseMs b).1.2.1.1 ∧
  0 = (parseMs b).1.2.1.2.1 ∧
  List.replicate 32 0#8 = (parseMs b).1.2.1.2.2 ∧
  0 = (parseMs b).1.2.2.1 ∧
  List.replicate 32 0#8 = (parseMs b).1.2.2.2.1 ∧
  0 = (parseMs b).1.2.2.2.2.1.1 ∧
  0 = (parseMs b).1.2.2.2.2.1.2.1 ∧
  List.replicate 32 0#8 = (parseMs b).1.2.2.2.2.1.2.2.1 ∧
  0 = (parseMs b).1.2.2.2.2.1.2.2.2.1 ∧
  0 = (parseMs b).1.2.2.2.2.1.2.2.2.2.1 ∧
  nilOf (BitVec 8) = (parseMs b).1.2.2.2.2.1.2.2.2.2.2.1 ∧
  nilOf (List (BitVec 8) × Int) = (parseMs b).1.2.2.2.2.1.2.2.2.2.2.2 ∧
  digsV
  (List.drop (Int.toNat 1)
  (List.take (List.length (List.drop (Int.toNat 1) (List.take (List.length b) b)))
  (List.drop (Int.toNat 1) (List.take (List.length b) b)))) =
  (parseMs b).1.2.2.2.2.2.1 ∧
  nilOf (BitVec 8) = (parseMs b).1.2.2.2.2.2.2) ∧
  0 = (parseMs b).2)) ∧
  ((ofN (BitVec.toNat (List.getD b (Int.toNat 0) 0#8)) == 6) = false →
  ((ofN (BitVec.toNat (List.getD b (Int.toNat 0) 0#8)) == 10) = true →
  (ofN 0 ≤ 1 ∧ 1 ≤ ofN (List.length (List.drop (Int.toNat 1) (List.take (List.length b) b)))) ∧
  List.length
  (List.drop (Int.toNat 1)
  (List.take (List.length (List.drop (Int.toNat 1) (List.take (List.length b) b))) (List.drop (Int.toNat 1) (List.take (List.length b) b)))) ≤
  1000000 ∧
  (((bytesM
  (ofN (BitVec.toNat (List.getD b (Int.toNat 0) 0#8)), (0, 0, List.replicate 32 0#8), 0, List.replicate 32 0#8,
  (0, 0, List.replicate 32 0#8, 0, 0, nilOf (BitVec 8), nilOf (List (BitVec 8) × Int)),
  digsV
  (List.drop (Int.toNat 1)
  (List.take (List.length (List.drop (Int.toNat 1) (List.take (List.length b) b)))
  (List.drop (Int.toNat 1) (List.take (List.length b) b)))),
  nilOf (BitVec 8))).2 !=
  0 ||
  !(bytesM
  (ofN (BitVec.toNat (List.getD b (Int.toNat 0) 0#8)), (0, 0, List.replicate 32 0#8), 0, List.replicate 32 0#8,
  (0, 0, List.replicate 32 0#8, 0, 0, nilOf (BitVec 8), nilOf (List (BitVec 8) × Int)),
  digsV
  (List.drop (Int.toNat 1)
  (List.take (List.length (List.drop (Int.toNat 1) (List.take (List.length b) b)))
  (List.drop (Int.toNat 1) (List.take (List.length b) b)))),
  nilOf (BitVec 8))).1 ==
  b) =
  true →
  (0 = (parseMs b).1.1 ∧
  0 = (parseMs b).1.2.1.1 ∧
  0 = (parseMs b).1.2.1.2.1 ∧
  List.replicate 32 0#8 = (parseMs b).1.2.1.2.2 ∧
  0 = (parseMs b).1.2.2.1 ∧
  List.replicate 32 0#8 = (parseMs b).1.2.2.2.1 ∧
  0 = (parseMs b).1.2.2.2.2.1.1 ∧
  0 = (parseMs b).1.2.2.2.2.1.2.1 ∧
  List.replicate 32 0#8 = (parseMs b).1.2.2.2.2.1.2.2.1 ∧
  0 = (parseMs b).1.2.2.2.2.1.2.2.2.1 ∧
  0 = (parseMs b).1.2.2.2.2.1.2.2.2.2.1 ∧
  nilOf (BitVec 8) = (parseMs b).1.2.2.2.2.1.2.2.2.2.2.1 ∧
  nilOf (List (BitVec 8) × Int) = (parseMs b).1.2.2.2.2.1.2.2.2.2.2.2 ∧
  nilOf (List (BitVec 8)) = (parseMs b).1.2.2.2.2.2.1 ∧ nilOf (BitVec 8) = (parseMs b).1.2.2.2.2.2.2) ∧
  200 = (parseMs b).2) ∧
  (((bytesM
  (ofN (BitVec.toNat (List.getD b (Int.toNat 0) 0#8)), (0, 0, List.replicate 32 0#8), 0, List.replicate 32 0#8,
  (0, 0, List.replicate 32 0#8, 0, 0, nilOf (BitVec 8), nilOf (List (BitVec 8) × Int)),
  digsV
  (List.drop (Int.toNat 1)
  (List.take (List.length (List.drop (Int.toNat 1) (List.take (List.length b) b)))
  (List.drop (Int.toNat 1) (List.take (List.length b) b)))),
  nilOf (BitVec 8))).2 !=
  0 ||
  !(bytesM
  (ofN (BitVec.toNat (List.getD b (Int.toNat 0) 0#8)), (0, 0, List.replicate 32 0#8), 0, List.replicate 32 0#8,
  (0, 0, List.replicate 32 0#8, 0, 0, nilOf (BitVec 8), nilOf (List (BitVec 8) × Int)),
  digsV
  (List.drop (Int.toNat 1)
  (List.take (List.length (List.drop (Int.toNat 1) (List.take (List.length b) b)))
  (List.drop (Int.toNat 1) (List.take (List.length b) b)))),
  nilOf (BitVec 8))).1 ==
  b) =
  false →
  (ofN (BitVec.toNat (List.getD b (Int.toNat 0) 0#8)) = (parseMs b).1.1 ∧
  0 = (parseMs b).1.2.1.1 ∧
  0 = (parseMs b).1.2.1.2.1 ∧
  List.replicate 32 0#8 = (parseMs b).1.2.1.2.2 ∧
  0 = (parseMs b).1.2.2.1 ∧
  List.replicate 32 0#8 = (parseMs b).1.2.2.2.1 ∧
  0 = (parseMs b).1.2.2.2.2.1.1 ∧
  0 = (parseMs b).1.2.2.2.2.1.2.1 ∧
  List.replicate 32 0#8 = (parseMs b).1.2.2.2.2.1.2.2.1 ∧
  0 = (parseMs b).1.2.2.2.2.1.2.2.2.1 ∧
  0 = (parseMs b).1.2.2.2.2.1.2.2.2.2.1 ∧
  nilOf (BitVec 8) = (parseMs b).1.2.2.2.2.1.2.2.2.2.2.1 ∧
  nilOf (List (BitVec 8) × Int) = (parseMs b).1.2.2.2.2.1.2.2.2.2.2.2 ∧
  digsV
  (List.drop (Int.toNat 1)
  (List.take (List.length (List.drop (Int.toNat 1) (List.take (List.length b) b)))
  (List.drop (Int.toNat 1) (List.take (List.length b) b)))) =
  (parseMs b).1.2.2.2.2.2.1 ∧
  nilOf (BitVec 8) = (parseMs b).1.2.2.2.2.2.2) ∧
  0 = (parseMs b).2)) ∧
  ((ofN (BitVec.toNat (List.getD b (Int.toNat 0) 0#8)) == 10) = false →
  ((ofN (BitVec.toNat (List.getD b (Int.toNat 0) 0#8)) == 7) = true →
  List.length (List.drop (Int.toNat 1) (List.take (List.length b) b)) ≤ ROOM ∧
  (((bytesM
  (ofN (BitVec.toNat (List.getD b (Int.toNat 0) 0#8)), (0, 0, List.replicate 32 0#8), 0, List.replicate 32 0#8,
  (0, 0, List.replicate 32 0#8, 0, 0, nilOf (BitVec 8), nilOf (List (BitVec 8) × Int)), nilOf (List (BitVec 8)),
  List.drop (Int.toNat 1) (List.take (List.length b) b))).2 !=
  0 ||
  !(bytesM
  (ofN (BitVec.toNat (List.getD b (Int.toNat 0) 0#8)), (0, 0, List.replicate 32 0#8), 0, List.replicate 32 0#8,
  (0, 0, List.replicate 32 0#8, 0, 0, nilOf (BitVec 8), nilOf (List (BitVec 8) × Int)), nilOf (List (BitVec 8)),
  List.drop (Int.toNat 1) (List.take (List.length b) b))).1 ==
  b) =
  true →
  (0 = (parseMs b).1.1 ∧
  0 = (parseMs b).1.2.1.1 ∧
  0 = (parseMs b).1.2.1.2.1 ∧
  List.replicate 32 0#8 = (parseMs b).1.2.1.2.2 ∧
  0 = (parseMs b).1.2.2.1 ∧
  List.replicate 32 0#8 = (parseMs b).1.2.2.2.1 ∧
  0 = (parseMs b).1.2.2.2.2.1.1 ∧
  0 = (parseMs b).1.2.2.2.2.1.2.1 ∧
  List.replicate 32 0#8 = (parseMs b).1.2.2.2.2.1.2.2.1 ∧
  0 = (parseMs b).1.2.2.2.2.1.2.2.2.1 ∧
  0 = (parseMs b).1.2.2.2.2.1.2.2.2.2.1 ∧
  nilOf (BitVec 8) = (parseMs b).1.2.2.2.2.1.2.2.2.2.2.1 ∧
  nilOf (List (BitVec 8) × Int) = (parseMs b).1.2.2.2.2.1.2.2.2.2.2.2 ∧
  nilOf (List (BitVec 8)) = (parseMs b).1.2.2.2.2.2.1 ∧ nilOf (BitVec 8) = (parseMs b).1.2.2.2.2.2.2) ∧
  200 = (parseMs b).2) ∧
  (((bytesM
  (ofN (BitVec.toNat (List.getD b (Int.toNat 0) 0#8)), (0, 0, List.replicate 32 0#8), 0, List.replicate 32 0#8,
  (0, 0, List.replicate 32 0#8, 0, 0, nilOf (BitVec 8), nilOf (List (BitVec 8) × Int)), nilOf (List (BitVec 8)),
  List.drop (Int.toNat 1) (List.take (List.length b) b))).2 !=
  0 ||
  !(bytesM
  (ofN (BitVec.toNat (List.getD b (Int.toNat 0) 0#8)), (0, 0, List.replicate 32 0#8), 0, List.replicate 32 0#8,
  (0, 0, List.replicate 32 0#8, 0, 0, nilOf (BitVec 8), nilOf (List (BitVec 8) × Int)), nilOf (List (BitVec 8)),
  List.drop (Int.toNat 1) (List.take (List.length b) b))).1 ==
  b) =
  false →
  (ofN (BitVec.toNat (List.getD b (Int.toNat 0) 0#8)) = (parseMs b).1.1 ∧
  0 = (parseMs b).1.2.1.1 ∧
  0 = (parseMs b).1.2.1.2.1 ∧
  List.replicate 32 0#8 = (parseMs b).1.2.1.2.2 ∧
  0 = (parseMs b).1.2.2.1 ∧
  List.replicate 32 0#8 = (parseMs b).1.2.2.2.1 ∧
  0 = (parseMs b).1.2.2.2.2.1.1 ∧
  0 = (parseMs b).1.2.2.2.2.1.2.1 ∧
  List.replicate 32 0#8 = (parseMs b).1.2.2.2.2.1.2.2.1 ∧
  0 = (parseMs b).1.2.2.2.2.1.2.2.2.1 ∧
  0 = (parseMs b).1.2.2.2.2.1.2.2.2.2.1 ∧
  nilOf (BitVec 8) = (parseMs b).1.2.2.2.2.1.2.2.2.2.2.1 ∧
  nilOf (List (BitVec 8) × Int) = (parseMs b).1.2.2.2.2.1.2.2.2.2.2.2 ∧
  nilOf (List (BitVec 8)) = (parseMs b).1.2.2.2.2.2.1 ∧
  List.drop (Int.toNat 1) (List.take (List.length b) b) = (parseMs b).1.2.2.2.2.2.2) ∧
  0 = (parseMs b).2)) ∧
  ((ofN (BitVec.toNat (List.getD b (Int.toNat 0) 0#8)) == 7) = false →
  ((ofN (BitVec.toNat (List.getD b (Int.toNat 0) 0#8)) == 8) = true →
  List.length (List.drop (Int.toNat 1) (List.take (List.length b) b)) ≤ 1000000 ∧
  (((bytesM
  (ofN (BitVec.toNat (List.getD b (Int.toNat 0) 0#8)), (0, 0, List.replicate 32 0#8), 0,
  fstDig (List.drop (Int.toNat 1) (List.take (List.length b) b)),
  (0, 0, List.replicate 32 0#8, 0, 0, nilOf (BitVec 8), nilOf (List (BitVec 8) × Int)), nilOf (List (BitVec 8)), nilOf (BitVec 8))).2 !=
  0 ||
  !(bytesM
  (ofN (BitVec.toNat (List.getD b (Int.toNat 0) 0#8)), (0, 0, List.replicate 32 0#8), 0,
  fstDig (List.drop (Int.toNat 1) (List.take (List.length b) b)),
  (0, 0, List.replicate 32 0#8, 0, 0, nilOf (BitVec 8), nilOf (List (BitVec 8) × Int)), nilOf (List (BitVec 8)),
  nilOf (BitVec 8))).1 ==
  b) =
  true →
  (0 = (parseMs b).1.1 ∧
  0 = (parseMs b).1.2.1.1 ∧
  0 = (parseMs b).1.2.1.2.1 ∧
  List.replicate 32 0#8 = (parseMs b).1.2.1.2.2 ∧
  0 = (parseMs b).1.2.2.1 ∧
  List.replicate 32 0#8 = (parseMs b).1.2.2.2.1 ∧
  0 = (parseMs b).1.2.2.2.2.1.1 ∧
  0 = (parseMs b).1.2.2.2.2.1.2.1 ∧
  List.replicate 32 0#8 = (parseMs b).1.2.2.2.2.1.2.2.1 ∧
  0 = (parseMs b).1.2.2.2.2.1.2.2.2.1 ∧
  0 = (parseMs b).1.2.2.2.2.1.2.2.2.2.1 ∧
  nilOf (BitVec 8) = (parseMs b).1.2.2.2.2.1.2.2.2.2.2.1 ∧
  nilOf (List (BitVec 8) × Int) = (parseMs b).1.2.2.2.2.1.2.2.2.2.2.2 ∧
  nilOf (List (BitVec 8)) = (parseMs b).1.2.2.2.2.2.1 ∧ nilOf (BitVec 8) = (parseMs b).1.2.2.2.2.2.2) ∧
  200 = (parseMs b).2) ∧
  (((bytesM
  (ofN (BitVec.toNat (List.getD b (Int.toNat 0) 0#8)), (0, 0, List.replicate 32 0#8), 0,
  fstDig (List.drop (Int.toNat 1) (List.take (List.length b) b)),
  (0, 0, List.replicate 32 0#8, 0, 0, nilOf (BitVec 8), nilOf (List (BitVec 8) × Int)), nilOf (List (BitVec 8)), nilOf (BitVec 8))).2 !=
  0 ||
  !(bytesM
  (ofN (BitVec.toNat (List.getD b (Int.toNat 0) 0#8)), (0, 0, List.replicate 32 0#8), 0,
  fstDig (List.drop (Int.toNat 1) (List.take (List.length b) b)),
  (0, 0, List.replicate 32 0#8, 0, 0, nilOf (BitVec 8), nilOf (List (BitVec 8) × Int)), nilOf (List (BitVec 8)),
  nilOf (BitVec 8))).1 ==
  b) =
  false →
  (ofN (BitVec.toNat (List.getD b (Int.toNat 0) 0#8)) = (parseMs b).1.1 ∧
  0 = (parseMs b).1.2.1.1 ∧
  0 = (parseMs b).1.2.1.2.1 ∧
  List.replicate 32 0#8 = (parseMs b).1.2.1.2.2 ∧
  0 = (parseMs b).1.2.2.1 ∧
  fstDig (List.drop (Int.toNat 1) (List.take (List.length b) b)) = (parseMs b).1.2.2.2.1 ∧
  0 = (parseMs b).1.2.2.2.2.1.1 ∧
  0 = (parseMs b).1.2.2.2.2.1.2.1 ∧
  List.replicate 32 0#8 = (parseMs b).1.2.2.2.2.1.2.2.1 ∧
  0 = (parseMs b).1.2.2.2.2.1.2.2.2.1 ∧
  0 = (parseMs b).1.2.2.2.2.1.2.2.2.2.1 ∧
  nilOf (BitVec 8) = (parseMs b).1.2.2.2.2.1.2.2.2.2.2.1 ∧
  nilOf (List (BitVec 8) × Int) = (parseMs b).1.2.2.2.2.1.2.2.2.2.2.2 ∧
  nilOf (List (BitVec 8)) = (parseMs b).1.2.2.2.2.2.1 ∧ nilOf (BitVec 8) = (parseMs b).1.2.2.2.2.2.2) ∧
  0 = (parseMs b).2)) ∧
  ((ofN (BitVec.toNat (List.getD b (Int.toNat 0) 0#8)) == 8) = false →
  (((bytesM
  (ofN (BitVec.toNat (List.getD b (Int.toNat 0) 0#8)), (0, 0, List.replicate 32 0#8), 0, List.replicate 32 0#8,
  (0, 0, List.replicate 32 0#8, 0, 0, nilOf (BitVec 8), nilOf (List (BitVec 8) × Int)), nilOf (List (BitVec 8)), nilOf (BitVec 8))).2 !=
  0 ||
  !(bytesM
  (ofN (BitVec.toNat (List.getD b (Int.toNat 0) 0#8)), (0, 0, List.replicate 32 0#8), 0, List.replicate 32 0#8,
  (0, 0, List.replicate 32 0#8, 0, 0, nilOf (BitVec 8), nilOf (List (BitVec 8) × Int)), nilOf (List (BitVec 8)), nilOf (BitVec 8))).1 ==
  b) =
  true →
  (0 = (parseMs b).1.1 ∧
  0 = (parseMs b).1.2.1.1 ∧
  0 = (parseMs b).1.2.1.2.1 ∧
  List.replicate 32 0#8 = (parseMs b).1.2.1.2.2 ∧
  0 = (parseMs b).1.2.2.1 ∧
  List.replicate 32 0#8 = (parseMs b).1.2.2.2.1 ∧
  0 = (parseMs b).1.2.2.2.2.1.1 ∧
  0 = (parseMs b).1.2.2.2.2.1.2.1 ∧
  List.replicate 32 0#8 = (parseMs b).1.2.2.2.2.1.2.2.1 ∧
  0 = (parseMs b).1.2.2.2.2.1.2.2.2.1 ∧
  0 = (parseMs b).1.2.2.2.2.1.2.2.2.2.1 ∧
  nilOf (BitVec 8) = (parseMs b).1.2.2.2.2.1.2.2.2.2.2.1 ∧
  nilOf (List (BitVec 8) × Int) = (parseMs b).1.2.2.2.2.1.2.2.2.2.2.2 ∧
  nilOf (List (BitVec 8)) = (parseMs b).1.2.2.2.2.2.1 ∧ nilOf (BitVec 8) = (parseMs b).1.2.2.2.2.2.2) ∧
  200 = (parseMs b).2) ∧
  (((bytesM
  (ofN (BitVec.toNat (List.getD b (Int.toNat 0) 0#8)), (0, 0, List.replicate 32 0#8), 0, List.replicate 32 0#8,
  (0, 0, List.replicate 32 0#8, 0, 0, nilOf (BitVec 8), nilOf (List (BitVec 8) × Int)), nilOf (List (BitVec 8)), nilOf (BitVec 8))).2 !=
  0 ||
  !(bytesM
  (ofN (BitVec.toNat (List.getD b (Int.toNat 0) 0#8)), (0, 0, List.replicate 32 0#8), 0, List.replicate 32 0#8,
  (0, 0, List.replicate 32 0#8, 0, 0, nilOf (BitVec 8), nilOf (List (BitVec 8) × Int)), nilOf (List (BitVec 8)), nilOf (BitVec 8))).1 ==
  b) =
  false →
  (ofN (BitVec.toNat (List.getD b (Int.toNat 0) 0#8)) = (parseMs b).1.1 ∧
  0 = (parseMs b).1.2.1.1 ∧
  0 = (parseMs b).1.2.1.2.1 ∧
  List.replicate 32 0#8 = (parseMs b).1.2.1.2.2 ∧
  0 = (parseMs b).1.2.2.1 ∧
  List.replicate 32 0#8 = (parseMs b).1.2.2.2.1 ∧
  0 = (parseMs b).1.2.2.2.2.1.1 ∧
  0 = (parseMs b).1.2.2.2.2.1.2.1 ∧
  List.replicate 32 0#8 = (parseMs b).1.2.2.2.2.1.2.2.1 ∧
  0 = (parseMs b).1.2.2.2.2.1.2.2.2.1 ∧
  0 = (parseMs b).1.2.2.2.2.1.2.2.2.2.1 ∧
  nilOf (BitVec 8) = (parseMs b).1.2.2.2.2.1.2.2.2.2.2.1 ∧
  nilOf (List (BitVec 8) × Int) = (parseMs b).1.2.2.2.2.1.2.2.2.2.2.2 ∧
  nilOf (List (BitVec 8)) = (parseMs b).1.2.2.2.2.2.1 ∧ nilOf (BitVec 8) = (parseMs b).1.2.2.2.2.2.2) ∧
  0 = (parseMs b).2)))))))))))) := by
 have e1 : List.drop (Int.toNat 1) (List.take (List.length b) b) = b.drop 1 := by rw [List.take_length]; rfl
 have ek : ofN (BitVec.toNat (List.getD b (Int.toNat 0) 0#8)) = kindM b := rfl
 rw [e1, ek]
 unfold within
 refine ⟨fun g => ?_, fun g => ?_⟩
 · simp only [decide_eq_true_eq] at g
   have : ¬ (2 ≤ b.length ∧ bytesM (parseX b) = (b, 0)) := fun h => by have := h.1; unfold ofN at g; omega
   unfold parseMs
   rw [if_neg this]
   exact ⟨msg_is (x := msg0) rfl, rfl⟩
 simp only [decide_eq_false_iff_not] at g
 have hl : 2 ≤ b.length := by unfold ofN at g; omega
 have hd : (b.drop 1).length ≤ 1000000 := by rw [List.length_drop]; omega
 have hn : (numR (b.drop 1)).length ≤ 1000000 := Nat.le_trans (numR_len _) hd
 have hnn : (numR (numR (b.drop 1))).length ≤ 1000000 := Nat.le_trans (numR_len _) hn
 have e2 : List.drop (Int.toNat 1) (List.take (List.length (b.drop 1)) (b.drop 1)) = b.drop 2 := by rw [List.take_length, List.drop_drop]; rfl
 refine ⟨by omega, ⟨by unfold ofN; omega, by unfold ofN; omega⟩, ?_⟩
 refine ⟨fun g1 => ?_, fun n1 => ?_⟩
 · have g1 : kindM b = 1 := by simpa using g1
   have hX : parseX b = ((1 : Int), (numV (b.drop 1), numV (numR (b.drop 1)), fstDig (numR (numR (b.drop 1)))), 0, zero32, rec0, [], []) := by unfold parseX; rw [g1]; rfl
   rw [g1]
   exact ⟨hnn, parse_leaf hl hX⟩
 refine ⟨fun g9 => ?_, fun n9 => ?_⟩
 · have g9 : kindM b = 9 := by simpa using g9
   have hX : parseX b = ((9 : Int), (numV (b.drop 1), numV (numR (b.drop 1)), fstDig (numR (numR (b.drop 1)))), 0, zero32, rec0, [], []) := by unfold parseX; rw [g9]; rfl
   rw [g9]
   exact ⟨hnn, parse_leaf hl hX⟩
 refine ⟨fun g2 => ?_, fun n2 => ?_⟩
 · have g2 : kindM b = 2 := by simpa using g2
   have hX : parseX b = ((2 : Int), head0, numV (b.drop 1), zero32, rec0, [], []) := by unfold parseX; rw [g2]; rfl
   rw [g2]
   exact parse_leaf hl hX
 refine ⟨fun g3 => ?_, fun n3 => ?_⟩
 · have g3 : kindM b = 3 := by simpa using g3
   have hX : parseX b = ((3 : Int), head0, numV (b.drop 1), fstDig (numR (b.drop 1)), rec0, [], []) := by unfold parseX; rw [g3]; rfl
   rw [g3]
   exact ⟨hn, parse_leaf hl hX⟩
 refine ⟨fun g4 => ?_, fun n4 => ?_⟩
 · have g4 : kindM b = 4 := by simpa using g4
   have hX : parseX b = ((4 : Int), head0, numV (b.drop 1), fstDig (numR (b.drop 1)), rec0, [], []) := by unfold parseX; rw [g4]; rfl
   rw [g4]
   exact ⟨hn, parse_leaf hl hX⟩
 refine ⟨fun g5 => ?_, fun n5 => ?_⟩
 · have g5 : kindM b = 5 := by simpa using g5
   have hX : parseX b = ((5 : Int), head0, 0, zero32, (parseV (b.drop 1)).1, [], []) := by unfold parseX; rw [g5]; rfl
   rw [g5]
   exact parse_leaf hl hX
 refine ⟨fun g6 => ?_, fun n6 => ?_⟩
 · have g6 : kindM b = 6 := by simpa using g6
   have hX : parseX b = ((6 : Int), head0, 0, zero32, rec0, digsV (b.drop 2), []) := by unfold parseX; rw [g6]; rfl
   rw [g6, e2]
   exact ⟨⟨by decide, by unfold ofN; rw [List.length_drop]; omega⟩, by rw [List.length_drop]; omega, parse_leaf hl hX⟩
 refine ⟨fun g10 => ?_, fun n10 => ?_⟩
 · have g10 : kindM b = 10 := by simpa using g10
   have hX : parseX b = ((10 : Int), head0, 0, zero32, rec0, digsV (b.drop 2), []) := by unfold parseX; rw [g10]; rfl
   rw [g10, e2]
   exact ⟨⟨by decide, by unfold ofN; rw [List.length_drop]; omega⟩, by rw [List.length_drop]; omega, parse_leaf hl hX⟩
 refine ⟨fun g7 => ?_, fun n7 => ?_⟩
 · have g7 : kindM b = 7 := by simpa using g7
   have hX : parseX b = ((7 : Int), head0, 0, zero32, rec0, [], b.drop 1) := by unfold parseX; rw [g7]; rfl
   rw [g7]
   exact ⟨Nat.le_trans hd (by decide), parse_leaf hl hX⟩
 refine ⟨fun g8 => ?_, fun n8 => ?_⟩
 · have g8 : kindM b = 8 := by simpa using g8
   have hX : parseX b = ((8 : Int), head0, 0, fstDig (b.drop 1), rec0, [], []) := by unfold parseX; rw [g8]; rfl
   rw [g8]
   exact ⟨hd, parse_leaf hl hX⟩
 have hX : parseX b = (kindM b, head0, 0, zero32, rec0, [], []) := by unfold parseX; exact sel_no n1 n9 n2 n3 n4 n5 n6 n10 n7 n8
 exact parse_leaf hl hX

def an_less (a b : DigP) : Nat → SState → Option LoopAnn
 | 2, _ => some { X := Nat, slots := fun i => [(5, .sv (.dv (.i64 i)))], objs := fun _ => [], inv := fun i => i ≤ 32 ∧ a.take i = b.take i, meas := fun i => 32 - i }
 | _, _ => none

theorem less_at : ∀ (x : Nat) {a b : Bytes}, a.take x = b.take x → x < a.length → x < b.length → ¬ a.getD x 0#8 = b.getD x 0#8 → lessL a b = decide (a.getD x 0#8 < b.getD x 0#8)
 | 0, c :: a, d :: b, _, _, _, hne => by
   simp only [List.getD_cons_zero] at hne ⊢
   unfold lessL
   simp [hne]
 | x + 1, c :: a, d :: b, h, ha, hb, hne => by
   simp only [List.take_succ_cons, List.cons.injEq] at h
   simp only [List.getD_cons_succ] at hne ⊢
   rw [← less_at x h.2 (by simpa using ha) (by simpa using hb) hne]
   have e : lessL (c :: a) (d :: b) = (decide (c < d) || (c == d && lessL a b)) := rfl
   rw [e, h.1]
   simp
 | _, [], _, _, h, _, _ => by simp at h
 | _, _ :: _, [], _, _, h, _ => by simp at h

theorem ref12_Less_vc (a b : DigP) (ha : a.length = 32) (hb : b.length = 32) :
 (∃ (x : Nat), (x ≤ 32 ∧ List.take x a = List.take x b) ∧ 0 = ofN x) ∧
  ∀ (x : Nat),
  x ≤ 32 ∧ List.take x a = List.take x b →
  (decide (ofN x < 32) = true →
  within (ofN x) 32 ∧
  within (ofN x) 32 ∧
  ((List.getD a (Int.toNat (ofN x)) 0#8 != List.getD b (Int.toNat (ofN x)) 0#8) = true →
  within (ofN x) 32 ∧ within (ofN x) 32 ∧ decide (List.getD a (Int.toNat (ofN x)) 0#8 < List.getD b (Int.toNat (ofN x)) 0#8) = lessL a b) ∧
  ((List.getD a (Int.toNat (ofN x)) 0#8 != List.getD b (Int.toNat (ofN x)) 0#8) = false →
  inI64 (ofN x + 1) ∧ ∃ (x' : Nat), (x' ≤ 32 ∧ List.take x' a = List.take x' b) ∧ 32 - x' < 32 - x ∧ ofN x + 1 = ofN x')) ∧
  (decide (ofN x < 32) = false → false = lessL a b) := by
 unfold within inI64 ofN
 refine ⟨⟨0, ⟨by omega, rfl⟩, rfl⟩, fun x hx => ⟨fun g => ?_, fun g => ?_⟩⟩
 · simp only [decide_eq_true_eq] at g
   have hlt : x < 32 := by omega
   have e2 : ((x : Int)).toNat = x := by omega
   rw [e2]
   refine ⟨by omega, by omega, fun h => ⟨by omega, by omega, ?_⟩, fun h => ⟨by omega, x + 1, ⟨by omega, ?_⟩, by omega, by omega⟩⟩
   · rw [less_at x hx.2 (by omega) (by omega) (by simpa using h)]
   · have h : a.getD x 0#8 = b.getD x 0#8 := by simpa using h
     rw [take_snoc' (d := 0#8) (by omega), take_snoc' (d := 0#8) (by omega), hx.2, h]
 · simp only [decide_eq_false_iff_not] at g
   have e : x = 32 := by omega
   have h := hx.2
   rw [e, List.take_of_length_le (by omega), List.take_of_length_le (by omega)] at h
   rw [h, lessL_irr]

def x_digs (S : SState) (i : Nat) : List DigP := match S.get i with
 | .sv (.own _ t xs) => if h : t = T_Dig then castL h xs else []
 | _ => []

def an_sort12 (l : List DigP) : Nat → SState → Option LoopAnn
 | 3, S => some { X := Nat, slots := fun j => [(4, .sv (.own 11 T_Dig (restI l j))), (3, .sv (.own 10 T_Dig (outI l j)))], objs := fun _ => [(x_tok S 4, .gone), (x_tok S 3, .gone), (11, .tok t_api_Digest 32), (10, .tok t_api_Digest 32)], inv := fun j => j ≤ l.length, meas := fun j => l.length - j }
 | 6, S => some { X := Nat, slots := fun i => [(6, .sv (.dv (.i64 i))), (5, .sv (.dv (.i64 (minTo (x_digs S 4) i))))], objs := fun _ => [], inv := fun i => 1 ≤ i ∧ i ≤ (x_digs S 4).length, meas := fun i => (x_digs S 4).length - i }
 | _, _ => none

theorem ref12_Rising_vc (l : List DigP) (hl : l.length ≤ 1000000) :
 List.length (nilOf (List (BitVec 8))) + List.length l ≤ ROOM ∧
  (∃ (x : Nat), x ≤ List.length l ∧ nilOf (List (BitVec 8)) ++ l = restI l x ∧ outI l x = nilOf (List (BitVec 8))) ∧
  ∀ (x : Nat),
  x ≤ List.length l →
  (decide (0 < ofN (List.length (restI l x))) = true →
  (∃ (x_1 : Nat), (1 ≤ x_1 ∧ x_1 ≤ List.length (restI l x)) ∧ 1 = ofN x_1 ∧ 0 = ofN (minTo (restI l x) x_1)) ∧
  ∀ (x_1 : Nat),
  1 ≤ x_1 ∧ x_1 ≤ List.length (restI l x) →
  (decide (ofN x_1 < ofN (List.length (restI l x))) = true →
  within (ofN x_1) (List.length (restI l x)) ∧
  within (ofN (minTo (restI l x) x_1)) (List.length (restI l x)) ∧
  (lessL (List.getD (restI l x) (Int.toNat (ofN x_1)) (T.dflt (T.arr 32 T.u8))) (List.getD (restI l x) (Int.toNat (ofN (minTo (restI l x) x_1))) (T.dflt (T.arr 32 T.u8))) =
  true →
  inI64 (ofN x_1 + 1) ∧
  ∃ (x' : Nat),
  (1 ≤ x' ∧ x' ≤ List.length (restI l x)) ∧
  List.length (restI l x) - x' < List.length (restI l x) - x_1 ∧ ofN x_1 + 1 = ofN x' ∧ ofN x_1 = ofN (minTo (restI l x) x')) ∧
  (lessL (List.getD (restI l x) (Int.toNat (ofN x_1)) (T.dflt (T.arr 32 T.u8))) (List.getD (restI l x) (Int.toNat (ofN (minTo (restI l x) x_1))) (T.dflt (T.arr 32 T.u8))) =
  false →
  inI64 (ofN x_1 + 1) ∧
  ∃ (x' : Nat),
  (1 ≤ x' ∧ x' ≤ List.length (restI l x)) ∧
  List.length (restI l x) - x' < List.length (restI l x) - x_1 ∧ ofN x_1 + 1 = ofN x' ∧ ofN (minTo (restI l x) x_1) = ofN (minTo (restI l x) x'))) ∧
  (decide (ofN x_1 < ofN (List.length (restI l x))) = false →
  within (ofN (minTo (restI l x) x_1)) (List.length (restI l x)) ∧
  List.length (outI l x) + List.length [List.getD (restI l x) (Int.toNat (ofN (minTo (restI l x) x_1))) (T.dflt (T.arr 32 T.u8))] ≤ ROOM ∧
  (0 ≤ ofN (minTo (restI l x) x_1) ∧ ofN (minTo (restI l x) x_1) ≤ ofN (List.length (restI l x))) ∧
  List.length (nilOf (List (BitVec 8))) + List.length (List.drop 0 (List.take (Int.toNat (ofN (minTo (restI l x) x_1))) (restI l x))) ≤ ROOM ∧
  inI64 (ofN (minTo (restI l x) x_1) + 1) ∧
  (0 ≤ ofN (minTo (restI l x) x_1) + 1 ∧ ofN (minTo (restI l x) x_1) + 1 ≤ ofN (List.length (restI l x))) ∧
  List.length (nilOf (List (BitVec 8)) ++ List.drop 0 (List.take (Int.toNat (ofN (minTo (restI l x) x_1))) (restI l x))) +
  List.length (List.drop (Int.toNat (ofN (minTo (restI l x) x_1) + 1)) (List.take (List.length (restI l x)) (restI l x))) ≤
  ROOM ∧
  ∃ (x' : Nat),
  x' ≤ List.length l ∧
  List.length l - x' < List.length l - x ∧
  nilOf (List (BitVec 8)) ++ List.drop 0 (List.take (Int.toNat (ofN (minTo (restI l x) x_1))) (restI l x)) ++
  List.drop (Int.toNat (ofN (minTo (restI l x) x_1) + 1)) (List.take (List.length (restI l x)) (restI l x)) =
  restI l x' ∧
  outI l x ++ [List.getD (restI l x) (Int.toNat (ofN (minTo (restI l x) x_1))) (T.dflt (T.arr 32 T.u8))] = outI l x')) ∧
  (decide (0 < ofN (List.length (restI l x))) = false → outI l x = sortV l) := by
 unfold ROOM within inI64 ofN
 refine ⟨by simp; omega, ⟨0, by omega, rfl, rfl⟩, fun x hx => ⟨fun g => ?_, fun g => ?_⟩⟩
 · simp only [decide_eq_true_eq] at g
   have hlen := restI_length l x hx
   have hxl : x < l.length := by omega
   have hol := outI_length l x
   generalize hL : restI l x = L at *
   refine ⟨⟨1, by omega, rfl, by rw [show minTo L 1 = 0 from by show (if _ then 0 else 0) = 0; split <;> rfl]; rfl⟩, fun i hi => ⟨fun h => ?_, fun h => ?_⟩⟩
   · simp only [decide_eq_true_eq] at h
     have hm := minTo_lt L i hi.1
     have e1 : ((i : Int)).toNat = i := by omega
     have e2 : ((minTo L i : Int)).toNat = minTo L i := by omega
     rw [e1, e2]
     refine ⟨by omega, by omega, fun q => ⟨by omega, i + 1, by omega, by omega, by omega, ?_⟩, fun q => ⟨by omega, i + 1, by omega, by omega, by omega, ?_⟩⟩
     · rw [minTo, if_pos q]
     · rw [minTo, if_neg (by rw [q]; decide)]
   · simp only [decide_eq_false_iff_not] at h
     have ei : i = L.length := by omega
     subst ei
     have hm := minTo_lt L L.length hi.1
     have e2 : ((minTo L L.length : Int)).toNat = minTo L L.length := by omega
     have e3 : ((minTo L L.length : Int) + 1).toNat = minTo L L.length + 1 := by omega
     rw [e2, e3, List.take_length, List.drop_zero]
     refine ⟨by omega, by rw [hol, List.length_cons, List.length_nil]; omega, by omega, by simp; omega, by omega, by omega, ?_, x + 1, by omega, by omega, ?_, ?_⟩
     · simp; omega
     · show [] ++ _ ++ _ = restI l (x + 1)
       rw [restI, hL, List.nil_append]; rfl
     · rw [outI_succ, hL]; rfl
 · simp only [decide_eq_false_iff_not] at g
   have hlen := restI_length l x hx
   have : x = l.length := by omega
   subst this
   rfl

def an_ris20 (l : List DigP) : Nat → SState → Option LoopAnn
 | 4, S => some { X := Nat, slots := fun i => [(5, .sv (.dv (.i64 i))), (3, .sv (.own 10 T_Dig (onceI (sortV l) i)))], objs := fun _ => [(x_tok S 3, .gone), (10, .tok t_api_Digest 32)], inv := fun i => i ≤ (sortV l).length, meas := fun i => (sortV l).length - i }
 | _, _ => none

theorem ref20_Rising_vc (l : List DigP) (hl : l.length ≤ 1000000) :
 List.length l ≤ 1000000 ∧
  (∃ (x : Nat), x ≤ List.length (sortV l) ∧ 0 = ofN x ∧ onceI (sortV l) x = nilOf (List (BitVec 8))) ∧
  ∀ (x : Nat),
  x ≤ List.length (sortV l) →
  (decide (ofN x < ofN (List.length (sortV l))) = true →
  ((ofN x == 0) = false → within (ofN x) (List.length (sortV l))) ∧
  ((ofN x == 0) = false → inI64 (ofN x - 1)) ∧
  ((ofN x == 0) = false → within (ofN x - 1) (List.length (sortV l))) ∧
  ((ofN x == 0 || !eqL T.u8 (List.getD (sortV l) (Int.toNat (ofN x)) (T.dflt (T.arr 32 T.u8))) (List.getD (sortV l) (Int.toNat (ofN x - 1)) (T.dflt (T.arr 32 T.u8)))) = true →
  within (ofN x) (List.length (sortV l)) ∧
  List.length (onceI (sortV l) x) + List.length [List.getD (sortV l) (Int.toNat (ofN x)) (T.dflt (T.arr 32 T.u8))] ≤ ROOM ∧
  inI64 (ofN x + 1) ∧
  ∃ (x' : Nat),
  x' ≤ List.length (sortV l) ∧
  List.length (sortV l) - x' < List.length (sortV l) - x ∧
  ofN x + 1 = ofN x' ∧ onceI (sortV l) x ++ [List.getD (sortV l) (Int.toNat (ofN x)) (T.dflt (T.arr 32 T.u8))] = onceI (sortV l) x') ∧
  ((ofN x == 0 || !eqL T.u8 (List.getD (sortV l) (Int.toNat (ofN x)) (T.dflt (T.arr 32 T.u8))) (List.getD (sortV l) (Int.toNat (ofN x - 1)) (T.dflt (T.arr 32 T.u8)))) = false →
  inI64 (ofN x + 1) ∧
  ∃ (x' : Nat), x' ≤ List.length (sortV l) ∧ List.length (sortV l) - x' < List.length (sortV l) - x ∧ ofN x + 1 = ofN x' ∧ onceI (sortV l) x = onceI (sortV l) x')) ∧
  (decide (ofN x < ofN (List.length (sortV l))) = false → onceI (sortV l) x = risV l) := by
 unfold ROOM within inI64 ofN
 have hsl := sort_length l
 refine ⟨hl, ⟨0, by omega, rfl, rfl⟩, fun x hx => ⟨fun g => ?_, fun g => ?_⟩⟩
 · simp only [decide_eq_true_eq] at g
   have hol : (onceI (sortV l) x).length ≤ x := by
    unfold onceI
    rw [List.length_map]
    exact Nat.le_trans (List.length_filter_le _ _) (by simp)
   have e1 : ((x : Int)).toNat = x := by omega
   have e2 : ((x : Int) - 1).toNat = x - 1 := by omega
   have ek : ((x : Int) == 0 || !eqL T.u8 (List.getD (sortV l) ((x : Int)).toNat (T.dflt (T.arr 32 T.u8))) (List.getD (sortV l) ((x : Int) - 1).toNat (T.dflt (T.arr 32 T.u8)))) = keepB (sortV l) x := by
    rw [e1, e2, eqL_u8]
    unfold keepB
    congr 1
    rw [Bool.eq_iff_iff, beq_iff_eq, decide_eq_true_eq]
    omega
   rw [ek, e1]
   refine ⟨fun h => by omega, fun h => by omega, fun h => by have : ¬ (x : Int) = 0 := by simpa using h
                                                             omega, fun h => ⟨by omega, ?_, by omega, x + 1, by omega, by omega, by omega, ?_⟩, fun h => ⟨by omega, x + 1, by omega, by omega, by omega, ?_⟩⟩
   · rw [List.length_cons, List.length_nil]; omega
   · rw [onceI_succ, if_pos h]
   · rw [onceI_succ, if_neg (by rw [h]; decide)]
 · simp only [decide_eq_false_iff_not] at g
   have : x = (sortV l).length := by omega
   subst this
   rfl

def an_same12 (a b : List DigP) : Nat → SState → Option LoopAnn
 | 4, _ => some { X := Nat, slots := fun i => [(5, .sv (.dv (.i64 i)))], objs := fun _ => [], inv := fun i => i ≤ a.length ∧ a.take i = b.take i, meas := fun i => a.length - i }
 | _, _ => none

theorem ref12_Same_vc (a b : List DigP) (hl : a.length ≤ LIM) :
 ((ofN (List.length a) != ofN (List.length b)) = true → false = sameDg a b) ∧
  ((ofN (List.length a) != ofN (List.length b)) = false →
  (∃ (x : Nat), (x ≤ List.length a ∧ List.take x a = List.take x b) ∧ 0 = ofN x) ∧
  ∀ (x : Nat),
  x ≤ List.length a ∧ List.take x a = List.take x b →
  (decide (ofN x < ofN (List.length a)) = true →
  within (ofN x) (List.length a) ∧
  within (ofN x) (List.length b) ∧
  ((!eqL T.u8 (List.getD a (Int.toNat (ofN x)) (T.dflt (T.arr 32 T.u8))) (List.getD b (Int.toNat (ofN x)) (T.dflt (T.arr 32 T.u8)))) = true → false = sameDg a b) ∧
  ((!eqL T.u8 (List.getD a (Int.toNat (ofN x)) (T.dflt (T.arr 32 T.u8))) (List.getD b (Int.toNat (ofN x)) (T.dflt (T.arr 32 T.u8)))) = false →
  inI64 (ofN x + 1) ∧ ∃ (x' : Nat), (x' ≤ List.length a ∧ List.take x' a = List.take x' b) ∧ List.length a - x' < List.length a - x ∧ ofN x + 1 = ofN x')) ∧
  (decide (ofN x < ofN (List.length a)) = false → true = sameDg a b)) := by
 unfold inI64 within ofN sameDg
 unfold LIM at hl
 refine ⟨fun g => ?_, fun g => ?_⟩
 · simp only [bne_iff_ne, ne_eq] at g
   rw [eq_comm, decide_eq_false_iff_not]
   rintro rfl
   exact g rfl
 · have g : a.length = b.length := by have : (a.length : Int) = b.length := by simpa using g
                                      omega
   refine ⟨⟨0, ⟨by omega, rfl⟩, rfl⟩, fun x hx => ⟨fun h => ?_, fun h => ?_⟩⟩
   · simp only [decide_eq_true_eq] at h
     have hlt : x < a.length := by omega
     have e2 : ((x : Int)).toNat = x := by omega
     rw [e2, eqL_u8]
     refine ⟨by omega, by omega, fun h => ?_, fun h => ⟨by omega, x + 1, ⟨by omega, ?_⟩, by omega, by omega⟩⟩
     · rw [eq_comm, decide_eq_false_iff_not]
       rintro rfl
       simp at h
     · have h : a.getD x (T.dflt (T.arr 32 T.u8)) = b.getD x (T.dflt (T.arr 32 T.u8)) := by simpa using h
       rw [take_snoc' (d := T.dflt (T.arr 32 T.u8)) hlt, take_snoc' (d := T.dflt (T.arr 32 T.u8)) (by omega), hx.2, h]
   · simp only [decide_eq_false_iff_not] at h
     have e : x = a.length := by omega
     have h1 := hx.2
     rw [e, List.take_of_length_le (Nat.le_refl _), g, List.take_of_length_le (Nat.le_refl _)] at h1
     rw [eq_comm, decide_eq_true_eq]
     exact h1

theorem slices_Clone_byte_vc (b : Bytes) (hb : b.length ≤ ROOM) :
 ∀ (q : Bool),
  (q = true → b = nilOf (T.den T.u8)) → ((q == true) = true → b = nilOf (BitVec 8)) ∧ ((q == true) = false → List.length (nilOf (BitVec 8)) + List.length b ≤ ROOM ∧ nilOf (BitVec 8) ++ b = b) := by
 exact fun q hq => ⟨fun e => hq (by simpa using e), fun _ => ⟨by simpa using hb, rfl⟩⟩

theorem slices_Clone_byte_spec : Vse.Spec P f_slices_Clone_byte c_bytesClone :=
 spec_fn (l := []) trivial h_slices_Clone_byte rfl rfl fun x h _ => body_ok an_none (slices_Clone_byte_vc x.1 h) (by kernel_rfl)

theorem ship_number_spec : Vse.Spec P f_ship_number c_snum :=
 spec_fn (l := [(f_word_Read, c_Read)]) ⟨word_Read_spec, trivial⟩ h_ship_number rfl rfl fun x _ _ => body_ok an_none (ship_number_vc x.1) (by kernel_rfl)

theorem ship_digests_spec : Vse.Spec P f_ship_digests c_digs :=
 spec_fn (l := []) trivial h_ship_digests rfl rfl fun x h _ => body_ok (an_digs x.1) (ship_digests_vc x.1 h) (by kernel_rfl)

theorem ship_first_spec : Vse.Spec P f_ship_first c_first :=
 spec_fn (l := [(f_ship_digests, c_digs)]) ⟨ship_digests_spec, trivial⟩ h_ship_first rfl rfl fun x h _ => body_ok an_first (ship_first_vc x.1 h) (by kernel_rfl)

theorem ship_Parse_spec : Vse.Spec P f_ship_Parse c_ParseM :=
 spec_fn (l := [(f_ship_number, c_snum), (f_ship_first, c_first), (f_ship_digests, c_digs), (f_record_Parse, c_Parse), (f_slices_Clone_byte, c_bytesClone), (f_ship_Bytes, c_BytesM), (f_bytes_Equal, c_bytesEq)])
  ⟨ship_number_spec, ship_first_spec, ship_digests_spec, record_Parse_spec, slices_Clone_byte_spec, ship_Bytes_spec, bytes_Equal_spec, trivial⟩ h_ship_Parse rfl rfl fun x h _ => body_ok an_none (ship_Parse_vc x.1 h) (by kernel_rfl)

theorem ref12_Less_spec : Vse.Spec P f_ref12_Less c_less :=
 spec_fn (l := []) trivial h_ref12_Less rfl rfl fun x _ ok => body_ok (an_less x.1 x.2.1) (ref12_Less_vc x.1 x.2.1 ok.1.1 ok.2.1.1) (by kernel_rfl)

theorem ref12_Rising_spec : Vse.Spec P f_ref12_Rising c_sort12 :=
 spec_fn (l := [(f_ref12_Less, c_less)]) ⟨ref12_Less_spec, trivial⟩ h_ref12_Rising rfl rfl fun x h _ => body_ok (an_sort12 x.1) (ref12_Rising_vc x.1 h) (by kernel_rfl)

theorem ref20_Rising_spec : Vse.Spec P f_ref20_Rising c_ris20 :=
 spec_fn (l := [(f_ref12_Rising, c_sort12)]) ⟨ref12_Rising_spec, trivial⟩ h_ref20_Rising rfl rfl fun x h _ => body_ok (an_ris20 x.1) (ref20_Rising_vc x.1 h) (by kernel_rfl)

theorem ref12_Same_spec : Vse.Spec P f_ref12_Same c_Same12 :=
 spec_fn (l := []) trivial h_ref12_Same rfl rfl fun x _ ok => body_ok (an_same12 x.1 x.2.1) (ref12_Same_vc x.1 x.2.1 ok.1.1) (by kernel_rfl)

end Go.Sal
