/- The laws of recon on what is found: conditions. -/
import Derived.Test.YtglkhgodeghnlaaWCLaw28
import Derived.Test.YtglkhgodeghnlaaWSalRcn
set_option maxRecDepth 100000
namespace Go.Sal
open Go.Vse Go.Sal.Nm

def an_BothL (a b : List DigP) : Nat → SState → Option LoopAnn
 | 11, S => some { X := Nat, slots := fun k => [(9, .sv (.dv (.i64 (ofN k)))), (5, .sv (.dv (.imm T_Item (stepsB a b k).way)))], objs := fun k => [(x_labAt S 7, .cells [.own 11 T_Dig (stepsB a b k).l0, .own 12 T_Dig (stepsB a b k).l1] false), (x_labAt S 8, .cells [.own 13 T_Dig (stepsB a b k).o0, .own 14 T_Dig (stepsB a b k).o1] false), (11, .tok t_api_Digest 32), (12, .tok t_api_Digest 32), (13, .tok t_api_Digest 32), (14, .tok t_api_Digest 32)], inv := fun k => k ≤ 140 ∧ ∀ j, j < k → (stepsB a b j).way ≠ [], meas := fun k => 200 - k }
 | _, _ => none
def an_Both (a b : List DigP) : Ann := { at_ := an_BothL a b, pins := [1], prune := 1, rows := [hAlloc + 1026, hAlloc + 1027, hSplit + 1039, hSame + 1058, hSame + 1060, hSame + 1062, hSame + 1064, hSame + 1068, hSame + 1070, hLit + 1063, hLit + 1069, hLit + 1073, hLit + 1075, hLit + 1065, hLit + 1071, hLit + 1077, hLit + 1040, hLit + 1043, hLit + 1049, hLit + 1052] }

theorem set_32 {l : List DigP} (h : ∀ d ∈ l, d.length = 32) : ∀ d ∈ setD l, d.length = 32 := fun d hd => by
 unfold setD at hd
 rw [ris_mem] at hd
 exact h d (List.mem_of_mem_take hd)
theorem same_of {a b : List DigP} (h : sameDg a b = true) : a = b := of_decide_eq_true h
theorem clash_no {a b : List DigP} (h : twiceV a b = false) : noClash a b := fun d hd n hn he => by
 unfold twiceV twiceK at h
 rw [List.take_length] at h
 have hc : clashV a b d n = false := by
  cases hc : clashV a b d n with
  | false => rfl
  | true =>
    have : ((a ++ b).any fun d => (List.range 257).any (clashV a b d)) = true := List.any_eq_true.2 ⟨d, List.mem_append.2 hd, List.any_eq_true.2 ⟨n, List.mem_range.2 (by omega), hc⟩⟩
    rw [h] at this; cases this
 unfold clashV at hc
 rw [decide_eq_true he, Bool.and_true] at hc
 exact same_of (by simpa using hc)
theorem mod_n0 (x : Nat) : Int.tmod (ofN x) 2 = ((x % 2 : Nat) : Int) := rfl

theorem law28_without_vc (a b : List DigP) (hl : a.length ≤ 100000000) :
 (∃ (x : Nat), x ≤ List.length a ∧ 0 = ofN x ∧ lessV (List.take x a) b = nilOf (List (BitVec 8))) ∧
  ∀ (x : Nat),
  x ≤ List.length a →
  (decide (ofN x < ofN (List.length a)) = true →
  within (ofN x) (List.length a) ∧
  ((!hasD b (List.getD a (Int.toNat (ofN x)) (T.dflt (T.arr 32 T.u8)))) = true →
  within (ofN x) (List.length a) ∧
  List.length (lessV (List.take x a) b) + List.length [List.getD a (Int.toNat (ofN x)) (T.dflt (T.arr 32 T.u8))] ≤ ROOM ∧
  inI64 (ofN x + 1) ∧
  ∃ (x' : Nat),
  x' ≤ List.length a ∧
  List.length a - x' < List.length a - x ∧
  ofN x + 1 = ofN x' ∧ lessV (List.take x a) b ++ [List.getD a (Int.toNat (ofN x)) (T.dflt (T.arr 32 T.u8))] = lessV (List.take x' a) b) ∧
  ((!hasD b (List.getD a (Int.toNat (ofN x)) (T.dflt (T.arr 32 T.u8)))) = false →
  inI64 (ofN x + 1) ∧ ∃ (x' : Nat), x' ≤ List.length a ∧ List.length a - x' < List.length a - x ∧ ofN x + 1 = ofN x' ∧ lessV (List.take x a) b = lessV (List.take x' a) b)) ∧
  (decide (ofN x < ofN (List.length a)) = false → lessV (List.take x a) b = lessV a b) := by
 refine ⟨⟨0, Nat.zero_le _, rfl, rfl⟩, fun x hx => ⟨fun q => ?_, fun q => ?_⟩⟩
 · have hlt := ltN28 q
   have hs := lessV_snoc (ys := b) hlt
   have hn := lessV_le (a.take x) b
   rw [List.length_take] at hn
   rw [toN28]
   have hin : inI64 (ofN x + 1) := inN28 (by omega)
   refine ⟨wN28 hlt, fun q2 => ⟨wN28 hlt, ?_, hin, x + 1, hlt, by omega, rfl, ?_⟩, fun q2 => ⟨hin, x + 1, hlt, by omega, rfl, ?_⟩⟩
   · show _ + 1 ≤ ROOM
     unfold ROOM; omega
   · have q2 : hasD b (a.getD x dig0) = false := by simpa using q2
     rw [hs, q2]; rfl
   · have q2 : hasD b (a.getD x dig0) = true := by simpa using q2
     rw [hs, q2]; simp
 · rw [List.take_of_length_le (geN28 q)]

theorem law28_Just_vc (a b : List DigP) (h1 : ∀ d ∈ a, d.length = 32) (h2 : ∀ d ∈ b, d.length = 32) :
 (false = true → false = true) ∧
  (false = false →
  ((decide (150 < ofN (List.length (setD a))) || decide (150 < ofN (List.length (setD b)))) = true → true = true) ∧
  ((decide (150 < ofN (List.length (setD a))) || decide (150 < ofN (List.length (setD b)))) = false →
  okMt (setD a) (setD b) ∧
  (((meetV (setD a) (setD b)).2.2.2 != 0 || decide (134 < (meetV (setD a) (setD b)).2.2.1) || sameDg (setD a) (setD b) && (meetV (setD a) (setD b)).2.2.1 != 1) = true → false = true) ∧
  (((meetV (setD a) (setD b)).2.2.2 != 0 || decide (134 < (meetV (setD a) (setD b)).2.2.1) || sameDg (setD a) (setD b) && (meetV (setD a) (setD b)).2.2.1 != 1) = false →
  List.length (setD b) ≤ 100000000 ∧
  (sameDg (meetV (setD a) (setD b)).1 (lessV (setD b) (setD a)) = true → List.length (setD a) ≤ 100000000) ∧
  ((sameDg (meetV (setD a) (setD b)).1 (lessV (setD b) (setD a)) && sameDg (meetV (setD a) (setD b)).2.1 (lessV (setD a) (setD b))) = false →
  List.length (setD a) ≤ 1000000 ∧ List.length (setD b) ≤ 1000000) ∧
  (sameDg (meetV (setD a) (setD b)).1 (lessV (setD b) (setD a)) && sameDg (meetV (setD a) (setD b)).2.1 (lessV (setD a) (setD b)) || twiceV (setD a) (setD b)) = true))) := by
 have la := set_small a
 have lb := set_small b
 have ca := set_check a
 have cb := set_check b
 have h1 := set_32 h1
 have h2 := set_32 h2
 have hok := okMt_set a b
 generalize setD a = A at *
 generalize setD b = B at *
 obtain ⟨t1, t2, t3⟩ := meet_turns ca cb la lb
 refine ⟨fun q => q, fun _ => ⟨fun _ => rfl, fun _ => ⟨hok, fun q => ?_, fun _ => ⟨by omega, fun _ => by omega, fun _ => ⟨by omega, by omega⟩, ?_⟩⟩⟩⟩
 · exfalso
   have e1 : ((meetV A B).2.2.2 != 0) = false := by rw [t1]; rfl
   have e2 : decide (134 < (meetV A B).2.2.1) = false := decide_eq_false (Int.not_lt.2 t2)
   rw [e1, e2, Bool.false_or, Bool.false_or, Bool.and_eq_true] at q
   have := t3 (same_of q.1)
   rw [this] at q
   exact absurd q.2 (by decide)
 · cases ht : twiceV A B with
   | true => rw [Bool.or_true]
   | false =>
     obtain ⟨f1, f2⟩ := meet_finds ca cb la lb h1 h2 (clash_no ht)
     rw [f1, f2, same_self, same_self]; rfl

theorem law28_Both_vc (a b : List DigP) :
 (false = true → false = true) ∧
  (false = false →
  ((decide (150 < ofN (List.length (setD a))) || decide (150 < ofN (List.length (setD b)))) = true → true = true) ∧
  ((decide (150 < ofN (List.length (setD a))) || decide (150 < ofN (List.length (setD b)))) = false →
  (((beginW (setD a)).2 != 0) = true → false = true) ∧
  (((beginW (setD a)).2 != 0) = false →
  (∃ (x : Nat),
  (x ≤ 140 ∧ ∀ (j : Nat), j < x → ¬(stepsB (setD a) (setD b) j).1 = nilOf (Int × Int × List (BitVec 8) × Int × List (BitVec 8) × List (List (BitVec 8)))) ∧
  (0 = ofN x ∧ (beginW (setD a)).1 = (stepsB (setD a) (setD b) x).1) ∧
  ((stepsB (setD a) (setD b) x).2 = nilOf (List (BitVec 8)) ∧ (stepsB (setD a) (setD b) x).3 = nilOf (List (BitVec 8))) ∧
  (stepsB (setD a) (setD b) x).4 = nilOf (List (BitVec 8)) ∧ (stepsB (setD a) (setD b) x).5 = nilOf (List (BitVec 8))) ∧
  ∀ (x : Nat),
  (x ≤ 140 ∧ ∀ (j : Nat), j < x → ¬(stepsB (setD a) (setD b) j).1 = nilOf (Int × Int × List (BitVec 8) × Int × List (BitVec 8) × List (List (BitVec 8)))) →
  ((decide (ofN x < 140) && decide (0 < ofN (List.length (stepsB (setD a) (setD b) x).1))) = true →
  ofN 2 ≠ 0 ∧
  (0 ≤ Int.tmod (ofN x) 2 ∧ Int.tmod (ofN x) 2 ≤ 1) ∧
  (Int.tmod (ofN x) 2 = 0 →
  (false = true →
  okR (setD a) (stepsB (setD a) (setD b) x).1 ∧
  (((respV (setD a) (stepsB (setD a) (setD b) x).1).2.2.2 != 0) = true → false = true) ∧
  (((respV (setD a) (stepsB (setD a) (setD b) x).1).2.2.2 != 0) = false →
  (ofN 2 ≠ 0 ∧ Int.tmod (ofN x) 2 = 0) ∧
  (ofN 2 ≠ 0 ∧ Int.tmod (ofN x) 2 = 0) ∧
  (ofN 2 ≠ 0 ∧ Int.tmod (ofN x) 2 = 0) ∧
  within 0 2 ∧
  List.length (stepsB (setD a) (setD b) x).2 + List.length (respV (setD a) (stepsB (setD a) (setD b) x).1).2.1 ≤ ROOM ∧
  (ofN 2 ≠ 0 ∧ Int.tmod (ofN x) 2 = 0) ∧
  within 0 2 ∧
  List.length (stepsB (setD a) (setD b) x).4 + List.length (respV (setD a) (stepsB (setD a) (setD b) x).1).2.2.1 ≤ ROOM ∧
  within 0 2 ∧
  within 0 2 ∧
  inI64 (ofN x + 1) ∧
  ∃ (x' : Nat),
  (x' ≤ 140 ∧
  ∀ (j : Nat),
  j < x' → ¬(stepsB (setD a) (setD b) j).1 = nilOf (Int × Int × List (BitVec 8) × Int × List (BitVec 8) × List (List (BitVec 8)))) ∧
  200 - x' < 200 - x ∧
  (ofN x + 1 = ofN x' ∧ (respV (setD a) (stepsB (setD a) (setD b) x).1).1 = (stepsB (setD a) (setD b) x').1) ∧
  ((stepsB (setD a) (setD b) x).2 ++ (respV (setD a) (stepsB (setD a) (setD b) x).1).2.1 = (stepsB (setD a) (setD b) x').2 ∧
  (stepsB (setD a) (setD b) x).3 = (stepsB (setD a) (setD b) x').3) ∧
  (stepsB (setD a) (setD b) x).4 ++ (respV (setD a) (stepsB (setD a) (setD b) x).1).2.2.1 = (stepsB (setD a) (setD b) x').4 ∧
  (stepsB (setD a) (setD b) x).5 = (stepsB (setD a) (setD b) x').5)) ∧
  (false = false →
  okR (setD b) (stepsB (setD a) (setD b) x).1 ∧
  (((respV (setD b) (stepsB (setD a) (setD b) x).1).2.2.2 != 0) = true → false = true) ∧
  (((respV (setD b) (stepsB (setD a) (setD b) x).1).2.2.2 != 0) = false →
  (ofN 2 ≠ 0 ∧ Int.tmod (ofN x) 2 = 0) ∧
  (ofN 2 ≠ 0 ∧ Int.tmod (ofN x) 2 = 0) ∧
  (ofN 2 ≠ 0 ∧ Int.tmod (ofN x) 2 = 0) ∧
  within 0 2 ∧
  List.length (stepsB (setD a) (setD b) x).2 + List.length (respV (setD b) (stepsB (setD a) (setD b) x).1).2.1 ≤ ROOM ∧
  (ofN 2 ≠ 0 ∧ Int.tmod (ofN x) 2 = 0) ∧
  within 0 2 ∧
  List.length (stepsB (setD a) (setD b) x).4 + List.length (respV (setD b) (stepsB (setD a) (setD b) x).1).2.2.1 ≤ ROOM ∧
  within 0 2 ∧
  within 0 2 ∧
  inI64 (ofN x + 1) ∧
  ∃ (x' : Nat),
  (x' ≤ 140 ∧
  ∀ (j : Nat),
  j < x' → ¬(stepsB (setD a) (setD b) j).1 = nilOf (Int × Int × List (BitVec 8) × Int × List (BitVec 8) × List (List (BitVec 8)))) ∧
  200 - x' < 200 - x ∧
  (ofN x + 1 = ofN x' ∧ (respV (setD b) (stepsB (setD a) (setD b) x).1).1 = (stepsB (setD a) (setD b) x').1) ∧
  ((stepsB (setD a) (setD b) x).2 ++ (respV (setD b) (stepsB (setD a) (setD b) x).1).2.1 = (stepsB (setD a) (setD b) x').2 ∧
  (stepsB (setD a) (setD b) x).3 = (stepsB (setD a) (setD b) x').3) ∧
  (stepsB (setD a) (setD b) x).4 ++ (respV (setD b) (stepsB (setD a) (setD b) x).1).2.2.1 = (stepsB (setD a) (setD b) x').4 ∧
  (stepsB (setD a) (setD b) x).5 = (stepsB (setD a) (setD b) x').5))) ∧
  (Int.tmod (ofN x) 2 = 1 →
  (true = true →
  okR (setD a) (stepsB (setD a) (setD b) x).1 ∧
  (((respV (setD a) (stepsB (setD a) (setD b) x).1).2.2.2 != 0) = true → false = true) ∧
  (((respV (setD a) (stepsB (setD a) (setD b) x).1).2.2.2 != 0) = false →
  (ofN 2 ≠ 0 ∧ Int.tmod (ofN x) 2 = 1) ∧
  (ofN 2 ≠ 0 ∧ Int.tmod (ofN x) 2 = 1) ∧
  (ofN 2 ≠ 0 ∧ Int.tmod (ofN x) 2 = 1) ∧
  within 1 2 ∧
  List.length (stepsB (setD a) (setD b) x).3 + List.length (respV (setD a) (stepsB (setD a) (setD b) x).1).2.1 ≤ ROOM ∧
  (ofN 2 ≠ 0 ∧ Int.tmod (ofN x) 2 = 1) ∧
  within 1 2 ∧
  List.length (stepsB (setD a) (setD b) x).5 + List.length (respV (setD a) (stepsB (setD a) (setD b) x).1).2.2.1 ≤ ROOM ∧
  within 1 2 ∧
  within 1 2 ∧
  inI64 (ofN x + 1) ∧
  ∃ (x' : Nat),
  (x' ≤ 140 ∧
  ∀ (j : Nat),
  j < x' → ¬(stepsB (setD a) (setD b) j).1 = nilOf (Int × Int × List (BitVec 8) × Int × List (BitVec 8) × List (List (BitVec 8)))) ∧
  200 - x' < 200 - x ∧
  (ofN x + 1 = ofN x' ∧ (respV (setD a) (stepsB (setD a) (setD b) x).1).1 = (stepsB (setD a) (setD b) x').1) ∧
  ((stepsB (setD a) (setD b) x).2 = (stepsB (setD a) (setD b) x').2 ∧
  (stepsB (setD a) (setD b) x).3 ++ (respV (setD a) (stepsB (setD a) (setD b) x).1).2.1 = (stepsB (setD a) (setD b) x').3) ∧
  (stepsB (setD a) (setD b) x).4 = (stepsB (setD a) (setD b) x').4 ∧
  (stepsB (setD a) (setD b) x).5 ++ (respV (setD a) (stepsB (setD a) (setD b) x).1).2.2.1 = (stepsB (setD a) (setD b) x').5)) ∧
  (true = false →
  okR (setD b) (stepsB (setD a) (setD b) x).1 ∧
  (((respV (setD b) (stepsB (setD a) (setD b) x).1).2.2.2 != 0) = true → false = true) ∧
  (((respV (setD b) (stepsB (setD a) (setD b) x).1).2.2.2 != 0) = false →
  (ofN 2 ≠ 0 ∧ Int.tmod (ofN x) 2 = 1) ∧
  (ofN 2 ≠ 0 ∧ Int.tmod (ofN x) 2 = 1) ∧
  (ofN 2 ≠ 0 ∧ Int.tmod (ofN x) 2 = 1) ∧
  within 1 2 ∧
  List.length (stepsB (setD a) (setD b) x).3 + List.length (respV (setD b) (stepsB (setD a) (setD b) x).1).2.1 ≤ ROOM ∧
  (ofN 2 ≠ 0 ∧ Int.tmod (ofN x) 2 = 1) ∧
  within 1 2 ∧
  List.length (stepsB (setD a) (setD b) x).5 + List.length (respV (setD b) (stepsB (setD a) (setD b) x).1).2.2.1 ≤ ROOM ∧
  within 1 2 ∧
  within 1 2 ∧
  inI64 (ofN x + 1) ∧
  ∃ (x' : Nat),
  (x' ≤ 140 ∧
  ∀ (j : Nat),
  j < x' → ¬(stepsB (setD a) (setD b) j).1 = nilOf (Int × Int × List (BitVec 8) × Int × List (BitVec 8) × List (List (BitVec 8)))) ∧
  200 - x' < 200 - x ∧
  (ofN x + 1 = ofN x' ∧ (respV (setD b) (stepsB (setD a) (setD b) x).1).1 = (stepsB (setD a) (setD b) x').1) ∧
  ((stepsB (setD a) (setD b) x).2 = (stepsB (setD a) (setD b) x').2 ∧
  (stepsB (setD a) (setD b) x).3 ++ (respV (setD b) (stepsB (setD a) (setD b) x).1).2.1 = (stepsB (setD a) (setD b) x').3) ∧
  (stepsB (setD a) (setD b) x).4 = (stepsB (setD a) (setD b) x').4 ∧
  (stepsB (setD a) (setD b) x).5 ++ (respV (setD b) (stepsB (setD a) (setD b) x).1).2.2.1 =
  (stepsB (setD a) (setD b) x').5)))) ∧
  ((decide (ofN x < 140) && decide (0 < ofN (List.length (stepsB (setD a) (setD b) x).1))) = false →
  ((ofN (List.length (stepsB (setD a) (setD b) x).1) == 0) = true → within 0 2) ∧
  ((ofN (List.length (stepsB (setD a) (setD b) x).1) == 0) = true → List.length (stepsB (setD a) (setD b) x).2 ≤ 100000000) ∧
  ((ofN (List.length (stepsB (setD a) (setD b) x).1) == 0) = true → within 1 2) ∧
  ((ofN (List.length (stepsB (setD a) (setD b) x).1) == 0) = true → List.length (stepsB (setD a) (setD b) x).5 ≤ 100000000) ∧
  ((ofN (List.length (stepsB (setD a) (setD b) x).1) == 0 && sameDg (risV (stepsB (setD a) (setD b) x).2) (risV (stepsB (setD a) (setD b) x).5)) = true → within 1 2) ∧
  ((ofN (List.length (stepsB (setD a) (setD b) x).1) == 0 && sameDg (risV (stepsB (setD a) (setD b) x).2) (risV (stepsB (setD a) (setD b) x).5)) = true →
  List.length (stepsB (setD a) (setD b) x).3 ≤ 100000000) ∧
  ((ofN (List.length (stepsB (setD a) (setD b) x).1) == 0 && sameDg (risV (stepsB (setD a) (setD b) x).2) (risV (stepsB (setD a) (setD b) x).5)) = true → within 0 2) ∧
  ((ofN (List.length (stepsB (setD a) (setD b) x).1) == 0 && sameDg (risV (stepsB (setD a) (setD b) x).2) (risV (stepsB (setD a) (setD b) x).5)) = true →
  List.length (stepsB (setD a) (setD b) x).4 ≤ 100000000) ∧
  (ofN (List.length (stepsB (setD a) (setD b) x).1) == 0 && sameDg (risV (stepsB (setD a) (setD b) x).2) (risV (stepsB (setD a) (setD b) x).5) &&
  sameDg (risV (stepsB (setD a) (setD b) x).3) (risV (stepsB (setD a) (setD b) x).4)) =
  true)))) := by
 have la := set_small a
 have lb := set_small b
 have ca := set_check a
 have cb := set_check b
 generalize setD a = A at *
 generalize setD b = B at *
 have e0 : beginW A = ([sumV A ((0 : Int), zeroD)], 0) := by rw [begin_two, ca]; rfl
 rw [e0]
 refine ⟨fun q => q, fun _ => ⟨fun _ => rfl, fun _ => ⟨fun q => q, fun _ => ⟨⟨0, ⟨Nat.zero_le _, fun j hj => by omega⟩, ⟨rfl, rfl⟩, ⟨rfl, rfl⟩, rfl, rfl⟩, fun x hx => ?_⟩⟩⟩⟩
 obtain ⟨eW, eL0, eL1⟩ := stepsB_M A B x
 have hw := way_ok ca cb la lb x
 obtain ⟨o1, o2⟩ := stepsB_o ca cb la lb x
 have hm := bdM_mono (j := x) (k := 132)
 have hb132 := bdM_132
 refine ⟨fun q => ?_, fun q => ?_⟩
 · rw [Bool.and_eq_true] at q
   have q2 : (0 : Int) < (((stepsB A B x).way.length : Nat) : Int) := of_decide_eq_true q.2
   have hne : (stepsB A B x).way ≠ [] := fun e => by rw [e] at q2; simp at q2
   have h131 := way_early hw (by rw [← eW]; exact hne)
   have hok := way_okR ca cb la lb (k := x) (by omega)
   have hg := way_good ca cb hw.made
   rw [← eW] at hok hg
   obtain ⟨eW1, eL01, eL11⟩ := stepsB_M A B (x + 1)
   have hw1 := way_ok ca cb la lb (x + 1)
   obtain ⟨p1, p2⟩ := stepsB_o ca cb la lb (x + 1)
   have hm1 := bdM_mono (j := x + 1) (k := 132) (by omega)
   have p3 := hw1.la
   have p4 := hw1.lb
   rw [← eL01] at p4
   rw [← eL11] at p3
   have hin : inI64 (ofN x + 1) := inN28 (by omega)
   have hall : ∀ j, j < x + 1 → ¬ (stepsB A B j).way = [] := fun j hj => by
    by_cases e : j = x
    · rw [e]; exact hne
    · exact hx.2 j (by omega)
   rw [mod_n0]
   refine ⟨by decide, ⟨by omega, by omega⟩, fun q3 => ⟨fun h => (by cases h), fun _ => ⟨hok B lb, fun q4 => ?_, fun _ => ?_⟩⟩, fun q3 => ⟨fun _ => ⟨hok A la, fun q4 => ?_, fun _ => ?_⟩, fun h => (by cases h)⟩⟩
   · rw [resp_of cb hg] at q4
     exact q4
   · have heven : x % 2 = 0 := by omega
     have se := stepsB_even (a := A) (b := B) heven
     rw [se] at p1 p4
     have p1 : ((stepsB A B x).o0 ++ (respV B (stepsB A B x).way).2.2.1).length ≤ bdM (x + 1) := p1
     have p4 : ((stepsB A B x).l0 ++ (respV B (stepsB A B x).way).2.1).length ≤ bdM (x + 1) := p4
     rw [List.length_append] at p1 p4
     have w := (show ofN 2 ≠ 0 ∧ (((x % 2 : Nat) : Int)) = 0 from ⟨by decide, q3⟩)
     refine ⟨w, w, w, w02, Nat.le_trans p4 (by unfold ROOM; omega), w, w02, Nat.le_trans p1 (by unfold ROOM; omega), w02, w02, hin, x + 1, ⟨by omega, hall⟩, by omega, ⟨rfl, ?_⟩, ⟨?_, ?_⟩, ?_, ?_⟩
     all_goals rw [se]
   · rw [resp_of ca hg] at q4
     exact q4
   · have hodd : ¬ x % 2 = 0 := by omega
     have se := stepsB_odd (a := A) (b := B) hodd
     rw [se] at p2 p3
     have p2 : ((stepsB A B x).o1 ++ (respV A (stepsB A B x).way).2.2.1).length ≤ bdM (x + 1) := p2
     have p3 : ((stepsB A B x).l1 ++ (respV A (stepsB A B x).way).2.1).length ≤ bdM (x + 1) := p3
     rw [List.length_append] at p2 p3
     have w := (show ofN 2 ≠ 0 ∧ (((x % 2 : Nat) : Int)) = 1 from ⟨by decide, q3⟩)
     refine ⟨w, w, w, w12, Nat.le_trans p3 (by unfold ROOM; omega), w, w12, Nat.le_trans p2 (by unfold ROOM; omega), w12, w12, hin, x + 1, ⟨by omega, hall⟩, by omega, ⟨rfl, ?_⟩, ⟨?_, ?_⟩, ?_, ?_⟩
     all_goals rw [se]
 · have he : (stepsB A B x).way = [] := by
     rw [Bool.and_eq_false_iff] at q
     rcases q with q | q
     · have q : ¬ (x : Int) < 140 := of_decide_eq_false q
       have hl := hx.2 (x - 1) (by omega)
       have := way_early (way_ok ca cb la lb (x - 1)) (by rw [← (stepsB_M A B (x - 1)).1]; exact hl)
       omega
     · have q : ¬ (0 : Int) < (((stepsB A B x).way.length : Nat) : Int) := of_decide_eq_false q
       exact List.eq_nil_of_length_eq_zero (by omega)
   have h132 : x ≤ 132 := by
    by_cases h0 : x = 0
    · omega
    · have hl := hx.2 (x - 1) (by omega)
      have := way_early (way_ok ca cb la lb (x - 1)) (by rw [← (stepsB_M A B (x - 1)).1]; exact hl)
      omega
   have hm := hm h132
   obtain ⟨b1, b2⟩ := both_end ca cb la lb he
   have l1 := hw.la
   have l2 := hw.lb
   rw [← eL1] at l1
   rw [← eL0] at l2
   refine ⟨fun _ => w02, fun _ => Nat.le_trans l2 (by omega), fun _ => w12, fun _ => Nat.le_trans o2 (by omega), fun _ => w12, fun _ => Nat.le_trans l1 (by omega), fun _ => w02, fun _ => Nat.le_trans o1 (by omega), ?_⟩
   rw [he, b1, b2, same_self, same_self]; rfl

theorem law28_without_spec : Vse.Spec P f_law28_without c_without := spec_fn (l := [(f_ref12_In, c_In)]) ⟨ref12_In_spec, trivial⟩ h_law28_without rfl rfl fun x h _ => body_ok (an_without x.1 x.2.1) (law28_without_vc x.1 x.2.1 (got h)) (by kernel_rfl)

theorem law28_ReconJust_spec : Vse.Spec P f_law28_ReconJust (c_law28 [.slc T_Dig, .slc T_Dig]) := spec_fn (l := [(f_law28_set, c_set28), (f_recon_Meet, c_Meet), (f_law28_without, c_without), (f_ref28_Twice, c_Twice), (f_ref12_Same, c_Same12), (f_law28_awake, c_awake28)]) ⟨law28_set_spec, recon_Meet_spec, law28_without_spec, ref28_Twice_spec, ref12_Same_spec, law28_awake_spec, trivial⟩ h_law28_ReconJust rfl rfl fun x _ ok => body_ok (an_none) (law28_Just_vc x.1 x.2.1 (okRow_slc ok.1).2 (okRow_slc ok.2.1).2) (by kernel_rfl)

theorem law28_ReconBoth_spec : Vse.Spec P f_law28_ReconBoth (c_law28 [.slc T_Dig, .slc T_Dig]) := spec_fn (l := [(f_law28_set, c_set28), (f_recon_Begin, c_Begin), (f_recon_Respond, c_Respond), (f_ref20_Rising, c_ris20), (f_ref12_Same, c_Same12), (f_law28_awake, c_awake28)]) ⟨law28_set_spec, recon_Begin_spec, recon_Respond_spec, ref20_Rising_spec, ref12_Same_spec, law28_awake_spec, trivial⟩ h_law28_ReconBoth rfl rfl fun x _ _ => body_ok (an_Both (setD x.1) (setD x.2.1)) (law28_Both_vc x.1 x.2.1) (by kernel_rfl)

end Go.Sal
