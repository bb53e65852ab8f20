/- Contracts of merkle and of ref27: what a growth makes of the elder root. -/
import Derived.Test.YtdddnamfecgkeaaQCEnd27
import Derived.Test.YtdddnamfecgkeaaQSalMer3
set_option maxRecDepth 100000
namespace Go.Sal
open Go.Vse Go.Sal.Nm

abbrev T_DD : T := .pair T_Dig T_Dig

def c_step (f : Dig → Dig → Dig) : PC := ⟨false, fun ins => match ins with
  | [.agg [.run (.many .u8 32 d)], .ipt [.many .u8 32 x]] => some ⟨none, .sv (svOfT T_Dig (f d x)), none, none⟩
  | _ => none⟩
def x_one (g : Nat) (a b x : Dig) (ok both : Bool) : Option CRes :=
  bif Nat.beq g f_merkle_grown_f2 then some ⟨none, .tup [svOfT T_DD ((bif both then nodeV a x else a), nodeV b x), .dv (.bool ok)], none, none⟩
  else bif Nat.beq g f_merkle_grown_f3 then some ⟨none, .tup [svOfT T_DD ((bif both then nodeV x a else a), nodeV x b), .dv (.bool ok)], none, none⟩ else none
def c_one : PC := ⟨false, fun ins => match ins with
  | [.agg [.run (.many .u8 32 a), .run (.many .u8 32 b)], .dv (.bool ok), .clo g [[.many .u8 32 x]], .dv (.bool both)] => x_one g a b x ok both
  | _ => none⟩
def c_stepL : PC := c_step nodeV
def c_stepR : PC := c_step (fun d x => nodeV x d)

theorem merkle_step2_vc (d x : Dig) :
    nodeV d x = nodeV d x := by
  rfl

theorem merkle_step3_vc (d x : Dig) :
    nodeV x d = nodeV x d := by
  rfl

theorem merkle_one2_vc (a b x : Dig) (ok both : Bool) :
    (both = true →
        ((nodeV a x =
              match both with
              | true => nodeV a x
              | false => a) ∧
            nodeV b x = nodeV b x) ∧
          ok = ok) ∧
      (both = false →
        ((a =
              match both with
              | true => nodeV a x
              | false => a) ∧
            nodeV b x = nodeV b x) ∧
          ok = ok) := by
  refine ⟨fun h => ?_, fun h => ?_⟩
  · subst h; exact ⟨⟨rfl, rfl⟩, rfl⟩
  · subst h; exact ⟨⟨rfl, rfl⟩, rfl⟩

theorem merkle_one3_vc (a b x : Dig) (ok both : Bool) :
    (both = true →
        ((nodeV x a =
              match both with
              | true => nodeV x a
              | false => a) ∧
            nodeV x b = nodeV x b) ∧
          ok = ok) ∧
      (both = false →
        ((a =
              match both with
              | true => nodeV x a
              | false => a) ∧
            nodeV x b = nodeV x b) ∧
          ok = ok) := by
  refine ⟨fun h => ?_, fun h => ?_⟩
  · subst h; exact ⟨⟨rfl, rfl⟩, rfl⟩
  · subst h; exact ⟨⟨rfl, rfl⟩, rfl⟩

def c_grown (k : Nat) : PC := D [T_Dig, .slc T_Dig, .i64, .i64, .bool] [T_DD, .bool] (fun x => some (x.2.1.length < k ∧ leP 1 x.2.2.1 ∧ leP x.2.2.1 x.2.2.2.1 ∧ leP x.2.2.2.1 1048576))
  (fun x => ((grownV x.1 zero32 x.2.2.1 x.2.2.2.1 x.2.2.2.2.1 x.2.1).1, (grownV x.1 zero32 x.2.2.1 x.2.2.2.1 x.2.2.2.2.1 x.2.1).2, ()))
def c_both (k : Nat) : PC := D [T_Dig, .i64, .i64, .bool, .slc T_Dig] [T_Dig, T_Dig, .bool] (fun x => some (x.2.2.2.2.1.length < k ∧ leP 1 x.2.1 ∧ leP x.2.1 x.2.2.1 ∧ leP x.2.2.1 1048576))
  (fun x => ((grownV x.1 x.1 x.2.1 x.2.2.1 x.2.2.2.1 x.2.2.2.2.1).1.1, (grownV x.1 x.1 x.2.1 x.2.2.1 x.2.2.2.1 x.2.2.2.2.1).1.2, (grownV x.1 x.1 x.2.1 x.2.2.1 x.2.2.2.1 x.2.2.2.2.1).2, ()))

theorem grown_whole {was z : Dig} {m n : Int} {p : List Dig} (h : m = n) : grownV was z m n true p = ((was, was), decide (p.length = 0)) := by
  by_cases hp : p.length = 0
  · have e : p = [] := List.eq_nil_of_length_eq_zero hp
    subst e
    show grownR _ _ [] _ _ _ = _
    rw [grownR, if_pos h, if_pos rfl]; rfl
  · unfold grownV
    rw [rev_last (d := T_Dig.dflt) (by omega), grownR, if_pos h, if_pos rfl, decide_eq_false hp]
theorem grown_one {was z : Dig} {m n : Int} {p : List Dig} (h : m = n) (hp : p.length = 1) : grownV was z m n false p = ((p.getD 0 T_Dig.dflt, p.getD 0 T_Dig.dflt), true) := by
  unfold grownV
  rw [rev_last (d := T_Dig.dflt) (by omega), grownR, if_pos h, if_neg (by decide), if_pos (by rw [List.length_reverse, List.length_take]; omega), hp]
theorem grown_none {was z : Dig} {m n : Int} {p : List Dig} (h : m = n) (hp : ¬ p.length = 1) : grownV was z m n false p = ((z, z), false) := by
  by_cases h0 : p.length = 0
  · have e : p = [] := List.eq_nil_of_length_eq_zero h0
    subst e
    show grownR _ _ [] _ _ _ = _
    rw [grownR, if_pos h, if_neg (by decide)]
  · unfold grownV
    rw [rev_last (d := T_Dig.dflt) (by omega), grownR, if_pos h, if_neg (by decide), if_neg (by rw [List.length_reverse, List.length_take]; omega)]
theorem grown_empty {was z : Dig} {m n : Int} {w : Bool} {p : List Dig} (h : ¬ m = n) (hp : p.length = 0) : grownV was z m n w p = ((z, z), false) := by
  have e : p = [] := List.eq_nil_of_length_eq_zero hp
  subst e
  show grownR _ _ [] _ _ _ = _
  rw [grownR, if_neg h]
theorem grown_step {was z : Dig} {m n : Int} {w : Bool} {p : List Dig} (h : ¬ m = n) (hp : 1 ≤ p.length) : grownV was z m n w p =
    if m ≤ (partN n.toNat : Int) then (((grownV was z m (partN n.toNat) w (p.take (p.length - 1))).1.1, nodeV (grownV was z m (partN n.toNat) w (p.take (p.length - 1))).1.2 (p.getD (p.length - 1) T_Dig.dflt)), (grownV was z m (partN n.toNat) w (p.take (p.length - 1))).2)
    else ((nodeV (p.getD (p.length - 1) T_Dig.dflt) (grownV was z (m - (partN n.toNat : Int)) (n - (partN n.toNat : Int)) false (p.take (p.length - 1))).1.1, nodeV (p.getD (p.length - 1) T_Dig.dflt) (grownV was z (m - (partN n.toNat : Int)) (n - (partN n.toNat : Int)) false (p.take (p.length - 1))).1.2), (grownV was z (m - (partN n.toNat : Int)) (n - (partN n.toNat : Int)) false (p.take (p.length - 1))).2) := by
  have e : grownV was z m n w p = grownR was z p.reverse m n w := rfl
  rw [e, rev_last (d := T_Dig.dflt) hp, grownR, if_neg h]
  rfl
theorem recs_fine : ∀ (l : List Rec) (acc : List Dig), (∀ r ∈ l, checkV r = 0) → (recsV acc l).2 = 0 ∧ (recsV acc l).1.length = acc.length + l.length
  | [], acc, _ => ⟨rfl, rfl⟩
  | r :: l, acc, h => by
    have hr := bytesV_ok (h r (by simp))
    obtain ⟨h1, h2⟩ := recs_fine l (acc ++ [leafV (bytesV r).1]) (fun q hq => h q (by simp [hq]))
    rw [recsV, if_pos (by rw [hr])]
    refine ⟨h1, h2.trans ?_⟩
    simp; omega

theorem merkle_grown_vc (k : Nat) (was : Dig) (p : List Dig) (m n : Int) (w : Bool) (hl : p.length ≤ LIM) (hp : p.length < k + 1) (h1 : (1 : Int) ≤ m) (h2 : m ≤ n) (h3 : n ≤ 1048576) :
    ((m == n) = true →
        (w = true → (was = (grownV was zero32 m n w p).1.1 ∧ was = (grownV was zero32 m n w p).1.2) ∧ (ofN (List.length p) == 0) = (grownV was zero32 m n w p).2) ∧
          (w = false →
            ((ofN (List.length p) == 1) = true →
                within 0 (List.length p) ∧
                  within 0 (List.length p) ∧
                    (List.getD p (Int.toNat 0) (T.dflt (T.arr 32 T.u8)) = (grownV was zero32 m n w p).1.1 ∧ List.getD p (Int.toNat 0) (T.dflt (T.arr 32 T.u8)) = (grownV was zero32 m n w p).1.2) ∧
                      true = (grownV was zero32 m n w p).2) ∧
              ((ofN (List.length p) == 1) = false →
                (List.replicate 32 0#8 = (grownV was zero32 m n w p).1.1 ∧ List.replicate 32 0#8 = (grownV was zero32 m n w p).1.2) ∧ false = (grownV was zero32 m n w p).2))) ∧
      ((m == n) = false →
        ((ofN (List.length p) == 0) = true → (List.replicate 32 0#8 = (grownV was zero32 m n w p).1.1 ∧ List.replicate 32 0#8 = (grownV was zero32 m n w p).1.2) ∧ false = (grownV was zero32 m n w p).2) ∧
          ((ofN (List.length p) == 0) = false →
            inI64 (ofN (List.length p) - 1) ∧
              within (ofN (List.length p) - 1) (List.length p) ∧
                inI64 (ofN (List.length p) - 1) ∧
                  (0 ≤ ofN (List.length p) - 1 ∧ ofN (List.length p) - 1 ≤ ofN (List.length p)) ∧
                    (2 ≤ n ∧ n ≤ 1048576) ∧
                      (decide (m ≤ ofN (partN (Int.toNat n))) = true →
                          (List.length (List.drop 0 (List.take (Int.toNat (ofN (List.length p) - 1)) p)) < k ∧ 1 ≤ m ∧ m ≤ ofN (partN (Int.toNat n)) ∧ ofN (partN (Int.toNat n)) ≤ 1048576) ∧
                            ((grownV was zero32 m (ofN (partN (Int.toNat n))) w (List.drop 0 (List.take (Int.toNat (ofN (List.length p) - 1)) p))).1.1 = (grownV was zero32 m n w p).1.1 ∧
                                nodeV (grownV was zero32 m (ofN (partN (Int.toNat n))) w (List.drop 0 (List.take (Int.toNat (ofN (List.length p) - 1)) p))).1.2
                                    (List.getD p (Int.toNat (ofN (List.length p) - 1)) (T.dflt (T.arr 32 T.u8))) =
                                  (grownV was zero32 m n w p).1.2) ∧
                              (grownV was zero32 m (ofN (partN (Int.toNat n))) w (List.drop 0 (List.take (Int.toNat (ofN (List.length p) - 1)) p))).2 = (grownV was zero32 m n w p).2) ∧
                        (decide (m ≤ ofN (partN (Int.toNat n))) = false →
                          inI64 (m - ofN (partN (Int.toNat n))) ∧
                            inI64 (n - ofN (partN (Int.toNat n))) ∧
                              (List.length (List.drop 0 (List.take (Int.toNat (ofN (List.length p) - 1)) p)) < k ∧
                                  1 ≤ m - ofN (partN (Int.toNat n)) ∧ m - ofN (partN (Int.toNat n)) ≤ n - ofN (partN (Int.toNat n)) ∧ n - ofN (partN (Int.toNat n)) ≤ 1048576) ∧
                                (nodeV (List.getD p (Int.toNat (ofN (List.length p) - 1)) (T.dflt (T.arr 32 T.u8)))
                                        (grownV was zero32 (m - ofN (partN (Int.toNat n))) (n - ofN (partN (Int.toNat n))) false (List.drop 0 (List.take (Int.toNat (ofN (List.length p) - 1)) p))).1.1 =
                                      (grownV was zero32 m n w p).1.1 ∧
                                    nodeV (List.getD p (Int.toNat (ofN (List.length p) - 1)) (T.dflt (T.arr 32 T.u8)))
                                        (grownV was zero32 (m - ofN (partN (Int.toNat n))) (n - ofN (partN (Int.toNat n))) false (List.drop 0 (List.take (Int.toNat (ofN (List.length p) - 1)) p))).1.2 =
                                      (grownV was zero32 m n w p).1.2) ∧
                                  (grownV was zero32 (m - ofN (partN (Int.toNat n))) (n - ofN (partN (Int.toNat n))) false (List.drop 0 (List.take (Int.toNat (ofN (List.length p) - 1)) p))).2 =
                                    (grownV was zero32 m n w p).2))) := by
  have hk : p.length ≤ 9223372036854775807 := hl
  refine ⟨fun g => ⟨fun hw => ?_, fun hw => ⟨fun g1 => ?_, fun g1 => ?_⟩⟩, fun g => ⟨fun g1 => ?_, fun g1 => ?_⟩⟩
  · subst hw
    rw [grown_whole (by simpa using g)]
    refine ⟨⟨rfl, rfl⟩, ?_⟩
    rw [Bool.eq_iff_iff]
    simp only [beq_iff_eq, decide_eq_true_eq, ofN]
    omega
  · subst hw
    have hz : p.length = 1 := by simp only [beq_iff_eq, ofN] at g1; omega
    rw [grown_one (by simpa using g) hz]
    have wi : within 0 p.length := by unfold within; omega
    exact ⟨wi, wi, ⟨rfl, rfl⟩, rfl⟩
  · subst hw
    have hz : ¬ p.length = 1 := by simp only [beq_eq_false_iff_ne, ne_eq, ofN] at g1; omega
    rw [grown_none (by simpa using g) hz]
    exact ⟨⟨rfl, rfl⟩, rfl⟩
  · have g : ¬ m = n := by simpa using g
    have hz : p.length = 0 := by simp only [beq_iff_eq, ofN] at g1; omega
    rw [grown_empty g hz]
    exact ⟨⟨rfl, rfl⟩, rfl⟩
  · have g : ¬ m = n := by simpa using g
    simp only [beq_eq_false_iff_ne, ne_eq, ofN] at g1
    have hp1 : 1 ≤ p.length := by omega
    have hn2 : (2 : Int) ≤ n := by omega
    have ei : Int.toNat (ofN p.length - 1) = p.length - 1 := by unfold ofN; omega
    have ht : (p.take (p.length - 1)).length = p.length - 1 := by rw [List.length_take]; omega
    have hs := grown_step (was := was) (z := zero32) (w := w) g hp1
    obtain ⟨q1, q2⟩ := part_int (n := n) hn2
    have a1 : (2 : Int) ≤ n ∧ n ≤ 1048576 := by omega
    have a2 : inI64 (ofN p.length - 1) := by unfold inI64 ofN; omega
    have a3 : within (ofN p.length - 1) p.length := by unfold within ofN; omega
    have a4 : (0 : Int) ≤ ofN p.length - 1 ∧ ofN p.length - 1 ≤ ofN p.length := by unfold ofN; omega
    rw [ei, List.drop_zero, ht]
    refine ⟨a2, a3, a2, a4, a1, fun c => ?_, fun c => ?_⟩
    · have c := of_decide_eq_true c
      rw [hs, if_pos c]
      exact ⟨⟨by omega, by omega, by omega, by omega⟩, ⟨rfl, rfl⟩, rfl⟩
    · have c := of_decide_eq_false c
      rw [hs, if_neg c]
      exact ⟨by unfold inI64; omega, by unfold inI64; omega, ⟨by omega, by omega, by omega, by omega⟩, ⟨rfl, rfl⟩, rfl⟩

theorem ref27_both_vc (k : Nat) (was : Dig) (p : List Dig) (m n : Int) (w : Bool) (hl : p.length ≤ LIM) (hp : p.length < k + 1) (h1 : (1 : Int) ≤ m) (h2 : m ≤ n) (h3 : n ≤ 1048576) :
    ((m == n) = true →
        (w = true → was = (grownV was was m n w p).1.1 ∧ was = (grownV was was m n w p).1.2 ∧ (ofN (List.length p) == 0) = (grownV was was m n w p).2) ∧
          (w = false →
            ((ofN (List.length p) != 1) = true → was = (grownV was was m n w p).1.1 ∧ was = (grownV was was m n w p).1.2 ∧ false = (grownV was was m n w p).2) ∧
              ((ofN (List.length p) != 1) = false →
                within 0 (List.length p) ∧
                  within 0 (List.length p) ∧
                    List.getD p (Int.toNat 0) (T.dflt (T.arr 32 T.u8)) = (grownV was was m n w p).1.1 ∧
                      List.getD p (Int.toNat 0) (T.dflt (T.arr 32 T.u8)) = (grownV was was m n w p).1.2 ∧ true = (grownV was was m n w p).2))) ∧
      ((m == n) = false →
        ((ofN (List.length p) == 0) = true → was = (grownV was was m n w p).1.1 ∧ was = (grownV was was m n w p).1.2 ∧ false = (grownV was was m n w p).2) ∧
          ((ofN (List.length p) == 0) = false →
            (2 ≤ n ∧ n ≤ 1048576) ∧
              inI64 (ofN (List.length p) - 1) ∧
                within (ofN (List.length p) - 1) (List.length p) ∧
                  (decide (m ≤ ofN (partN (Int.toNat n))) = true →
                      inI64 (ofN (List.length p) - 1) ∧
                        (0 ≤ ofN (List.length p) - 1 ∧ ofN (List.length p) - 1 ≤ ofN (List.length p)) ∧
                          (List.length (List.drop 0 (List.take (Int.toNat (ofN (List.length p) - 1)) p)) < k ∧ 1 ≤ m ∧ m ≤ ofN (partN (Int.toNat n)) ∧ ofN (partN (Int.toNat n)) ≤ 1048576) ∧
                            (grownV was was m (ofN (partN (Int.toNat n))) w (List.drop 0 (List.take (Int.toNat (ofN (List.length p) - 1)) p))).1.1 = (grownV was was m n w p).1.1 ∧
                              nodeV (grownV was was m (ofN (partN (Int.toNat n))) w (List.drop 0 (List.take (Int.toNat (ofN (List.length p) - 1)) p))).1.2
                                    (List.getD p (Int.toNat (ofN (List.length p) - 1)) (T.dflt (T.arr 32 T.u8))) =
                                  (grownV was was m n w p).1.2 ∧
                                (grownV was was m (ofN (partN (Int.toNat n))) w (List.drop 0 (List.take (Int.toNat (ofN (List.length p) - 1)) p))).2 = (grownV was was m n w p).2) ∧
                    (decide (m ≤ ofN (partN (Int.toNat n))) = false →
                      inI64 (m - ofN (partN (Int.toNat n))) ∧
                        inI64 (n - ofN (partN (Int.toNat n))) ∧
                          inI64 (ofN (List.length p) - 1) ∧
                            (0 ≤ ofN (List.length p) - 1 ∧ ofN (List.length p) - 1 ≤ ofN (List.length p)) ∧
                              (List.length (List.drop 0 (List.take (Int.toNat (ofN (List.length p) - 1)) p)) < k ∧
                                  1 ≤ m - ofN (partN (Int.toNat n)) ∧ m - ofN (partN (Int.toNat n)) ≤ n - ofN (partN (Int.toNat n)) ∧ n - ofN (partN (Int.toNat n)) ≤ 1048576) ∧
                                nodeV (List.getD p (Int.toNat (ofN (List.length p) - 1)) (T.dflt (T.arr 32 T.u8)))
                                      (grownV was was (m - ofN (partN (Int.toNat n))) (n - ofN (partN (Int.toNat n))) false (List.drop 0 (List.take (Int.toNat (ofN (List.length p) - 1)) p))).1.1 =
                                    (grownV was was m n w p).1.1 ∧
                                  nodeV (List.getD p (Int.toNat (ofN (List.length p) - 1)) (T.dflt (T.arr 32 T.u8)))
                                        (grownV was was (m - ofN (partN (Int.toNat n))) (n - ofN (partN (Int.toNat n))) false (List.drop 0 (List.take (Int.toNat (ofN (List.length p) - 1)) p))).1.2 =
                                      (grownV was was m n w p).1.2 ∧
                                    (grownV was was (m - ofN (partN (Int.toNat n))) (n - ofN (partN (Int.toNat n))) false (List.drop 0 (List.take (Int.toNat (ofN (List.length p) - 1)) p))).2 =
                                      (grownV was was m n w p).2))) := by
  have hk : p.length ≤ 9223372036854775807 := hl
  refine ⟨fun g => ⟨fun hw => ?_, fun hw => ⟨fun g1 => ?_, fun g1 => ?_⟩⟩, fun g => ⟨fun g1 => ?_, fun g1 => ?_⟩⟩
  · subst hw
    rw [grown_whole (by simpa using g)]
    refine ⟨rfl, rfl, ?_⟩
    rw [Bool.eq_iff_iff]
    simp only [beq_iff_eq, decide_eq_true_eq, ofN]
    omega
  · subst hw
    have hz : ¬ p.length = 1 := by simp only [bne_iff_ne, ne_eq, ofN] at g1; omega
    rw [grown_none (by simpa using g) hz]
    exact ⟨rfl, rfl, rfl⟩
  · subst hw
    have hz : p.length = 1 := by simp only [bne_eq_false_iff_eq, ofN] at g1; omega
    rw [grown_one (by simpa using g) hz]
    have wi : within 0 p.length := by unfold within; omega
    exact ⟨wi, wi, rfl, rfl, rfl⟩
  · have g : ¬ m = n := by simpa using g
    have hz : p.length = 0 := by simp only [beq_iff_eq, ofN] at g1; omega
    rw [grown_empty g hz]
    exact ⟨rfl, rfl, rfl⟩
  · have g : ¬ m = n := by simpa using g
    simp only [beq_eq_false_iff_ne, ne_eq, ofN] at g1
    have hp1 : 1 ≤ p.length := by omega
    have hn2 : (2 : Int) ≤ n := by omega
    have ei : Int.toNat (ofN p.length - 1) = p.length - 1 := by unfold ofN; omega
    have ht : (p.take (p.length - 1)).length = p.length - 1 := by rw [List.length_take]; omega
    have hs := grown_step (was := was) (z := was) (w := w) g hp1
    obtain ⟨q1, q2⟩ := part_int (n := n) hn2
    have a1 : (2 : Int) ≤ n ∧ n ≤ 1048576 := by omega
    have a2 : inI64 (ofN p.length - 1) := by unfold inI64 ofN; omega
    have a3 : within (ofN p.length - 1) p.length := by unfold within ofN; omega
    have a4 : (0 : Int) ≤ ofN p.length - 1 ∧ ofN p.length - 1 ≤ ofN p.length := by unfold ofN; omega
    rw [ei, List.drop_zero, ht]
    refine ⟨a1, a2, a3, fun c => ?_, fun c => ?_⟩
    · have c := of_decide_eq_true c
      rw [hs, if_pos c]
      exact ⟨a2, a4, ⟨by omega, by omega, by omega, by omega⟩, rfl, rfl, rfl⟩
    · have c := of_decide_eq_false c
      rw [hs, if_neg c]
      exact ⟨by unfold inI64; omega, by unfold inI64; omega, a2, a4, ⟨by omega, by omega, by omega, by omega⟩, rfl, rfl, rfl⟩

def c_Grown : PC := D [T_Dig, T_Dig, .i64, .i64, .slc T_Dig] [.bool] (fun _ => none) (fun x => (grownB x.1 x.2.1 x.2.2.1 x.2.2.2.1 x.2.2.2.2.1, ()))

theorem merkle_Grown_vc (was now : Dig) (m n : Int) (p : List Dig) (hp : p.length ≤ LIM) :
    ((decide (n < 0) || decide (1048576 < n) || decide (m < 0) || decide (n < m)) = true → false = grownB was now m n p) ∧
      ((decide (n < 0) || decide (1048576 < n) || decide (m < 0) || decide (n < m)) = false →
        ((m == 0) = true →
            (List.length (nilOf (T.den (T.arr 32 T.u8))) < 1048577 ∧ List.length (nilOf (T.den (T.arr 32 T.u8))) ≤ 1048576) ∧
              (ofN (List.length p) == 0 && eqL T.u8 was (rootV (nilOf (T.den (T.arr 32 T.u8)))) && (decide (0 < n) || eqL T.u8 now (rootV (nilOf (T.den (T.arr 32 T.u8)))))) = grownB was now m n p) ∧
          ((m == 0) = false →
            (List.length p < 9223372036854775808 ∧ 1 ≤ m ∧ m ≤ n ∧ n ≤ 1048576) ∧
              ((grownV was zero32 m n true p).2 && (eqL T.u8 (grownV was zero32 m n true p).1.1 was && eqL T.u8 (grownV was zero32 m n true p).1.2 now)) = grownB was now m n p)) := by
  have hp' : p.length ≤ 9223372036854775807 := hp
  have e0 : rootV (nilOf (T.den (T.arr 32 T.u8))) = sha [] := rootV_zero rfl
  have e1 : ∀ k : Nat, List.length (nilOf (T.den (T.arr 32 T.u8))) < k + 1 ∧ List.length (nilOf (T.den (T.arr 32 T.u8))) ≤ 1048576 := fun k => by unfold nilOf; simp
  rw [e0]
  refine ⟨fun g => ?_, fun g => ⟨fun g1 => ?_, fun g1 => ?_⟩⟩
  · simp only [Bool.or_eq_true, decide_eq_true_eq] at g
    unfold grownB; rw [if_neg (by omega)]
  · simp only [Bool.or_eq_false_iff, decide_eq_false_iff_not] at g
    have g1 : m = 0 := by simpa using g1
    have el : (ofN p.length == 0) = decide (p.length = 0) := by
      rw [Bool.eq_iff_iff]; simp only [beq_iff_eq, decide_eq_true_eq, ofN]; omega
    unfold grownB; rw [if_pos (by omega), if_pos g1, eqL_u8, eqL_u8, el]
    exact ⟨e1 _, rfl⟩
  · simp only [Bool.or_eq_false_iff, decide_eq_false_iff_not] at g
    have g1 : ¬ m = 0 := by simpa using g1
    unfold grownB; rw [if_pos (by omega), if_neg g1, eqL_u8, eqL_u8]
    refine ⟨⟨by omega, by omega, by omega, by omega⟩, ?_⟩
    have hm := grownR_same was zero32 was p.reverse m n true
    have hm1 : (grownV was zero32 m n true p).2 = (grownV was was m n true p).2 := hm.1
    have hm2 : (grownV was zero32 m n true p).2 = true → (grownV was zero32 m n true p).1 = (grownV was was m n true p).1 := hm.2
    cases hb : (grownV was zero32 m n true p).2 with
    | false => rw [← hm1, hb]; rfl
    | true => rw [← hm1, hb, hm2 hb]

theorem ref27_Grown_vc (was now : Dig) (m n : Int) (p : List Dig) (hp : p.length ≤ LIM) :
    ((decide (n < 0) || decide (1048576 < n) || decide (m < 0) || decide (n < m)) = true → false = grownB was now m n p) ∧
      ((decide (n < 0) || decide (1048576 < n) || decide (m < 0) || decide (n < m)) = false →
        ((m == 0) = true →
            ((ofN (List.length p) == 0) = true → List.length (nilOf (T.den (T.arr 32 T.u8))) < 1048577 ∧ List.length (nilOf (T.den (T.arr 32 T.u8))) ≤ 1048576) ∧
              ((ofN (List.length p) == 0 && eqL T.u8 was (rootV (nilOf (T.den (T.arr 32 T.u8))))) = true →
                  decide (0 < n) = false → List.length (nilOf (T.den (T.arr 32 T.u8))) < 1048577 ∧ List.length (nilOf (T.den (T.arr 32 T.u8))) ≤ 1048576) ∧
                (ofN (List.length p) == 0 && eqL T.u8 was (rootV (nilOf (T.den (T.arr 32 T.u8)))) && (decide (0 < n) || eqL T.u8 now (rootV (nilOf (T.den (T.arr 32 T.u8)))))) = grownB was now m n p) ∧
          ((m == 0) = false →
            (List.length p < 9223372036854775808 ∧ 1 ≤ m ∧ m ≤ n ∧ n ≤ 1048576) ∧
              ((grownV was was m n true p).2 && eqL T.u8 (grownV was was m n true p).1.1 was && eqL T.u8 (grownV was was m n true p).1.2 now) = grownB was now m n p)) := by
  have hp' : p.length ≤ 9223372036854775807 := hp
  have e0 : rootV (nilOf (T.den (T.arr 32 T.u8))) = sha [] := rootV_zero rfl
  have e1 : ∀ k : Nat, List.length (nilOf (T.den (T.arr 32 T.u8))) < k + 1 ∧ List.length (nilOf (T.den (T.arr 32 T.u8))) ≤ 1048576 := fun k => by unfold nilOf; simp
  rw [e0]
  refine ⟨fun g => ?_, fun g => ⟨fun g1 => ?_, fun g1 => ?_⟩⟩
  · simp only [Bool.or_eq_true, decide_eq_true_eq] at g
    unfold grownB; rw [if_neg (by omega)]
  · simp only [Bool.or_eq_false_iff, decide_eq_false_iff_not] at g
    have g1 : m = 0 := by simpa using g1
    have el : (ofN p.length == 0) = decide (p.length = 0) := by
      rw [Bool.eq_iff_iff]; simp only [beq_iff_eq, decide_eq_true_eq, ofN]; omega
    unfold grownB; rw [if_pos (by omega), if_pos g1, eqL_u8, eqL_u8, el]
    exact ⟨fun _ => e1 _, fun _ _ => e1 _, rfl⟩
  · simp only [Bool.or_eq_false_iff, decide_eq_false_iff_not] at g
    have g1 : ¬ m = 0 := by simpa using g1
    unfold grownB; rw [if_pos (by omega), if_neg g1, eqL_u8, eqL_u8]
    refine ⟨⟨by omega, by omega, by omega, by omega⟩, ?_⟩
    rw [Bool.and_assoc]

theorem law27_MerkleTakes_vc (root leaf : Dig) (i n m : Int) (p : List Dig) :
    ofN 0 ≤ 24 ∧
      (inV root leaf i n (List.take (Int.toNat 24) p) == inV root leaf i n (List.take (Int.toNat 24) p) &&
            grownB leaf root m n (List.take (Int.toNat 24) p) == grownB leaf root m n (List.take (Int.toNat 24) p) &&
          true) =
        true := by
  refine ⟨by decide, ?_⟩
  simp

theorem law27_MerkleProved_vc (l : List Dig) (i m : Int) :
    ofN 0 ≤ 40 ∧
      (((rootA (List.take (Int.toNat 40) l)).2 != 0) = true → false = true) ∧
        (((rootA (List.take (Int.toNat 40) l)).2 != 0) = false →
          ((!((pathA (List.take (Int.toNat 40) l) i).2 == 0) == (decide (0 ≤ i) && decide (i < ofN (List.length (List.take (Int.toNat 40) l))))) = false →
              (decide (0 ≤ i) && decide (i < ofN (List.length (List.take (Int.toNat 40) l)))) = true → within i (List.length (List.take (Int.toNat 40) l))) ∧
            ((!((pathA (List.take (Int.toNat 40) l) i).2 == 0) == (decide (0 ≤ i) && decide (i < ofN (List.length (List.take (Int.toNat 40) l)))) ||
                    decide (0 ≤ i) && decide (i < ofN (List.length (List.take (Int.toNat 40) l))) &&
                      !inV (rootA (List.take (Int.toNat 40) l)).1 (List.getD (List.take (Int.toNat 40) l) (Int.toNat i) (T.dflt (T.arr 32 T.u8))) i (ofN (List.length (List.take (Int.toNat 40) l)))
                          (pathA (List.take (Int.toNat 40) l) i).1) =
                  true →
                false = true) ∧
              ((!((pathA (List.take (Int.toNat 40) l) i).2 == 0) == (decide (0 ≤ i) && decide (i < ofN (List.length (List.take (Int.toNat 40) l)))) ||
                    decide (0 ≤ i) && decide (i < ofN (List.length (List.take (Int.toNat 40) l))) &&
                      !inV (rootA (List.take (Int.toNat 40) l)).1 (List.getD (List.take (Int.toNat 40) l) (Int.toNat i) (T.dflt (T.arr 32 T.u8))) i (ofN (List.length (List.take (Int.toNat 40) l)))
                          (pathA (List.take (Int.toNat 40) l) i).1) =
                  false →
                ((decide (m < 0) || decide (ofN (List.length (List.take (Int.toNat 40) l)) < m)) = true → ((growA (List.take (Int.toNat 40) l) m).2 != 0 && true) = true) ∧
                  ((decide (m < 0) || decide (ofN (List.length (List.take (Int.toNat 40) l)) < m)) = false →
                    (0 ≤ m ∧ m ≤ ofN (List.length (List.take (Int.toNat 40) l))) ∧
                      ((growA (List.take (Int.toNat 40) l) m).2 == 0 &&
                            grownB (rootA (List.drop 0 (List.take (Int.toNat m) (List.take (Int.toNat 40) l)))).1 (rootA (List.take (Int.toNat 40) l)).1 m (ofN (List.length (List.take (Int.toNat 40) l)))
                              (growA (List.take (Int.toNat 40) l) m).1 &&
                          true) =
                        true))) := by
  have hl : (List.take (Int.toNat 40) l).length ≤ 40 := by rw [List.length_take]; exact Nat.min_le_left _ _
  generalize List.take (Int.toNat 40) l = l at hl ⊢
  have er : rootA l = (rootV l, 0) := if_pos (by omega)
  have eb : ∀ x y : Bool, (!(x == y)) = false → x = y := fun x y h => by cases x <;> cases y <;> first | rfl | exact Bool.noConfusion h
  rw [er]
  have hpath : ((pathA l i).2 == 0) = (decide (0 ≤ i) && decide (i < ofN l.length)) := by
    rw [Bool.eq_iff_iff]
    simp only [beq_iff_eq, Bool.and_eq_true, decide_eq_true_eq, ofN]
    unfold pathA
    rw [if_pos (by omega)]
    split
    · rename_i h; exact ⟨fun _ => h, fun _ => rfl⟩
    · rename_i h; exact ⟨fun h2 => absurd h2 (by decide), fun h2 => (h h2).elim⟩
  have hin : (decide (0 ≤ i) && decide (i < ofN l.length)) = true → inV (rootV l) (List.getD l (Int.toNat i) (T.dflt (T.arr 32 T.u8))) i (ofN l.length) (pathA l i).1 = true := fun h => by
    simp only [Bool.and_eq_true, decide_eq_true_eq, ofN] at h
    unfold pathA
    rw [if_pos (by omega), if_pos h]
    exact in_path (by omega) h.1 h.2
  have hbad : (!((pathA l i).2 == 0) == (decide (0 ≤ i) && decide (i < ofN l.length)) || decide (0 ≤ i) && decide (i < ofN l.length) && !inV (rootV l) (List.getD l (Int.toNat i) (T.dflt (T.arr 32 T.u8))) i (ofN l.length) (pathA l i).1) = false := by
    rw [hpath]
    cases hc : (decide (0 ≤ i) && decide (i < ofN l.length)) with
    | false => rfl
    | true => rw [hin hc]; rfl
  refine ⟨by decide, fun h => by simp at h, fun _ => ⟨fun _ h => ?_, fun h => ?_, fun _ => ⟨fun h => ?_, fun h => ?_⟩⟩⟩
  · simp only [Bool.and_eq_true, decide_eq_true_eq, ofN] at h
    unfold within; omega
  · have h2 := hbad.symm.trans h
    cases h2
  · simp only [Bool.or_eq_true, decide_eq_true_eq, ofN] at h
    unfold growA
    rw [if_pos (by omega), if_neg (by omega)]
    rfl
  · simp only [Bool.or_eq_false_iff, decide_eq_false_iff_not, ofN] at h
    have h0 : (0 : Int) ≤ m := by omega
    have h1 : m ≤ (l.length : Int) := by omega
    have e2 : rootA (List.drop 0 (List.take (Int.toNat m) l)) = (rootV (l.take m.toNat), 0) := by
      rw [List.drop_zero]
      exact if_pos (by rw [List.length_take]; omega)
    have e3 : (growA l m).2 = 0 := by
      unfold growA
      rw [if_pos (by omega), if_pos ⟨h0, h1⟩]
      split <;> rfl
    have e4 := grown_growth (l := l) (m := m) (by omega) h0 h1
    refine ⟨⟨h0, h1⟩, ?_⟩
    rw [e2, e3]
    show (_ && grownB (rootV (l.take m.toNat)) (rootV l) m (l.length : Int) (growA l m).1 && true) = true
    rw [e4]; rfl

def an_Logs (l : List Rec) : Nat → SState → Option LoopAnn
  | 3, S => some { X := Nat × List Rec, slots := fun y => [(5, .sv (.own 10 T_Rec y.2)), (6, .sv (.dv (.i64 y.1)))], objs := fun _ => [(x_tok S 5, .gone), (10, .tok t_api_Record 38)], inv := fun y => y.1 ≤ l.length ∧ y.1 ≤ 12 ∧ y.2.length ≤ y.1 ∧ ∀ r ∈ y.2, checkV r = 0, meas := fun y => l.length - y.1 }
  | _, _ => none

theorem law27_MerkleLogs_vc (l : List Rec) (m : Int) (hl : l.length ≤ LIM) :
    (∃ (x : Nat × List (Int × Int × List (BitVec 8) × Int × Int × List (BitVec 8) × List (List (BitVec 8) × Int))),
        (x.1 ≤ List.length l ∧ x.1 ≤ 12 ∧ List.length x.2 ≤ x.1 ∧ ∀ (r : Int × Int × List (BitVec 8) × Int × Int × List (BitVec 8) × List (List (BitVec 8) × Int)), List.Mem r x.2 → checkV r = 0) ∧
          x.2 = nilOf (T.den T_Rec) ∧ 0 = ofN x.1) ∧
      ∀ (x : Nat × List (Int × Int × List (BitVec 8) × Int × Int × List (BitVec 8) × List (List (BitVec 8) × Int))),
        (x.1 ≤ List.length l ∧ x.1 ≤ 12 ∧ List.length x.2 ≤ x.1 ∧ ∀ (r : Int × Int × List (BitVec 8) × Int × Int × List (BitVec 8) × List (List (BitVec 8) × Int)), List.Mem r x.2 → checkV r = 0) →
          ((decide (ofN x.1 < ofN (List.length l)) && decide (ofN x.1 < 12)) = true →
              within (ofN x.1) (List.length l) ∧
                ((checkV
                          (List.getD l (Int.toNat (ofN x.1))
                            (T.dflt T_Rec)) ==
                        0) =
                      true →
                    within (ofN x.1) (List.length l)) ∧
                  ((checkV
                              (List.getD l (Int.toNat (ofN x.1))
                                (T.dflt T_Rec)) ==
                            0 &&
                          decide
                            (ofN
                                (List.length
                                  (List.getD l (Int.toNat (ofN x.1))
                                                (T.dflt
                                                  T_Rec)).2.2.2.2.2.2) <
                              30)) =
                        true →
                      within (ofN x.1) (List.length l) ∧
                        List.length x.2 +
                              List.length
                                [List.getD l (Int.toNat (ofN x.1))
                                    (T.dflt T_Rec)] ≤
                            ROOM ∧
                          inI64 (ofN x.1 + 1) ∧
                            ∃ (x' : Nat × List (Int × Int × List (BitVec 8) × Int × Int × List (BitVec 8) × List (List (BitVec 8) × Int))),
                              (x'.1 ≤ List.length l ∧
                                  x'.1 ≤ 12 ∧ List.length x'.2 ≤ x'.1 ∧ ∀ (r : Int × Int × List (BitVec 8) × Int × Int × List (BitVec 8) × List (List (BitVec 8) × Int)), List.Mem r x'.2 → checkV r = 0) ∧
                                List.length l - x'.1 < List.length l - x.1 ∧
                                  x.2 ++
                                        [List.getD l (Int.toNat (ofN x.1))
                                            (T.dflt T_Rec)] =
                                      x'.2 ∧
                                    ofN x.1 + 1 = ofN x'.1) ∧
                    ((checkV
                              (List.getD l (Int.toNat (ofN x.1))
                                (T.dflt T_Rec)) ==
                            0 &&
                          decide
                            (ofN
                                (List.length
                                  (List.getD l (Int.toNat (ofN x.1))
                                                (T.dflt
                                                  T_Rec)).2.2.2.2.2.2) <
                              30)) =
                        false →
                      inI64 (ofN x.1 + 1) ∧
                        ∃ (x' : Nat × List (Int × Int × List (BitVec 8) × Int × Int × List (BitVec 8) × List (List (BitVec 8) × Int))),
                          (x'.1 ≤ List.length l ∧
                              x'.1 ≤ 12 ∧ List.length x'.2 ≤ x'.1 ∧ ∀ (r : Int × Int × List (BitVec 8) × Int × Int × List (BitVec 8) × List (List (BitVec 8) × Int)), List.Mem r x'.2 → checkV r = 0) ∧
                            List.length l - x'.1 < List.length l - x.1 ∧ x.2 = x'.2 ∧ ofN x.1 + 1 = ofN x'.1)) ∧
            ((decide (ofN x.1 < ofN (List.length l)) && decide (ofN x.1 < 12)) = false →
              List.length x.2 ≤ 1048576 ∧
                (((recsV (nilOf (List (BitVec 8))) x.2).2 != 0 || ofN (List.length (recsV (nilOf (List (BitVec 8))) x.2).1) != ofN (List.length x.2)) = true → false = true) ∧
                  (((recsV (nilOf (List (BitVec 8))) x.2).2 != 0 || ofN (List.length (recsV (nilOf (List (BitVec 8))) x.2).1) != ofN (List.length x.2)) = false →
                    ((decide (m < 0) || decide (ofN (List.length (recsV (nilOf (List (BitVec 8))) x.2).1) < m)) = true → true = true) ∧
                      ((decide (m < 0) || decide (ofN (List.length (recsV (nilOf (List (BitVec 8))) x.2).1) < m)) = false →
                        (0 ≤ m ∧ m ≤ ofN (List.length (recsV (nilOf (List (BitVec 8))) x.2).1)) ∧
                          ((rootA (List.drop 0 (List.take (Int.toNat m) (recsV (nilOf (List (BitVec 8))) x.2).1))).2 == 0 && (rootA (recsV (nilOf (List (BitVec 8))) x.2).1).2 == 0 &&
                                  (growA (recsV (nilOf (List (BitVec 8))) x.2).1 m).2 == 0 &&
                                grownB (rootA (List.drop 0 (List.take (Int.toNat m) (recsV (nilOf (List (BitVec 8))) x.2).1))).1 (rootA (recsV (nilOf (List (BitVec 8))) x.2).1).1 m
                                  (ofN (List.length (recsV (nilOf (List (BitVec 8))) x.2).1)) (growA (recsV (nilOf (List (BitVec 8))) x.2).1 m).1 &&
                              true) =
                            true))) := by
  have hl' : l.length ≤ 9223372036854775807 := hl
  refine ⟨⟨(0, []), ⟨Nat.zero_le _, by decide, Nat.le_refl _, fun r hr => by cases hr⟩, rfl, rfl⟩, fun x ⟨k1, k2, k3, k4⟩ => ⟨fun hc => ?_, fun hc => ?_⟩⟩
  · simp only [Bool.and_eq_true, decide_eq_true_eq, ofN, Int.ofNat_lt] at hc
    have k4 : ∀ r ∈ x.2, checkV r = 0 := k4
    have hc2 : x.1 < 12 := by omega
    have wi : within (ofN x.1) l.length := by unfold within ofN; omega
    have h64 : inI64 (ofN x.1 + 1) := by unfold inI64 ofN; omega
    refine ⟨wi, fun _ => wi, fun h => ⟨wi, by unfold ROOM; simp; omega, h64, (x.1 + 1, x.2 ++ [_]), ⟨hc.1, hc2, ?_, ?_⟩, ?_, rfl, ?_⟩, fun h => ⟨h64, (x.1 + 1, x.2), ⟨hc.1, hc2, ?_, k4⟩, ?_, rfl, ?_⟩⟩
    · show (x.2 ++ [_]).length ≤ x.1 + 1
      simp; omega
    · intro r hr
      have hr : r ∈ x.2 ++ [_] := hr
      rw [List.mem_append, List.mem_singleton] at hr
      rcases hr with hr | rfl
      · exact k4 r hr
      · simp only [Bool.and_eq_true, beq_iff_eq] at h
        exact h.1
    · show l.length - (x.1 + 1) < l.length - x.1
      omega
    · show ofN x.1 + 1 = ofN (x.1 + 1)
      unfold ofN; omega
    · show x.2.length ≤ x.1 + 1
      omega
    · show l.length - (x.1 + 1) < l.length - x.1
      omega
    · show ofN x.1 + 1 = ofN (x.1 + 1)
      unfold ofN; omega
  · obtain ⟨q1, q2⟩ := recs_fine x.2 [] k4
    have q1 : (recsV (nilOf (List (BitVec 8))) x.2).2 = 0 := q1
    have q2 : (recsV (nilOf (List (BitVec 8))) x.2).1.length = x.2.length := q2.trans (Nat.zero_add _)
    have q3 : x.2.length ≤ 12 := by omega
    rw [q1]
    rw [← q2] at q3 ⊢
    generalize (recsV (nilOf (List (BitVec 8))) x.2).1 = d at q3 ⊢
    have er : rootA d = (rootV d, 0) := if_pos (by omega)
    refine ⟨by omega, fun h => ?_, fun _ => ⟨fun _ => rfl, fun h => ?_⟩⟩
    · simp at h
    · simp only [Bool.or_eq_false_iff, decide_eq_false_iff_not, ofN] at h
      have h0 : (0 : Int) ≤ m := by omega
      have h1 : m ≤ (d.length : Int) := by omega
      have e2 : rootA (List.drop 0 (List.take (Int.toNat m) d)) = (rootV (d.take m.toNat), 0) := by
        rw [List.drop_zero]
        exact if_pos (by rw [List.length_take]; omega)
      have e3 : (growA d m).2 = 0 := by
        unfold growA
        rw [if_pos (by omega), if_pos ⟨h0, h1⟩]
        split <;> rfl
      have e4 := grown_growth (l := d) (m := m) (by omega) h0 h1
      refine ⟨⟨h0, h1⟩, ?_⟩
      rw [er, e2, e3]
      show (_ && grownB (rootV (d.take m.toNat)) (rootV d) m (d.length : Int) (growA d m).1 && true) = true
      rw [e4]; rfl

theorem one_cases {g : Nat} {a b x : Dig} {ok both : Bool} {r : CRes} (h : x_one g a b x ok both = some r) :
    (g = f_merkle_grown_f2 ∧ r = ⟨none, .tup [svOfT T_DD ((bif both then nodeV a x else a), nodeV b x), .dv (.bool ok)], none, none⟩) ∨
    (g = f_merkle_grown_f3 ∧ r = ⟨none, .tup [svOfT T_DD ((bif both then nodeV x a else a), nodeV x b), .dv (.bool ok)], none, none⟩) := by
  unfold x_one at h
  cases h2 : Nat.beq g f_merkle_grown_f2 with
  | true => rw [h2] at h; simp only [cond_true, Option.some.injEq] at h; exact .inl ⟨Nat.eq_of_beq_eq_true h2, h.symm⟩
  | false =>
    rw [h2] at h
    cases h3 : Nat.beq g f_merkle_grown_f3 with
    | true => rw [h3] at h; simp only [cond_true, cond_false, Option.some.injEq] at h; exact .inr ⟨Nat.eq_of_beq_eq_true h3, h.symm⟩
    | false => rw [h3] at h; cases h

theorem merkle_step2_body (d x : Dig) : ∃ ann, bodyVC P (gam [(f_merkle_Node, c_Node)]) ann b_merkle_grown_f2 false [.agg [.run (.many .u8 32 d)], .ipt [.many .u8 32 x]] ⟨none, .sv (svOfT T_Dig (nodeV d x)), none, none⟩ :=
  body_ok an_none (merkle_step2_vc d x) (by kernel_rfl)

theorem merkle_step3_body (d x : Dig) : ∃ ann, bodyVC P (gam [(f_merkle_Node, c_Node)]) ann b_merkle_grown_f3 false [.agg [.run (.many .u8 32 d)], .ipt [.many .u8 32 x]] ⟨none, .sv (svOfT T_Dig (nodeV x d)), none, none⟩ :=
  body_ok an_none (merkle_step3_vc d x) (by kernel_rfl)

theorem merkle_one2_body (a b x : Dig) (ok both : Bool) : ∃ ann, bodyVC P (gam [(f_merkle_grown_f2, c_stepL), (f_merkle_grown_f3, c_stepR)]) ann b_merkle_grown_f1 false [.agg [.run (.many .u8 32 a), .run (.many .u8 32 b)], .dv (.bool ok), .clo f_merkle_grown_f2 [[.many .u8 32 x]], .dv (.bool both)] ⟨none, .tup [svOfT T_DD ((bif both then nodeV a x else a), nodeV b x), .dv (.bool ok)], none, none⟩ :=
  body_ok an_none (merkle_one2_vc a b x ok both) (by kernel_rfl)

theorem merkle_one3_body (a b x : Dig) (ok both : Bool) : ∃ ann, bodyVC P (gam [(f_merkle_grown_f2, c_stepL), (f_merkle_grown_f3, c_stepR)]) ann b_merkle_grown_f1 false [.agg [.run (.many .u8 32 a), .run (.many .u8 32 b)], .dv (.bool ok), .clo f_merkle_grown_f3 [[.many .u8 32 x]], .dv (.bool both)] ⟨none, .tup [svOfT T_DD ((bif both then nodeV x a else a), nodeV x b), .dv (.bool ok)], none, none⟩ :=
  body_ok an_none (merkle_one3_vc a b x ok both) (by kernel_rfl)

theorem merkle_step2_spec : Vse.Spec P f_merkle_grown_f2 c_stepL :=
  spec_of_body (gam_ok (l := [(f_merkle_Node, c_Node)]) ⟨merkle_Node_spec, trivial⟩) h_merkle_grown_f2 rfl rfl
    (fun ins r hr => by
      unfold c_stepL c_step at hr
      dsimp only at hr
      split at hr
      · simp only [Option.some.injEq] at hr; subst hr; rfl
      · cases hr)
    (fun ins r hr hv ho => by
      unfold c_stepL c_step at hr
      dsimp only at hr
      split at hr
      · simp only [Option.some.injEq] at hr; subst hr
        exact merkle_step2_body _ _
      · cases hr)

theorem merkle_step3_spec : Vse.Spec P f_merkle_grown_f3 c_stepR :=
  spec_of_body (gam_ok (l := [(f_merkle_Node, c_Node)]) ⟨merkle_Node_spec, trivial⟩) h_merkle_grown_f3 rfl rfl
    (fun ins r hr => by
      unfold c_stepR c_step at hr
      dsimp only at hr
      split at hr
      · simp only [Option.some.injEq] at hr; subst hr; rfl
      · cases hr)
    (fun ins r hr hv ho => by
      unfold c_stepR c_step at hr
      dsimp only at hr
      split at hr
      · simp only [Option.some.injEq] at hr; subst hr
        exact merkle_step3_body _ _
      · cases hr)

theorem merkle_one_spec : Vse.Spec P f_merkle_grown_f1 c_one :=
  spec_of_body (gam_ok (l := [(f_merkle_grown_f2, c_stepL), (f_merkle_grown_f3, c_stepR)]) ⟨merkle_step2_spec, merkle_step3_spec, trivial⟩) h_merkle_grown_f1 rfl rfl
    (fun ins r hr => by
      unfold c_one at hr
      dsimp only at hr
      split at hr
      · rcases one_cases hr with ⟨rfl, rfl⟩ | ⟨rfl, rfl⟩ <;> rfl
      · cases hr)
    (fun ins r hr hv ho => by
      unfold c_one at hr
      dsimp only at hr
      split at hr
      · rcases one_cases hr with ⟨rfl, rfl⟩ | ⟨rfl, rfl⟩
        · exact merkle_one2_body _ _ _ _ _
        · exact merkle_one3_body _ _ _ _ _
      · cases hr)

theorem merkle_grown_spec : ∀ k, Vse.Spec P f_merkle_grown (c_grown k)
  | 0 => spec_fn (l := []) trivial h_merkle_grown rfl rfl fun x h _ => absurd (got h).1 (Nat.not_lt_zero _)
  | k + 1 => spec_fn (l := [(f_merkle_first, c_first), (f_merkle_grown, c_grown k), (f_merkle_grown_f1, c_one)]) ⟨merkle_first_spec, merkle_grown_spec k, merkle_one_spec, trivial⟩
      h_merkle_grown rfl rfl fun x h ok => body_ok an_none (merkle_grown_vc k x.1 x.2.1 x.2.2.1 x.2.2.2.1 x.2.2.2.2.1 ok.2.1.1 (got h).1 (got h).2.1 (got h).2.2.1 (got h).2.2.2) (by kernel_rfl)

theorem ref27_both_spec : ∀ k, Vse.Spec P f_ref27_both (c_both k)
  | 0 => spec_fn (l := []) trivial h_ref27_both rfl rfl fun x h _ => absurd (got h).1 (Nat.not_lt_zero _)
  | k + 1 => spec_fn (l := [(f_ref27_part, c_first), (f_ref27_Node, c_Node), (f_ref27_both, c_both k)]) ⟨ref27_part_spec, ref27_Node_spec, ref27_both_spec k, trivial⟩
      h_ref27_both rfl rfl fun x h ok => body_ok an_none (ref27_both_vc k x.1 x.2.2.2.2.1 x.2.1 x.2.2.1 x.2.2.2.1 ok.2.2.2.2.1.1 (got h).1 (got h).2.1 (got h).2.2.1 (got h).2.2.2) (by kernel_rfl)

theorem merkle_Grown_spec : Vse.Spec P f_merkle_Grown c_Grown :=
  spec_fn (l := [(f_merkle_root, c_root 1048577), (f_merkle_grown, c_grown (LIM + 1))]) ⟨merkle_root_spec _, merkle_grown_spec _, trivial⟩ h_merkle_Grown rfl rfl
    fun x _ ok => body_ok an_none (merkle_Grown_vc x.1 x.2.1 x.2.2.1 x.2.2.2.1 x.2.2.2.2.1 ok.2.2.2.2.1.1) (by kernel_rfl)

theorem ref27_Grown_spec : Vse.Spec P f_ref27_Grown c_Grown :=
  spec_fn (l := [(f_ref27_root, c_root 1048577), (f_ref27_both, c_both (LIM + 1))]) ⟨ref27_root_spec _, ref27_both_spec _, trivial⟩ h_ref27_Grown rfl rfl
    fun x _ ok => body_ok an_none (ref27_Grown_vc x.1 x.2.1 x.2.2.1 x.2.2.2.1 x.2.2.2.2.1 ok.2.2.2.2.1.1) (by kernel_rfl)

theorem law27_MerkleTakes_spec : Vse.Spec P f_law27_MerkleTakes (c_law27 [T_Dig, T_Dig, .i64, .i64, .i64, .slc T_Dig]) :=
  spec_fn (l := [(f_law27_cut, c_cut27), (f_merkle_In, c_In), (f_ref27_In, c_In), (f_merkle_Grown, c_Grown), (f_ref27_Grown, c_Grown), (f_law27_alive, c_true27)])
    ⟨law27_cut_spec, merkle_In_spec, ref27_In_spec, merkle_Grown_spec, ref27_Grown_spec, law27_alive_spec, trivial⟩ h_law27_MerkleTakes rfl rfl
    fun x _ _ => body_ok an_none (law27_MerkleTakes_vc x.1 x.2.1 x.2.2.1 x.2.2.2.1 x.2.2.2.2.1 x.2.2.2.2.2.1) (by kernel_rfl)

theorem law27_MerkleProved_spec : Vse.Spec P f_law27_MerkleProved (c_law27 [.slc T_Dig, .i64, .i64]) :=
  spec_fn (l := [(f_law27_cut, c_cut27), (f_merkle_Root, c_Root), (f_merkle_Path, c_Path), (f_merkle_In, c_In), (f_merkle_Growth, c_Growth), (f_ref27_Root, c_Root), (f_merkle_Grown, c_Grown), (f_law27_alive, c_true27)])
    ⟨law27_cut_spec, merkle_Root_spec, merkle_Path_spec, merkle_In_spec, merkle_Growth_spec, ref27_Root_spec, merkle_Grown_spec, law27_alive_spec, trivial⟩ h_law27_MerkleProved rfl rfl
    fun x _ _ => body_ok an_none (law27_MerkleProved_vc x.1 x.2.1 x.2.2.1) (by kernel_rfl)

theorem law27_MerkleLogs_spec : Vse.Spec P f_law27_MerkleLogs (c_law27 [.slc T_Rec, .i64]) :=
  spec_fn (l := [(f_ref13_Check, c_Check), (f_merkle_Records, c_recs), (f_merkle_Root, c_Root), (f_merkle_Growth, c_Growth), (f_merkle_Grown, c_Grown), (f_law27_alive, c_true27)])
    ⟨ref13_Check_spec, merkle_Records_spec, merkle_Root_spec, merkle_Growth_spec, merkle_Grown_spec, law27_alive_spec, trivial⟩ h_law27_MerkleLogs rfl rfl
    fun x _ ok => body_ok (an_Logs x.1) (law27_MerkleLogs_vc x.1 x.2.1 ok.1.1) (by kernel_rfl)

end Go.Sal
