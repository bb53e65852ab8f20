/- Contracts of merkle and of ref27: what a path makes. -/
import Derived.Test.YtdddnamfecgkeaaDoorWCLaw27
set_option maxRecDepth 100000
namespace Go.Sal
open Go.Vse Go.Sal.Nm

def c_made (bad : Dig → Dig) (k : Nat) : PC := D [T_Dig, .i64, .i64, .slc T_Dig] [T_Dig, .bool] (fun x => some (x.2.2.2.1.length < k ∧ leP 1 x.2.2.1 ∧ leP x.2.2.1 1048576 ∧ leP 0 x.2.1 ∧ leP (x.2.1 + 1) x.2.2.1))
 (fun x => ((madeV' x.1 (bad x.1) x.2.1 x.2.2.1 x.2.2.2.1).1, (madeV' x.1 (bad x.1) x.2.1 x.2.2.1 x.2.2.2.1).2, ()))

theorem made_zero {leaf bad : Dig} {i n : Int} {p : List Dig} (h : p.length = 0) : madeV' leaf bad i n p = if n = 1 then (leaf, true) else (bad, false) := by
 have e : p = [] := List.eq_nil_of_length_eq_zero h
 subst e; rfl
theorem rev_last {p : List Dig} {d : Dig} (h : 1 ≤ p.length) : p.reverse = p.getD (p.length - 1) d :: (p.take (p.length - 1)).reverse := by
 have e := take_snoc' (l := p) (i := p.length - 1) (d := d) (by omega)
 rw [Nat.sub_add_cancel h, List.take_length] at e
 have e2 := congrArg List.reverse e
 rw [List.reverse_append] at e2
 exact e2
theorem made_one {leaf bad : Dig} {i n : Int} {p : List Dig} (h : n = 1) : madeV' leaf bad i n p = (leaf, decide (p.length = 0)) := by
 subst h
 by_cases hp : p.length = 0
 · rw [made_zero hp, if_pos rfl, decide_eq_true hp]
 · unfold madeV'
   rw [rev_last (d := T_Dig.dflt) (by omega), madeR, if_pos rfl, decide_eq_false hp]
theorem made_step {leaf bad : Dig} {i n : Int} {p : List Dig} (h : ¬ n = 1) (hp : 1 ≤ p.length) : madeV' leaf bad i n p =
 if i < (partN n.toNat : Int) then (nodeV (madeV' leaf bad i (partN n.toNat) (p.take (p.length - 1))).1 (p.getD (p.length - 1) T_Dig.dflt), (madeV' leaf bad i (partN n.toNat) (p.take (p.length - 1))).2)
 else (nodeV (p.getD (p.length - 1) T_Dig.dflt) (madeV' leaf bad (i - (partN n.toNat : Int)) (n - (partN n.toNat : Int)) (p.take (p.length - 1))).1, (madeV' leaf bad (i - (partN n.toNat : Int)) (n - (partN n.toNat : Int)) (p.take (p.length - 1))).2) := by
 have e : madeV' leaf bad i n p = madeR leaf bad p.reverse i n := rfl
 rw [e, rev_last (d := T_Dig.dflt) hp, madeR, if_neg h]
 rfl
theorem part_int {n : Int} (h : (2 : Int) ≤ n) : (1 : Int) ≤ ofN (partN n.toNat) ∧ ofN (partN n.toNat) < n := by
 have h3 := partN_lt (n := n.toNat) (by omega)
 have h4 := partN_pos n.toNat
 unfold ofN; omega

theorem merkle_made_vc (k : Nat) (leaf : Dig) (i n : Int) (p : List Dig) (hl : p.length ≤ LIM) (hp : p.length < k + 1) (h1 : (1 : Int) ≤ n) (h2 : n ≤ 1048576) (h3 : (0 : Int) ≤ i) (h4 : i + 1 ≤ n) :
 ((n == 1 || ofN (List.length p) == 0) = true → leaf = (madeV' leaf leaf i n p).1 ∧ (n == 1 && ofN (List.length p) == 0) = (madeV' leaf leaf i n p).2) ∧
  ((n == 1 || ofN (List.length p) == 0) = false →
  (2 ≤ n ∧ n ≤ 1048576) ∧
  inI64 (ofN (List.length p) - 1) ∧
  within (ofN (List.length p) - 1) (List.length p) ∧
  inI64 (ofN (List.length p) - 1) ∧
  (0 ≤ ofN (List.length p) - 1 ∧ ofN (List.length p) - 1 ≤ ofN (List.length p)) ∧
  (decide (i < ofN (partN (Int.toNat n))) = true →
  (List.length (List.drop 0 (List.take (Int.toNat (ofN (List.length p) - 1)) p)) < k ∧
  1 ≤ ofN (partN (Int.toNat n)) ∧ ofN (partN (Int.toNat n)) ≤ 1048576 ∧ 0 ≤ i ∧ i + 1 ≤ ofN (partN (Int.toNat n))) ∧
  nodeV (madeV' leaf leaf i (ofN (partN (Int.toNat n))) (List.drop 0 (List.take (Int.toNat (ofN (List.length p) - 1)) p))).1
  (List.getD p (Int.toNat (ofN (List.length p) - 1)) (T.dflt (T.arr 32 T.u8))) =
  (madeV' leaf leaf i n p).1 ∧
  (madeV' leaf leaf i (ofN (partN (Int.toNat n))) (List.drop 0 (List.take (Int.toNat (ofN (List.length p) - 1)) p))).2 = (madeV' leaf leaf i n p).2) ∧
  (decide (i < ofN (partN (Int.toNat n))) = false →
  inI64 (i - ofN (partN (Int.toNat n))) ∧
  inI64 (n - ofN (partN (Int.toNat n))) ∧
  (List.length (List.drop 0 (List.take (Int.toNat (ofN (List.length p) - 1)) p)) < k ∧
  1 ≤ n - ofN (partN (Int.toNat n)) ∧
  n - ofN (partN (Int.toNat n)) ≤ 1048576 ∧ 0 ≤ i - ofN (partN (Int.toNat n)) ∧ i - ofN (partN (Int.toNat n)) + 1 ≤ n - ofN (partN (Int.toNat n))) ∧
  nodeV (List.getD p (Int.toNat (ofN (List.length p) - 1)) (T.dflt (T.arr 32 T.u8)))
  (madeV' leaf leaf (i - ofN (partN (Int.toNat n))) (n - ofN (partN (Int.toNat n))) (List.drop 0 (List.take (Int.toNat (ofN (List.length p) - 1)) p))).1 =
  (madeV' leaf leaf i n p).1 ∧
  (madeV' leaf leaf (i - ofN (partN (Int.toNat n))) (n - ofN (partN (Int.toNat n))) (List.drop 0 (List.take (Int.toNat (ofN (List.length p) - 1)) p))).2 =
  (madeV' leaf leaf i n p).2)) := by
 have hk : p.length ≤ 9223372036854775807 := hl
 refine ⟨fun g => ?_, fun g => ?_⟩
 · simp only [Bool.or_eq_true, beq_iff_eq, ofN] at g
   by_cases hn : n = 1
   · rw [made_one hn]
     refine ⟨rfl, ?_⟩
     rw [Bool.eq_iff_iff]
     simp only [Bool.and_eq_true, beq_iff_eq, decide_eq_true_eq, hn, ofN, true_and]
     omega
   · have hz : p.length = 0 := by omega
     rw [made_zero hz, if_neg hn]
     refine ⟨rfl, ?_⟩
     rw [Bool.eq_iff_iff]
     simp only [Bool.and_eq_true, beq_iff_eq, hn, false_and]
     exact ⟨fun q => q.elim, fun q => by cases q⟩
 · simp only [Bool.or_eq_false_iff, beq_eq_false_iff_ne, ne_eq, ofN] at g
   have hn : ¬ n = 1 := g.1
   have hp1 : 1 ≤ p.length := by omega
   have ei : Int.toNat (ofN p.length - 1) = p.length - 1 := by unfold ofN; omega
   have ht : (p.take (p.length - 1)).length = p.length - 1 := by rw [List.length_take]; omega
   have hs := made_step (leaf := leaf) (bad := leaf) (i := i) hn hp1
   obtain ⟨q1, q2⟩ := part_int (n := n) (by omega)
   have a1 : (2 : Int) ≤ n ∧ n ≤ 1048576 := by omega
   have a2 : inI64 (ofN p.length - 1) := by unfold inI64 ofN; omega
   have a3 : within (ofN p.length - 1) p.length := by unfold within ofN; omega
   have a4 : (0 : Int) ≤ ofN p.length - 1 ∧ ofN p.length - 1 ≤ ofN p.length := by unfold ofN; omega
   rw [ei, List.drop_zero, ht]
   refine ⟨a1, a2, a3, a2, a4, fun c => ?_, fun c => ?_⟩
   · have c := of_decide_eq_true c
     rw [hs, if_pos c]
     exact ⟨⟨by omega, by omega, by omega, by omega, by omega⟩, rfl, rfl⟩
   · have c := of_decide_eq_false c
     rw [hs, if_neg c]
     exact ⟨by unfold inI64; omega, by unfold inI64; omega, ⟨by omega, by omega, by omega, by omega, by omega⟩, rfl, rfl⟩

def c_In : PC := D [T_Dig, T_Dig, .i64, .i64, .slc T_Dig] [.bool] (fun _ => none) (fun x => (inV x.1 x.2.1 x.2.2.1 x.2.2.2.1 x.2.2.2.2.1, ()))

theorem merkle_In_vc (want leaf : Dig) (i n : Int) (p : List Dig) (hp : p.length ≤ LIM) :
 ((decide (n < 1) || decide (1048576 < n) || decide (i < 0) || decide (n ≤ i)) = true → false = inV want leaf i n p) ∧
  ((decide (n < 1) || decide (1048576 < n) || decide (i < 0) || decide (n ≤ i)) = false →
  (List.length p < 9223372036854775808 ∧ 1 ≤ n ∧ n ≤ 1048576 ∧ 0 ≤ i ∧ i + 1 ≤ n) ∧ ((madeV' leaf leaf i n p).2 && eqL T.u8 (madeV' leaf leaf i n p).1 want) = inV want leaf i n p) := by
 have hp' : p.length ≤ 9223372036854775807 := hp
 refine ⟨fun g => ?_, fun g => ?_⟩
 · simp only [Bool.or_eq_true, decide_eq_true_eq] at g
   unfold inV; rw [if_neg (by omega)]
 · simp only [Bool.or_eq_false_iff, decide_eq_false_iff_not] at g
   unfold inV; rw [if_pos (by omega), eqL_u8]
   exact ⟨⟨by omega, by omega, by omega, by omega, by omega⟩, rfl⟩

theorem merkle_made_spec : ∀ k, Vse.Spec P f_merkle_made (c_made id k)
 | 0 => spec_fn (l := []) trivial h_merkle_made rfl rfl fun x h _ => absurd (got h).1 (Nat.not_lt_zero _)
 | k + 1 => spec_fn (l := [(f_merkle_first, c_first), (f_merkle_Node, c_Node), (f_merkle_made, c_made id k)]) ⟨merkle_first_spec, merkle_Node_spec, merkle_made_spec k, trivial⟩
     h_merkle_made rfl rfl fun x h ok => body_ok an_none (merkle_made_vc k x.1 x.2.1 x.2.2.1 x.2.2.2.1 ok.2.2.2.1.1 (got h).1 (got h).2.1 (got h).2.2.1 (got h).2.2.2.1 (got h).2.2.2.2) (by kernel_rfl)

theorem merkle_In_spec : Vse.Spec P f_merkle_In c_In :=
 spec_fn (l := [(f_merkle_made, c_made id (LIM + 1))]) ⟨merkle_made_spec _, trivial⟩ h_merkle_In rfl rfl fun x _ ok => body_ok an_none (merkle_In_vc x.1 x.2.1 x.2.2.1 x.2.2.2.1 x.2.2.2.2.1 ok.2.2.2.2.1.1) (by kernel_rfl)

end Go.Sal
