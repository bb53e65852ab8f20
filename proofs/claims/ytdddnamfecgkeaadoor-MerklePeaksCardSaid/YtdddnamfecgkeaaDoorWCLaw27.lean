/- Contracts of merkle and of ref27, the doors, and laws of chapter 27. -/
import Derived.Test.YtdddnamfecgkeaaDoorWCMer2
set_option maxRecDepth 100000
namespace Go.Sal
open Go.Vse Go.Sal.Nm

def c_Path : PC := D [.slc T_Dig, .i64] [.slc T_Dig, .i64] (fun _ => none) (fun x => ((pathA x.1 x.2.1).1, (pathA x.1 x.2.1).2, ()))

theorem merkle_Path_vc (l : List Dig) (i : Int) :
 (decide (1048576 < ofN (List.length l)) = true → nilOf (T.den (T.arr 32 T.u8)) = (pathA l i).1 ∧ 3 = (pathA l i).2) ∧
  (decide (1048576 < ofN (List.length l)) = false →
  ((decide (i < 0) || decide (ofN (List.length l) ≤ i)) = true → nilOf (T.den (T.arr 32 T.u8)) = (pathA l i).1 ∧ 270 = (pathA l i).2) ∧
  ((decide (i < 0) || decide (ofN (List.length l) ≤ i)) = false →
  ((1 ≤ List.length l ∧ List.length l < 1048577 ∧ List.length l ≤ 1048576) ∧ 0 ≤ i ∧ i ≤ ofN (List.length l)) ∧ pathV l i = (pathA l i).1 ∧ 0 = (pathA l i).2)) := by
 unfold pathA
 refine ⟨fun a => ?_, fun a => ⟨fun b => ?_, fun b => ?_⟩⟩
 · simp only [ofN, decide_eq_true_eq] at a
   rw [if_neg (by omega)]; exact ⟨rfl, rfl⟩
 · simp only [ofN, decide_eq_false_iff_not, Bool.or_eq_true, decide_eq_true_eq] at a b
   rw [if_pos (by omega), if_neg (by omega)]; exact ⟨rfl, rfl⟩
 · simp only [ofN, decide_eq_false_iff_not, Bool.or_eq_false_iff] at a b
   rw [if_pos (by omega), if_pos (by omega)]
   exact ⟨⟨⟨by omega, by omega, by omega⟩, by omega, by unfold ofN; omega⟩, rfl, rfl⟩

def sameDs (a b : List Dig) : Bool := decide (a = b)

def c_Same27 : PC := D [.slc T_Dig, .slc T_Dig] [.bool] (fun _ => none) (fun x => (sameDs x.1 x.2.1, ()))

def an_Same27 (a b : List Dig) : Nat → SState → Option LoopAnn
 | 4, _ => some { X := Nat, slots := fun i => [(5, .sv (.dv (.i64 i)))], objs := fun _ => [], inv := fun i => i ≤ a.length ∧ a.take i = b.take i, meas := fun i => a.length - i }
 | _, _ => none

theorem ref27_Same_vc (a b : List Dig) (hl : a.length ≤ LIM) :
 ((ofN (List.length a) != ofN (List.length b)) = true → false = sameDs a b) ∧
  ((ofN (List.length a) != ofN (List.length b)) = false →
  (∃ (x : Nat), (x ≤ List.length a ∧ List.take x a = List.take x b) ∧ 0 = ofN x) ∧
  ∀ (x : Nat),
  x ≤ List.length a ∧ List.take x a = List.take x b →
  (decide (ofN x < ofN (List.length a)) = true →
  within (ofN x) (List.length a) ∧
  within (ofN x) (List.length b) ∧
  ((!eqL T.u8 (List.getD a (Int.toNat (ofN x)) (T.dflt (T.arr 32 T.u8))) (List.getD b (Int.toNat (ofN x)) (T.dflt (T.arr 32 T.u8)))) = true → false = sameDs a b) ∧
  ((!eqL T.u8 (List.getD a (Int.toNat (ofN x)) (T.dflt (T.arr 32 T.u8))) (List.getD b (Int.toNat (ofN x)) (T.dflt (T.arr 32 T.u8)))) = false →
  inI64 (ofN x + 1) ∧ ∃ (x' : Nat), (x' ≤ List.length a ∧ List.take x' a = List.take x' b) ∧ List.length a - x' < List.length a - x ∧ ofN x + 1 = ofN x')) ∧
  (decide (ofN x < ofN (List.length a)) = false → true = sameDs a b)) := by
 unfold sameDs
 have hl' : a.length ≤ 9223372036854775807 := hl
 refine ⟨fun h => ?_, fun h => ⟨⟨0, ⟨by omega, by simp⟩, rfl⟩, fun i ⟨h1, h2⟩ => ⟨fun hc => ?_, fun hc => ?_⟩⟩⟩
 · simp only [ofN, bne_iff_ne, ne_eq, Int.ofNat_inj] at h
   rw [decide_eq_false (fun e => h (by rw [e]))]
 · simp only [ofN, bne_eq_false_iff_eq, Int.ofNat_inj, decide_eq_true_eq, Int.ofNat_lt, Int.toNat_natCast, eqL_u8, Bool.not_eq_true', Bool.not_eq_false', beq_eq_false_iff_ne, ne_eq, beq_iff_eq] at h hc ⊢
   refine ⟨by unfold within; omega, by unfold within; omega, fun g => ?_, fun g => ⟨by unfold inI64; omega, i + 1, ⟨by omega, ?_⟩, by omega, by omega⟩⟩
   · rw [decide_eq_false (fun e => g (by rw [e]))]
   · rw [take_snoc' (d := T.dflt (T.arr 32 T.u8)) hc, take_snoc' (d := T.dflt (T.arr 32 T.u8)) (h ▸ hc), h2, g]
 · simp only [ofN, bne_eq_false_iff_eq, Int.ofNat_inj, decide_eq_false_iff_not, Int.ofNat_lt] at h hc
   have e1 : a.take i = a := List.take_of_length_le (by omega)
   have e2 : b.take i = b := List.take_of_length_le (by omega)
   rw [e1, e2] at h2
   rw [decide_eq_true h2]

theorem merkle_Path_spec : Vse.Spec P f_merkle_Path c_Path :=
 spec_fn (l := [(f_merkle_path, c_path 1048577)]) ⟨merkle_path_spec _, trivial⟩ h_merkle_Path rfl rfl fun x _ _ => body_ok an_none (merkle_Path_vc x.1 x.2.1) (by kernel_rfl)

theorem ref27_Same_spec : Vse.Spec P f_ref27_Same c_Same27 :=
 spec_fn (l := []) trivial h_ref27_Same rfl rfl fun x _ ok => body_ok (an_Same27 x.1 x.2.1) (ref27_Same_vc x.1 x.2.1 ok.1.1) (by kernel_rfl)

end Go.Sal
