/- Contracts of the laws of chapter 13, but for Parse. -/
import Derived.Test.YtogjeflhlnnbdaaWCRec
set_option maxRecDepth 100000
namespace Go.Sal
open Go.Vse Go.Sal.Nm

def c_eqPie : PC := D [.slc T_Pie, .slc T_Pie] [.bool] (fun _ => none) (fun x => (decide (x.1 = x.2.1), ()))

def an_eqPie (a b : List Pie) : Nat → SState → Option LoopAnn
 | 4, _ => some { X := Nat, slots := fun i => [(13, .sv (.dv (.i64 i)))], objs := fun _ => [], inv := fun i => i ≤ a.length ∧ a.take i = b.take i, meas := fun i => a.length - i }
 | _, _ => none

theorem eqPie_vc (a b : List Pie) (hl : a.length ≤ LIM) :
 ((ofN (List.length a) != ofN (List.length b)) = true → false = decide (a = b)) ∧
  ((ofN (List.length a) != ofN (List.length b)) = false →
  (∃ (x : Nat), (x ≤ List.length a ∧ List.take x a = List.take x b) ∧ 0 = ofN x) ∧
  ∀ (x : Nat),
  x ≤ List.length a ∧ List.take x a = List.take x b →
  (decide (ofN x < ofN (List.length a)) = true →
  within (ofN x) (List.length a) ∧
  within (ofN x) (List.length b) ∧
  ((!(eqL T.u8 (List.getD a (Int.toNat (ofN x)) (T.dflt (T.pair (T.arr 32 T.u8) T.i64))).1 (List.getD b (Int.toNat (ofN x)) (T.dflt (T.pair (T.arr 32 T.u8) T.i64))).1 &&
  (List.getD a (Int.toNat (ofN x)) (T.dflt (T.pair (T.arr 32 T.u8) T.i64))).2 == (List.getD b (Int.toNat (ofN x)) (T.dflt (T.pair (T.arr 32 T.u8) T.i64))).2)) =
  true →
  false = decide (a = b)) ∧
  ((!(eqL T.u8 (List.getD a (Int.toNat (ofN x)) (T.dflt (T.pair (T.arr 32 T.u8) T.i64))).1 (List.getD b (Int.toNat (ofN x)) (T.dflt (T.pair (T.arr 32 T.u8) T.i64))).1 &&
  (List.getD a (Int.toNat (ofN x)) (T.dflt (T.pair (T.arr 32 T.u8) T.i64))).2 == (List.getD b (Int.toNat (ofN x)) (T.dflt (T.pair (T.arr 32 T.u8) T.i64))).2)) =
  false →
  inI64 (ofN x + 1) ∧ ∃ (x' : Nat), (x' ≤ List.length a ∧ List.take x' a = List.take x' b) ∧ List.length a - x' < List.length a - x ∧ ofN x + 1 = ofN x')) ∧
  (decide (ofN x < ofN (List.length a)) = false → true = decide (a = b))) := by
 have dpie : ∀ p q : Pie, (eqL T.u8 p.1 q.1 && p.2 == q.2) = decide (p = q) := fun p q => by
  rw [eqL_u8, Bool.eq_iff_iff]
  obtain ⟨p1, p2⟩ := p
  obtain ⟨q1, q2⟩ := q
  simp [Prod.ext_iff]
 refine ⟨fun h => ?_, fun h => ⟨⟨0, ⟨by omega, by simp⟩, rfl⟩, fun i ⟨h1, h2⟩ => ⟨fun hc => ?_, fun hc => ?_⟩⟩⟩
 · simp only [ofN, bne_iff_ne, ne_eq, Int.ofNat_inj] at h
   rw [decide_eq_false (fun e => h (by rw [e]))]
 · simp only [ofN, bne_eq_false_iff_eq, Int.ofNat_inj, decide_eq_true_eq, Int.ofNat_lt, Int.toNat_natCast, dpie, Bool.not_eq_true', Bool.not_eq_false'] at h hc ⊢
   rw [decide_eq_false_iff_not]
   have hl' : a.length ≤ 9223372036854775807 := hl
   refine ⟨by unfold within; omega, by unfold within; omega, fun g => ?_, fun g => ⟨by unfold inI64; omega, i + 1, ⟨by omega, ?_⟩, by omega, by omega⟩⟩
   · rw [decide_eq_false (fun e => g (by rw [e]))]
   · rw [take_snoc' (d := T.dflt (T.pair (T.arr 32 T.u8) T.i64)) hc, take_snoc' (d := T.dflt (T.pair (T.arr 32 T.u8) T.i64)) (h ▸ hc), h2, g]
 · simp only [ofN, bne_eq_false_iff_eq, Int.ofNat_inj, decide_eq_false_iff_not, Int.ofNat_lt] at h hc
   have e1 : a.take i = a := List.take_of_length_le (by omega)
   have e2 : b.take i = b := List.take_of_length_le (by omega)
   rw [e1, e2] at h2
   rw [decide_eq_true h2]

def c_Same : PC := D [T_Rec, T_Rec] [.bool] (fun _ => none) (fun x => (sameV x.1 x.2.1, ()))

theorem record_Same_vc (a b : Rec) :
 (a.1 == b.1 && a.2.1 == b.2.1 && eqL T.u8 a.2.2.1 b.2.2.1 && a.2.2.2.1 == b.2.2.2.1 && a.2.2.2.2.1 == b.2.2.2.2.1 && a.2.2.2.2.2.1 == b.2.2.2.2.2.1 && decide (a.2.2.2.2.2.2 = b.2.2.2.2.2.2)) =
  sameV a b := by
 rw [eqL_u8]
 unfold sameV
 rw [Bool.eq_iff_iff]
 simp only [Bool.and_eq_true, decide_eq_true_eq, beq_iff_eq]

def ep (h : HeadT) (l : List Rec) (i : Nat) : Int := if i = 0 then h.2.1 else (l.getD (i - 1) T_Rec.dflt).2.1

end Go.Sal
