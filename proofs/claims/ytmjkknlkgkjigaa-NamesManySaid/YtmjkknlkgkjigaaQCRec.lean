/- Contracts of package record, and of its reference, but for Parse. -/
import Derived.Test.YtmjkknlkgkjigaaQCRef03
import Derived.Test.YtmjkknlkgkjigaaQSalRec
set_option maxRecDepth 100000
namespace Go.Sal
open Go.Vse Go.Sal.Nm

def c_IsPath : PC := D [.str] [.bool] (fun _ => none) (fun x => (isPath x.1, ()))

def an_IsPath (s : Bytes) : Nat → SState → Option LoopAnn
  | 4, _ => some { X := Nat, slots := fun i => [(14, .sv (.dv (.i64 i)))], objs := fun _ => [], inv := fun i => i ≤ s.length ∧ (s.take i).all okChar = true, meas := fun i => s.length - i }
  | _, _ => none

theorem record_IsPath_vc (s : Bytes) (hl : s.length ≤ LIM) :
    ((decide (ofN (List.length s) < 1) || decide (255 < ofN (List.length s))) = true → false = isPath s) ∧
      ((decide (ofN (List.length s) < 1) || decide (255 < ofN (List.length s))) = false →
      (∃ (x : Nat), (x ≤ List.length s ∧ List.all (List.take x s) okChar = true) ∧ 0 = ofN x) ∧
      ∀ (x : Nat),
      x ≤ List.length s ∧ List.all (List.take x s) okChar = true →
      (decide (ofN x < ofN (List.length s)) = true →
      within (ofN x) (List.length s) ∧
      (decide (List.getD s (Int.toNat (ofN x)) 0#8 < 33#8) = false → within (ofN x) (List.length s)) ∧
      ((decide (List.getD s (Int.toNat (ofN x)) 0#8 < 33#8) || decide (126#8 < List.getD s (Int.toNat (ofN x)) 0#8)) = true → false = isPath s) ∧
      ((decide (List.getD s (Int.toNat (ofN x)) 0#8 < 33#8) || decide (126#8 < List.getD s (Int.toNat (ofN x)) 0#8)) = false →
      inI64 (ofN x + 1) ∧ ∃ (x' : Nat), (x' ≤ List.length s ∧ List.all (List.take x' s) okChar = true) ∧ List.length s - x' < List.length s - x ∧ ofN x + 1 = ofN x')) ∧
      (decide (ofN x < ofN (List.length s)) = false → true = isPath s)) := by
  have hl63 : s.length ≤ 9223372036854775807 := hl
  refine ⟨fun h => ?_, fun h => ⟨⟨0, ⟨by omega, by simp⟩, rfl⟩, fun i ⟨h1, h2⟩ => ⟨fun hc => ?_, fun hc => ?_⟩⟩⟩
  · simp only [ofN, Bool.or_eq_true, decide_eq_true_eq] at h
    unfold isPath
    rcases h with h | h
    · rw [decide_eq_false (by omega : ¬ 1 ≤ s.length)]; rfl
    · rw [decide_eq_false (by omega : ¬ s.length ≤ 255)]; simp
  · simp only [ofN, decide_eq_true_eq, Int.ofNat_lt, Int.toNat_natCast, Bool.or_eq_true, Bool.or_eq_false_iff, decide_eq_false_iff_not] at hc h ⊢
    have hx := all_take (p := okChar) (d := 0#8) hc
    rw [h2, Bool.true_and] at hx
    generalize s.getD i 0#8 = c at hx ⊢
    refine ⟨by unfold within; omega, fun _ => by unfold within; omega, fun g => ?_, fun g => ⟨by unfold inI64; omega, i + 1, ⟨by omega, ?_⟩, by omega, by omega⟩⟩
    · have hf : okChar c = false := by
        unfold okChar
        rcases g with g | g
        · have g : c.toNat < 33 := g
          rw [decide_eq_false (by omega : ¬ 33 ≤ c.toNat)]; rfl
        · have g : 126 < c.toNat := g
          rw [decide_eq_false (by omega : ¬ c.toNat ≤ 126)]; simp
      rw [hf] at hx
      unfold isPath
      rw [all_of_take (i + 1) hx]; simp
    · have g1 : ¬ c.toNat < 33 := g.1
      have g2 : ¬ 126 < c.toNat := g.2
      rw [hx]
      unfold okChar
      rw [decide_eq_true (by omega : 33 ≤ c.toNat), decide_eq_true (by omega : c.toNat ≤ 126)]; rfl
  · simp only [ofN, decide_eq_false_iff_not, Int.ofNat_lt, Bool.or_eq_false_iff] at hc h
    have : i = s.length := by omega
    subst this
    rw [List.take_of_length_le (Nat.le_refl _)] at h2
    unfold isPath
    rw [h2, decide_eq_true (by omega : 1 ≤ s.length), decide_eq_true (by omega : s.length ≤ 255)]; rfl

theorem record_IsPath_spec : Vse.Spec P f_record_IsPath c_IsPath :=
  spec_fn (l := []) trivial h_record_IsPath rfl rfl fun x _ ok => body_ok (an_IsPath x.1) (record_IsPath_vc x.1 ok.1) (by kernel_rfl)

def an_rIsPath (s : Bytes) : Nat → SState → Option LoopAnn
  | 4, _ => some { X := Nat, slots := fun i => [(3, .sv (.dv (.i64 i)))], objs := fun _ => [], inv := fun i => i ≤ s.length ∧ (s.take i).all okChar = true, meas := fun i => s.length - i }
  | _, _ => none

theorem ref13_IsPath_vc (s : Bytes) (hl : s.length ≤ LIM) :
    ((decide (ofN (List.length s) < 1) || decide (255 < ofN (List.length s))) = true → false = isPath s) ∧
      ((decide (ofN (List.length s) < 1) || decide (255 < ofN (List.length s))) = false →
      (∃ (x : Nat), (x ≤ List.length s ∧ List.all (List.take x s) okChar = true) ∧ 0 = ofN x) ∧
      ∀ (x : Nat),
      x ≤ List.length s ∧ List.all (List.take x s) okChar = true →
      (decide (ofN x < ofN (List.length s)) = true →
      within (ofN x) (List.length s) ∧
      (decide (List.getD s (Int.toNat (ofN x)) 0#8 < 33#8) = false → within (ofN x) (List.length s)) ∧
      ((decide (List.getD s (Int.toNat (ofN x)) 0#8 < 33#8) || decide (126#8 < List.getD s (Int.toNat (ofN x)) 0#8)) = true → false = isPath s) ∧
      ((decide (List.getD s (Int.toNat (ofN x)) 0#8 < 33#8) || decide (126#8 < List.getD s (Int.toNat (ofN x)) 0#8)) = false →
      inI64 (ofN x + 1) ∧ ∃ (x' : Nat), (x' ≤ List.length s ∧ List.all (List.take x' s) okChar = true) ∧ List.length s - x' < List.length s - x ∧ ofN x + 1 = ofN x')) ∧
      (decide (ofN x < ofN (List.length s)) = false → true = isPath s)) := by
  have hl63 : s.length ≤ 9223372036854775807 := hl
  refine ⟨fun h => ?_, fun h => ⟨⟨0, ⟨by omega, by simp⟩, rfl⟩, fun i ⟨h1, h2⟩ => ⟨fun hc => ?_, fun hc => ?_⟩⟩⟩
  · simp only [ofN, Bool.or_eq_true, decide_eq_true_eq] at h
    unfold isPath
    rcases h with h | h
    · rw [decide_eq_false (by omega : ¬ 1 ≤ s.length)]; rfl
    · rw [decide_eq_false (by omega : ¬ s.length ≤ 255)]; simp
  · simp only [ofN, decide_eq_true_eq, Int.ofNat_lt, Int.toNat_natCast, Bool.or_eq_true, Bool.or_eq_false_iff, decide_eq_false_iff_not] at hc h ⊢
    have hx := all_take (p := okChar) (d := 0#8) hc
    rw [h2, Bool.true_and] at hx
    generalize s.getD i 0#8 = c at hx ⊢
    refine ⟨by unfold within; omega, fun _ => by unfold within; omega, fun g => ?_, fun g => ⟨by unfold inI64; omega, i + 1, ⟨by omega, ?_⟩, by omega, by omega⟩⟩
    · have hf : okChar c = false := by
        unfold okChar
        rcases g with g | g
        · have g : c.toNat < 33 := g
          rw [decide_eq_false (by omega : ¬ 33 ≤ c.toNat)]; rfl
        · have g : 126 < c.toNat := g
          rw [decide_eq_false (by omega : ¬ c.toNat ≤ 126)]; simp
      rw [hf] at hx
      unfold isPath
      rw [all_of_take (i + 1) hx]; simp
    · have g1 : ¬ c.toNat < 33 := g.1
      have g2 : ¬ 126 < c.toNat := g.2
      rw [hx]
      unfold okChar
      rw [decide_eq_true (by omega : 33 ≤ c.toNat), decide_eq_true (by omega : c.toNat ≤ 126)]; rfl
  · simp only [ofN, decide_eq_false_iff_not, Int.ofNat_lt, Bool.or_eq_false_iff] at hc h
    have : i = s.length := by omega
    subst this
    rw [List.take_of_length_le (Nat.le_refl _)] at h2
    unfold isPath
    rw [h2, decide_eq_true (by omega : 1 ≤ s.length), decide_eq_true (by omega : s.length ≤ 255)]; rfl

theorem ref13_IsPath_spec : Vse.Spec P f_ref13_IsPath c_IsPath :=
  spec_fn (l := []) trivial h_ref13_IsPath rfl rfl fun x _ ok => body_ok (an_rIsPath x.1) (ref13_IsPath_vc x.1 ok.1) (by kernel_rfl)

def c_Size : PC := D [.slc T_Pie] [.i64, .i64] (fun _ => none) (fun x => ((sizeV x.1).1, (sizeV x.1).2, ()))

def an_Size (l : List Pie) : Nat → SState → Option LoopAnn
  | 5, _ => some { X := Nat, slots := fun i => [(4, .sv (.dv (.i64 (sumP (l.take i))))), (12, .sv (.dv (.i64 i)))], objs := fun _ => [], inv := fun i => i ≤ l.length ∧ (l.take i).all okPie = true ∧ sumP (l.take i) ≤ 1048576, meas := fun i => l.length - i }
  | _, _ => none

theorem record_Size_vc (l : List Pie) :
    (decide (4096 < ofN (List.length l)) = true → 0 = (sizeV l).1 ∧ 130 = (sizeV l).2) ∧
      (decide (4096 < ofN (List.length l)) = false →
      (∃ (x : Nat), (x ≤ List.length l ∧ List.all (List.take x l) okPie = true ∧ sumP (List.take x l) ≤ 1048576) ∧ 0 = sumP (List.take x l) ∧ 0 = ofN x) ∧
      ∀ (x : Nat),
      x ≤ List.length l ∧ List.all (List.take x l) okPie = true ∧ sumP (List.take x l) ≤ 1048576 →
      (decide (ofN x < ofN (List.length l)) = true →
      within (ofN x) (List.length l) ∧
      ((decide ((List.getD l (Int.toNat (ofN x)) (T.dflt (T.pair (T.arr 32 T.u8) T.i64))).2 < 1) ||
      decide (4096 < (List.getD l (Int.toNat (ofN x)) (T.dflt (T.pair (T.arr 32 T.u8) T.i64))).2)) =
      true →
      0 = (sizeV l).1 ∧ 130 = (sizeV l).2) ∧
      ((decide ((List.getD l (Int.toNat (ofN x)) (T.dflt (T.pair (T.arr 32 T.u8) T.i64))).2 < 1) ||
      decide (4096 < (List.getD l (Int.toNat (ofN x)) (T.dflt (T.pair (T.arr 32 T.u8) T.i64))).2)) =
      false →
      inI64 (sumP (List.take x l) + (List.getD l (Int.toNat (ofN x)) (T.dflt (T.pair (T.arr 32 T.u8) T.i64))).2) ∧
      (decide (1048576 < sumP (List.take x l) + (List.getD l (Int.toNat (ofN x)) (T.dflt (T.pair (T.arr 32 T.u8) T.i64))).2) = true → 0 = (sizeV l).1 ∧ 130 = (sizeV l).2) ∧
      (decide (1048576 < sumP (List.take x l) + (List.getD l (Int.toNat (ofN x)) (T.dflt (T.pair (T.arr 32 T.u8) T.i64))).2) = false →
      inI64 (ofN x + 1) ∧
      ∃ (x' : Nat),
      (x' ≤ List.length l ∧ List.all (List.take x' l) okPie = true ∧ sumP (List.take x' l) ≤ 1048576) ∧
      List.length l - x' < List.length l - x ∧
      sumP (List.take x l) + (List.getD l (Int.toNat (ofN x)) (T.dflt (T.pair (T.arr 32 T.u8) T.i64))).2 = sumP (List.take x' l) ∧ ofN x + 1 = ofN x'))) ∧
      (decide (ofN x < ofN (List.length l)) = false → sumP (List.take x l) = (sizeV l).1 ∧ 0 = (sizeV l).2)) := by
  refine ⟨fun h => ?_, fun h => ⟨⟨0, ⟨by omega, by simp, by simp [sumP]⟩, rfl, rfl⟩, fun i ⟨h1, h2, h3⟩ => ⟨fun hc => ?_, fun hc => ?_⟩⟩⟩
  · simp only [ofN, decide_eq_true_eq] at h
    rw [sizeV_bad (by omega)]; exact ⟨rfl, rfl⟩
  · simp only [ofN, decide_eq_true_eq, decide_eq_false_iff_not, Int.ofNat_lt, Int.toNat_natCast, Bool.or_eq_true, Bool.or_eq_false_iff] at hc h ⊢
    have hx := all_take (p := okPie) (d := T.dflt (T.pair (T.arr 32 T.u8) T.i64)) hc
    have hs : sumP (l.take (i + 1)) = sumP (l.take i) + (l.getD i (T.dflt (T.pair (T.arr 32 T.u8) T.i64))).2 := by
      rw [take_snoc' (d := T.dflt (T.pair (T.arr 32 T.u8) T.i64)) hc, sumP_append]; simp only [sumP]; omega
    have h0 := sumP_nonneg h2
    rw [h2, Bool.true_and] at hx
    generalize l.getD i (T.dflt (T.pair (T.arr 32 T.u8) T.i64)) = p at hx hs ⊢
    have hp : ∀ q : Int, q = p.2 → True := fun _ _ => trivial
    have hok : okPie p = (decide ((1 : Int) ≤ p.2) && decide ((4096 : Int) ≥ p.2)) := rfl
    refine ⟨by unfold within; omega, fun g => ?_, fun g => ⟨?_, fun g2 => ?_, fun g2 => ⟨by unfold inI64; omega, i + 1, ⟨by omega, ?_, ?_⟩, by omega, hs.symm, by omega⟩⟩⟩
    · have hf : okPie p = false := by
        rw [hok]
        rcases g with g | g
        · have g : (1 : Int) > p.2 := g
          rw [decide_eq_false (by omega)]; rfl
        · have g : (4096 : Int) < p.2 := g
          rw [decide_eq_false (by omega : ¬ (4096 : Int) ≥ p.2)]; simp
      rw [hf] at hx
      rw [sizeV_all (all_of_take (i + 1) hx)]; exact ⟨rfl, rfl⟩
    · have g1 : ¬ (1 : Int) > p.2 := g.1
      have g2 : ¬ (4096 : Int) < p.2 := g.2
      unfold inI64; omega
    · rw [sizeV_sum (i := i + 1) ?_]
      · exact ⟨rfl, rfl⟩
      · rw [hs]; exact g2
    · have g1 : ¬ (1 : Int) > p.2 := g.1
      have g2 : ¬ (4096 : Int) < p.2 := g.2
      rw [hx, hok, decide_eq_true (by omega), decide_eq_true (by omega : (4096 : Int) ≥ p.2)]; rfl
    · rw [hs]; have g2 : ¬ (1048576 : Int) < sumP (l.take i) + p.2 := g2; omega
  · simp only [ofN, decide_eq_false_iff_not, Int.ofNat_lt] at hc h
    have : i = l.length := by omega
    subst this
    rw [List.take_of_length_le (Nat.le_refl _)] at h2 h3 ⊢
    rw [sizeV, if_pos ⟨by omega, h2, h3⟩]; exact ⟨rfl, rfl⟩

theorem record_Size_spec : Vse.Spec P f_record_Size c_Size :=
  spec_fn (l := []) trivial h_record_Size rfl rfl fun x _ _ => body_ok (an_Size x.1) (record_Size_vc x.1) (by kernel_rfl)

def an_rSize (l : List Pie) : Nat → SState → Option LoopAnn
  | 5, _ => some { X := Nat, slots := fun i => [(4, .sv (.dv (.i64 (sumP (l.take i))))), (5, .sv (.dv (.i64 i)))], objs := fun _ => [], inv := fun i => i ≤ l.length ∧ (l.take i).all okPie = true, meas := fun i => l.length - i }
  | _, _ => none

theorem ref13_Size_vc (l : List Pie) :
    (decide (4096 < ofN (List.length l)) = true → 0 = (sizeV l).1 ∧ 130 = (sizeV l).2) ∧
      (decide (4096 < ofN (List.length l)) = false →
      (∃ (x : Nat), (x ≤ List.length l ∧ List.all (List.take x l) okPie = true) ∧ 0 = sumP (List.take x l) ∧ 0 = ofN x) ∧
      ∀ (x : Nat),
      x ≤ List.length l ∧ List.all (List.take x l) okPie = true →
      (decide (ofN x < ofN (List.length l)) = true →
      within (ofN x) (List.length l) ∧
      (decide ((List.getD l (Int.toNat (ofN x)) (T.dflt (T.pair (T.arr 32 T.u8) T.i64))).2 < 1) = false → within (ofN x) (List.length l)) ∧
      ((decide ((List.getD l (Int.toNat (ofN x)) (T.dflt (T.pair (T.arr 32 T.u8) T.i64))).2 < 1) ||
      decide (4096 < (List.getD l (Int.toNat (ofN x)) (T.dflt (T.pair (T.arr 32 T.u8) T.i64))).2)) =
      true →
      0 = (sizeV l).1 ∧ 130 = (sizeV l).2) ∧
      ((decide ((List.getD l (Int.toNat (ofN x)) (T.dflt (T.pair (T.arr 32 T.u8) T.i64))).2 < 1) ||
      decide (4096 < (List.getD l (Int.toNat (ofN x)) (T.dflt (T.pair (T.arr 32 T.u8) T.i64))).2)) =
      false →
      within (ofN x) (List.length l) ∧
      inI64 (sumP (List.take x l) + (List.getD l (Int.toNat (ofN x)) (T.dflt (T.pair (T.arr 32 T.u8) T.i64))).2) ∧
      inI64 (ofN x + 1) ∧
      ∃ (x' : Nat),
      (x' ≤ List.length l ∧ List.all (List.take x' l) okPie = true) ∧
      List.length l - x' < List.length l - x ∧
      sumP (List.take x l) + (List.getD l (Int.toNat (ofN x)) (T.dflt (T.pair (T.arr 32 T.u8) T.i64))).2 = sumP (List.take x' l) ∧ ofN x + 1 = ofN x')) ∧
      (decide (ofN x < ofN (List.length l)) = false →
      (decide (1048576 < sumP (List.take x l)) = true → 0 = (sizeV l).1 ∧ 130 = (sizeV l).2) ∧
      (decide (1048576 < sumP (List.take x l)) = false → sumP (List.take x l) = (sizeV l).1 ∧ 0 = (sizeV l).2))) := by
  refine ⟨fun h => ?_, fun h => ⟨⟨0, ⟨by omega, by simp⟩, rfl, rfl⟩, fun i ⟨h1, h2⟩ => ⟨fun hc => ?_, fun hc => ?_⟩⟩⟩
  · simp only [ofN, decide_eq_true_eq] at h
    rw [sizeV_bad (by omega)]; exact ⟨rfl, rfl⟩
  · simp only [ofN, decide_eq_true_eq, decide_eq_false_iff_not, Int.ofNat_lt, Int.toNat_natCast, Bool.or_eq_true, Bool.or_eq_false_iff] at hc h ⊢
    have hx := all_take (p := okPie) (d := T.dflt (T.pair (T.arr 32 T.u8) T.i64)) hc
    have hs : sumP (l.take (i + 1)) = sumP (l.take i) + (l.getD i (T.dflt (T.pair (T.arr 32 T.u8) T.i64))).2 := by
      rw [take_snoc' (d := T.dflt (T.pair (T.arr 32 T.u8) T.i64)) hc, sumP_append]; simp only [sumP]; omega
    have h0 := sumP_nonneg h2
    have h00 := sumP_le h2
    have hlt : (l.take i).length = i := by simp; omega
    rw [hlt] at h00
    rw [h2, Bool.true_and] at hx
    generalize l.getD i (T.dflt (T.pair (T.arr 32 T.u8) T.i64)) = p at hx hs ⊢
    have hok : okPie p = (decide ((1 : Int) ≤ p.2) && decide ((4096 : Int) ≥ p.2)) := rfl
    refine ⟨by unfold within; omega, fun _ => by unfold within; omega, fun g => ?_, fun g => ⟨by unfold within; omega, ?_, by unfold inI64; omega, i + 1, ⟨by omega, ?_⟩, by omega, hs.symm, by omega⟩⟩
    · have hf : okPie p = false := by
        rw [hok]
        rcases g with g | g
        · have g : (1 : Int) > p.2 := g
          rw [decide_eq_false (by omega)]; rfl
        · have g : (4096 : Int) < p.2 := g
          rw [decide_eq_false (by omega : ¬ (4096 : Int) ≥ p.2)]; simp
      rw [hf] at hx
      rw [sizeV_all (all_of_take (i + 1) hx)]; exact ⟨rfl, rfl⟩
    · have g1 : ¬ (1 : Int) > p.2 := g.1
      have g2 : ¬ (4096 : Int) < p.2 := g.2
      unfold inI64; omega
    · have g1 : ¬ (1 : Int) > p.2 := g.1
      have g2 : ¬ (4096 : Int) < p.2 := g.2
      rw [hx, hok, decide_eq_true (by omega), decide_eq_true (by omega : (4096 : Int) ≥ p.2)]; rfl
  · simp only [ofN, decide_eq_false_iff_not, decide_eq_true_eq, Int.ofNat_lt] at hc h ⊢
    have : i = l.length := by omega
    subst this
    rw [List.take_of_length_le (Nat.le_refl _)] at h2 ⊢
    refine ⟨fun g => ?_, fun g => ?_⟩
    · rw [sizeV, if_neg (fun hh => by omega)]; exact ⟨rfl, rfl⟩
    · rw [sizeV, if_pos ⟨by omega, h2, by omega⟩]; exact ⟨rfl, rfl⟩

theorem ref13_Size_spec : Vse.Spec P f_ref13_Size c_Size :=
  spec_fn (l := []) trivial h_ref13_Size rfl rfl fun x _ _ => body_ok (an_rSize x.1) (ref13_Size_vc x.1) (by kernel_rfl)

def c_fits : PC := D [T_Rec] [.bool] (fun _ => none) (fun x => (fitsV x.1, ()))

theorem record_fits_vc (r : Rec) :
    ((r.2.2.2.1 == 1) = true → ((r.2.2.2.2.1 == 0 || r.2.2.2.2.1 == 1) && r.2.2.2.2.2.1 == List.map UInt8.toBitVec (nilOf UInt8) && ofN (List.length r.2.2.2.2.2.2) == 0) = fitsV r) ∧
      ((r.2.2.2.1 == 1) = false →
      ((r.2.2.2.1 == 3) = true →
      (decide (0 < ofN (List.length r.2.2.2.2.2.2)) = true → false = fitsV r) ∧
      (decide (0 < ofN (List.length r.2.2.2.2.2.2)) = false → (r.2.2.2.2.1 == 0 && isPath r.2.2.2.2.2.1 && (sizeV r.2.2.2.2.2.2).2 == 0) = fitsV r)) ∧
      ((r.2.2.2.1 == 3) = false → ((r.2.2.2.1 == 2) = true → (r.2.2.2.2.1 == 0 && isPath r.2.2.2.2.2.1 && (sizeV r.2.2.2.2.2.2).2 == 0) = fitsV r) ∧ ((r.2.2.2.1 == 2) = false → false = fitsV r))) := by
  have enil : List.map UInt8.toBitVec (nilOf UInt8) = ([] : Bytes) := rfl
  rw [enil]
  unfold fitsV
  simp only [beq_iff_eq, beq_eq_false_iff_ne, ne_eq, ofN, decide_eq_true_eq, decide_eq_false_iff_not]
  refine ⟨fun h1 => by rw [if_pos h1], fun h1 => ⟨fun h3 => ⟨fun hp => ?_, fun hp => ?_⟩, fun h3 => ⟨fun h2 => by rw [if_neg h1, if_neg h3, if_pos h2], fun h2 => by rw [if_neg h1, if_neg h3, if_neg h2]⟩⟩⟩
  · rw [if_neg h1, if_pos h3]
    have : (((r.2.2.2.2.2.2.length : Nat) : Int) == 0) = false := by simp; intro e; rw [e] at hp; simp at hp
    rw [this]; rfl
  · rw [if_neg h1, if_pos h3]
    have hl : r.2.2.2.2.2.2.length = 0 := by omega
    have e := List.eq_nil_of_length_eq_zero hl
    rw [e, sizeV_nil]; simp

theorem record_fits_spec : Vse.Spec P f_record_fits c_fits :=
  spec_fn (l := [(f_record_Size, c_Size), (f_record_IsPath, c_IsPath)]) ⟨record_Size_spec, record_IsPath_spec, trivial⟩ h_record_fits rfl rfl fun x _ _ => body_ok (an_none) (record_fits_vc x.1) (by kernel_rfl)

def c_Check : PC := D [T_Rec] [.i64] (fun _ => none) (fun x => (checkV x.1, ()))

theorem record_Check_vc (r : Rec) :
    ((decide (min r.1 r.2.1 < 1) || decide (1073741824 < r.1) || decide (1073741824 < r.2.1) || !fitsV (r.1, r.2.1, r.2.2.1, r.2.2.2.1, r.2.2.2.2.1, r.2.2.2.2.2.1, r.2.2.2.2.2.2)) = true →
      130 = checkV r) ∧
      ((decide (min r.1 r.2.1 < 1) || decide (1073741824 < r.1) || decide (1073741824 < r.2.1) || !fitsV (r.1, r.2.1, r.2.2.1, r.2.2.2.1, r.2.2.2.2.1, r.2.2.2.2.2.1, r.2.2.2.2.2.2)) = false →
      0 = checkV r) := by
  have er : (r.1, r.2.1, r.2.2.1, r.2.2.2.1, r.2.2.2.2.1, r.2.2.2.2.2.1, r.2.2.2.2.2.2) = r := rfl
  rw [er]
  obtain ⟨seq, epoch, rest⟩ := r
  have key : (decide (min seq epoch < (1 : Int)) || decide ((1073741824 : Int) < seq) || decide ((1073741824 : Int) < epoch) || !fitsV (seq, epoch, rest)) = !decide ((1 : Int) ≤ seq ∧ (1073741824 : Int) ≥ seq ∧ (1 : Int) ≤ epoch ∧ (1073741824 : Int) ≥ epoch ∧ fitsV (seq, epoch, rest) = true) := by
    cases fitsV (seq, epoch, rest) with
    | false => simp
    | true =>
      rw [Bool.eq_iff_iff]
      simp only [Bool.or_eq_true, decide_eq_true_eq, Bool.not_true, Bool.false_eq_true, or_false, Bool.not_eq_true', decide_eq_false_iff_not, and_true, Int.min_def]
      have a1 : ∀ a b : Int, ((if a ≤ b then a else b) < 1 ∨ 1073741824 < a) ∨ 1073741824 < b ↔ ¬ (1 ≤ a ∧ 1073741824 ≥ a ∧ 1 ≤ b ∧ 1073741824 ≥ b) := by
        intro a b; split <;> omega
      exact a1 seq epoch
  simp only
  rw [show (decide (min seq epoch < 1) || decide (1073741824 < seq) || decide (1073741824 < epoch) || !fitsV (seq, epoch, rest)) = _ from key]
  unfold checkV
  refine ⟨fun h => ?_, fun h => ?_⟩
  · simp only [Bool.not_eq_true', decide_eq_false_iff_not] at h
    rw [if_neg h]
  · simp only [Bool.not_eq_false', decide_eq_true_eq] at h
    rw [if_pos h]

theorem record_Check_spec : Vse.Spec P f_record_Check c_Check :=
  spec_fn (l := [(f_record_fits, c_fits)]) ⟨record_fits_spec, trivial⟩ h_record_Check rfl rfl fun x _ _ => body_ok (an_none) (record_Check_vc x.1) (by kernel_rfl)

theorem ref13_Check_vc (r : Rec) :
    ((decide (r.1 < 1) || decide (1073741824 < r.1) || decide (r.2.1 < 1) || decide (1073741824 < r.2.1)) = true → 130 = checkV r) ∧
      ((decide (r.1 < 1) || decide (1073741824 < r.1) || decide (r.2.1 < 1) || decide (1073741824 < r.2.1)) = false →
      ((r.2.2.2.1 == 1) = true →
      ((!((r.2.2.2.2.1 == 0 || r.2.2.2.2.1 == 1) && r.2.2.2.2.2.1 == List.map UInt8.toBitVec (nilOf UInt8) && ofN (List.length r.2.2.2.2.2.2) == 0)) = true → 130 = checkV r) ∧
      ((!((r.2.2.2.2.1 == 0 || r.2.2.2.2.1 == 1) && r.2.2.2.2.2.1 == List.map UInt8.toBitVec (nilOf UInt8) && ofN (List.length r.2.2.2.2.2.2) == 0)) = false → 0 = checkV r)) ∧
      ((r.2.2.2.1 == 1) = false →
      ((r.2.2.2.1 == 2) = true →
      ((!(r.2.2.2.2.1 == 0 && isPath r.2.2.2.2.2.1 && (sizeV r.2.2.2.2.2.2).2 == 0)) = true → 130 = checkV r) ∧
      ((!(r.2.2.2.2.1 == 0 && isPath r.2.2.2.2.2.1 && (sizeV r.2.2.2.2.2.2).2 == 0)) = false → 0 = checkV r)) ∧
      ((r.2.2.2.1 == 2) = false →
      ((r.2.2.2.1 == 3) = true →
      ((!(r.2.2.2.2.1 == 0 && isPath r.2.2.2.2.2.1 && ofN (List.length r.2.2.2.2.2.2) == 0)) = true → 130 = checkV r) ∧
      ((!(r.2.2.2.2.1 == 0 && isPath r.2.2.2.2.2.1 && ofN (List.length r.2.2.2.2.2.2) == 0)) = false → 0 = checkV r)) ∧
      ((r.2.2.2.1 == 3) = false → (true = true → 130 = checkV r) ∧ (true = false → 0 = checkV r))))) := by
  have enil : List.map UInt8.toBitVec (nilOf UInt8) = ([] : Bytes) := rfl
  rw [enil]
  have hgood : ∀ (_ : (decide ((1 : Int) > r.1) || decide ((1073741824 : Int) < r.1) || decide ((1 : Int) > r.2.1) || decide ((1073741824 : Int) < r.2.1)) = false) (b : Bool), fitsV r = b → ((!b) = true → 130 = checkV r) ∧ ((!b) = false → 0 = checkV r) := by
    intro h b hb
    simp only [Bool.or_eq_false_iff, decide_eq_false_iff_not] at h
    obtain ⟨⟨⟨h1, h2⟩, h3⟩, h4⟩ := h
    have g1 : (1 : Int) ≤ r.1 := by omega
    have g2 : (1073741824 : Int) ≥ r.1 := by omega
    have g3 : (1 : Int) ≤ r.2.1 := by omega
    have g4 : (1073741824 : Int) ≥ r.2.1 := by omega
    unfold checkV
    refine ⟨fun e => ?_, fun e => ?_⟩
    · rw [if_neg]
      rintro ⟨_, _, _, _, e5⟩
      rw [hb] at e5; rw [e5] at e; cases e
    · rw [if_pos ⟨g1, g2, g3, g4, by rw [hb]; simpa using e⟩]
  refine ⟨fun h => ?_, fun h => ?_⟩
  · unfold checkV
    rw [if_neg]
    rintro ⟨e1, e2, e3, e4, _⟩
    have h' : (decide ((1 : Int) > r.1) || decide ((1073741824 : Int) < r.1) || decide ((1 : Int) > r.2.1) || decide ((1073741824 : Int) < r.2.1)) = true := h
    simp only [Bool.or_eq_true, decide_eq_true_eq] at h'
    have g1 : (1 : Int) ≤ r.1 := e1
    have g2 : (1073741824 : Int) ≥ r.1 := e2
    have g3 : (1 : Int) ≤ r.2.1 := e3
    have g4 : (1073741824 : Int) ≥ r.2.1 := e4
    omega
  · have hg := hgood h
    simp only [ofN]
    refine ⟨fun h1 => hg _ ?_, fun h1 => ⟨fun h2 => hg _ ?_, fun h2 => ⟨fun h3 => hg _ ?_, fun h3 => ?_⟩⟩⟩
    · have e1 : r.2.2.2.1 = (1 : Int) := by simpa using h1
      unfold fitsV; rw [if_pos e1]
    · have e1 : ¬ r.2.2.2.1 = (1 : Int) := by simpa using h1
      have e2 : r.2.2.2.1 = (2 : Int) := by simpa using h2
      have e3 : ¬ r.2.2.2.1 = (3 : Int) := by rw [e2]; decide
      unfold fitsV; rw [if_neg e1, if_neg e3, if_pos e2]
    · have e1 : ¬ r.2.2.2.1 = (1 : Int) := by simpa using h1
      have e3 : r.2.2.2.1 = (3 : Int) := by simpa using h3
      unfold fitsV; rw [if_neg e1, if_pos e3]
      rw [Bool.and_comm]
    · have e1 : ¬ r.2.2.2.1 = (1 : Int) := by simpa using h1
      have e2 : ¬ r.2.2.2.1 = (2 : Int) := by simpa using h2
      have e3 : ¬ r.2.2.2.1 = (3 : Int) := by simpa using h3
      have := hg false (by unfold fitsV; rw [if_neg e1, if_neg e3, if_neg e2])
      exact ⟨fun _ => this.1 rfl, fun h => by cases h⟩

theorem ref13_Check_spec : Vse.Spec P f_ref13_Check c_Check :=
  spec_fn (l := [(f_ref13_Size, c_Size), (f_ref13_IsPath, c_IsPath)]) ⟨ref13_Size_spec, ref13_IsPath_spec, trivial⟩ h_ref13_Check rfl rfl fun x _ _ => body_ok (an_none) (ref13_Check_vc x.1) (by kernel_rfl)

def c_Bytes : PC := D [T_Rec] [.slc .u8, .i64] (fun _ => none) (fun x => ((bytesV x.1).1, (bytesV x.1).2, ()))

def an_Bytes (r : Rec) : Nat → SState → Option LoopAnn
  | 14, S => some { X := Nat, slots := fun i => [(5, .sv (.own 10 .u8 (pre r ++ ((r.2.2.2.2.2.2.take i).map pieBytes).flatten))), (65, .sv (.dv (.i64 i)))], objs := fun _ => [(x_tok S 5, .gone), (10, .tok t_uint8 1)], inv := fun i => i ≤ r.2.2.2.2.2.2.length, meas := fun i => r.2.2.2.2.2.2.length - i }
  | _, _ => none

def an_rBytes13 (r : Rec) : Nat → SState → Option LoopAnn
  | 15, S => some { X := Nat, slots := fun i => [(5, .sv (.own 10 .u8 (pre r ++ ((r.2.2.2.2.2.2.take i).map pieBytes).flatten))), (6, .sv (.dv (.i64 i)))], objs := fun _ => [(x_tok S 5, .gone), (10, .tok t_uint8 1)], inv := fun i => i ≤ r.2.2.2.2.2.2.length, meas := fun i => r.2.2.2.2.2.2.length - i }
  | _, _ => none

def c_Chain : PC := D [T_Rec] [T_Dig, .i64] (fun _ => none) (fun x => ((chainV x.1).1, (chainV x.1).2, ()))

def c_follows : PC := D [T_Head, T_Rec] [.bool] (fun x => some (leP 1 x.2.1.1)) (fun x => (followsV x.1 x.2.1, ()))

def c_Next : PC := D [T_Head, T_Rec] [T_Head, .i64] (fun _ => none) (fun x => ((nextV x.1 x.2.1).1, (nextV x.1 x.2.1).2, ()))

def c_Walk : PC := D [T_Head, .slc T_Rec] [T_Head, .i64, .i64] (fun _ => none) (fun x => ((walkV x.1 x.2.1 0).1, (walkV x.1 x.2.1 0).2.1, (walkV x.1 x.2.1 0).2.2, ()))

def an_Walk (h : HeadT) (l : List Rec) : Nat → SState → Option LoopAnn
  | 2, S => some { X := Nat × HeadT, slots := fun y => [(13, .sv (.dv (.i64 y.1)))], objs := fun y => [(x_labAt S 2, .cells (ofRuns (enc T_Head y.2)) false)], inv := fun y => y.1 ≤ l.length ∧ walkV y.2 (l.drop y.1) y.1 = walkV h l 0, meas := fun y => l.length - y.1 }
  | _, _ => none

def an_rWalk (h : HeadT) (l : List Rec) : Nat → SState → Option LoopAnn
  | 2, S => some { X := Nat × HeadT, slots := fun y => [(7, .sv (.dv (.i64 y.1)))], objs := fun y => [(x_labAt S 2, .cells (ofRuns (enc T_Head y.2)) false)], inv := fun y => y.1 ≤ l.length ∧ walkV y.2 (l.drop y.1) y.1 = walkV h l 0, meas := fun y => l.length - y.1 }
  | _, _ => none

end Go.Sal
