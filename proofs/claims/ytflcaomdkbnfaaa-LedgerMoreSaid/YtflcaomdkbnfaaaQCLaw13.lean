/- Contracts of the laws of chapter 13, but for Parse. -/
import Derived.Test.YtflcaomdkbnfaaaQCRec
set_option maxRecDepth 100000
namespace Go.Sal
open Go.Vse Go.Sal.Nm

def c_clonePie : PC := O [.slc T_Pie] T_Pie t_api_Piece 33 [] (fun x => some (x.1.length ≤ ROOM)) (fun x => (x.1, ()))

def c_eqPie : PC := D [.slc T_Pie, .slc T_Pie] [.bool] (fun _ => none) (fun x => (decide (x.1 = x.2.1), ()))

def an_eqPie (a b : List Pie) : Nat → SState → Option LoopAnn
  | 4, _ => some { X := Nat, slots := fun i => [(13, .sv (.dv (.i64 i)))], objs := fun _ => [], inv := fun i => i ≤ a.length ∧ a.take i = b.take i, meas := fun i => a.length - i }
  | _, _ => none

def c_Make : PC := D [T_Head, T_Rec] [T_Rec, .i64] (fun x => some (x.2.1.2.2.2.2.2.2.length ≤ ROOM)) (fun x => ((makeV x.1 x.2.1).1, (makeV x.1 x.2.1).2, ()))

theorem makeV_range {h : HeadT} {r : Rec} (g : ¬ ((0 : Int) ≤ h.1 ∧ (1073741824 : Int) > h.1)) : makeV h r = (rec0, 130) := by
  unfold makeV; exact if_neg g
theorem makeV_bad {h : HeadT} {r : Rec} (g : ¬ checkV (madeV h r) = 0) : makeV h r = (rec0, 130) := by
  unfold makeV
  rw [if_neg g]
  rcases check_err (madeV h r) with q | q
  · exact absurd q g
  · rw [q]; split <;> rfl
theorem makeV_not {h : HeadT} {r : Rec} (g1 : (0 : Int) ≤ h.1) (g2 : (1073741824 : Int) > h.1) (g3 : checkV (madeV h r) = 0) (g4 : followsV h (madeV h r) = false) : makeV h r = (rec0, 131) := by
  unfold makeV
  rw [if_pos ⟨g1, g2⟩, if_pos g3, if_neg (by rw [g4]; simp)]
theorem makeV_yes {h : HeadT} {r : Rec} (g1 : (0 : Int) ≤ h.1) (g2 : (1073741824 : Int) > h.1) (g3 : checkV (madeV h r) = 0) (g4 : followsV h (madeV h r) = true) : makeV h r = (madeV h r, 0) := by
  unfold makeV
  rw [if_pos ⟨g1, g2⟩, if_pos g3, if_pos g4]
theorem makeV_next {h : HeadT} {r : Rec} (g1 : (0 : Int) ≤ h.1) (g2 : (1073741824 : Int) > h.1) : makeV h r = (if (nextV h (madeV h r)).2 = 0 then madeV h r else rec0, (nextV h (madeV h r)).2) := by
  unfold makeV nextV
  rw [if_pos ⟨g1, g2⟩]
  rcases check_err (madeV h r) with q | q
  · rw [if_pos q, if_pos q]
    by_cases f : followsV h (madeV h r) = true
    · rw [if_pos f, if_pos f]; rfl
    · rw [if_neg f, if_neg f]; rfl
  · rw [q]; rfl
theorem madeV_other {h : HeadT} {r : Rec} (g : ¬ r.2.2.2.1 = (1 : Int)) : madeV h r = (h.1 + 1, h.2.1, h.2.2, r.2.2.2.1, r.2.2.2.2.1, r.2.2.2.2.2.1, r.2.2.2.2.2.2) := by
  unfold madeV; rw [if_neg g]
theorem madeV_epoch {h : HeadT} {r : Rec} (g : r.2.2.2.1 = (1 : Int)) : madeV h r = (h.1 + 1, r.2.1, h.2.2, r.2.2.2.1, r.2.2.2.2.1, r.2.2.2.2.2.1, r.2.2.2.2.2.2) := by
  unfold madeV; rw [if_pos g]

theorem ref13_Make_vc (h : HeadT) (r : Rec) :
    ((decide (1073741824 ≤ h.1) || decide (h.1 < 0)) = true →
      (ofN 0 = (makeV h r).1.1 ∧
      ofN 0 = (makeV h r).1.2.1 ∧
      List.replicate 32 0#8 = (makeV h r).1.2.2.1 ∧
      ofN 0 = (makeV h r).1.2.2.2.1 ∧ ofN 0 = (makeV h r).1.2.2.2.2.1 ∧ nilOf (BitVec 8) = (makeV h r).1.2.2.2.2.2.1 ∧ nilOf (T.den (T.pair (T.arr 32 T.u8) T.i64)) = (makeV h r).1.2.2.2.2.2.2) ∧
      130 = (makeV h r).2) ∧
      ((decide (1073741824 ≤ h.1) || decide (h.1 < 0)) = false →
      inI64 (h.1 + 1) ∧
      ((r.2.2.2.1 != 1) = true →
      (((nextV h (h.1 + 1, h.2.1, h.2.2, r.2.2.2)).2 != 0) = true →
      (ofN 0 = (makeV h r).1.1 ∧
      ofN 0 = (makeV h r).1.2.1 ∧
      List.replicate 32 0#8 = (makeV h r).1.2.2.1 ∧
      ofN 0 = (makeV h r).1.2.2.2.1 ∧
      ofN 0 = (makeV h r).1.2.2.2.2.1 ∧ nilOf (BitVec 8) = (makeV h r).1.2.2.2.2.2.1 ∧ nilOf (T.den (T.pair (T.arr 32 T.u8) T.i64)) = (makeV h r).1.2.2.2.2.2.2) ∧
      (nextV h (h.1 + 1, h.2.1, h.2.2, r.2.2.2)).2 = (makeV h r).2) ∧
      (((nextV h (h.1 + 1, h.2.1, h.2.2, r.2.2.2)).2 != 0) = false →
      (h.1 + 1 = (makeV h r).1.1 ∧
      h.2.1 = (makeV h r).1.2.1 ∧
      h.2.2 = (makeV h r).1.2.2.1 ∧
      r.2.2.2.1 = (makeV h r).1.2.2.2.1 ∧ r.2.2.2.2.1 = (makeV h r).1.2.2.2.2.1 ∧ r.2.2.2.2.2.1 = (makeV h r).1.2.2.2.2.2.1 ∧ r.2.2.2.2.2.2 = (makeV h r).1.2.2.2.2.2.2) ∧
      0 = (makeV h r).2)) ∧
      ((r.2.2.2.1 != 1) = false →
      (((nextV h (h.1 + 1, r.2.1, h.2.2, r.2.2.2)).2 != 0) = true →
      (ofN 0 = (makeV h r).1.1 ∧
      ofN 0 = (makeV h r).1.2.1 ∧
      List.replicate 32 0#8 = (makeV h r).1.2.2.1 ∧
      ofN 0 = (makeV h r).1.2.2.2.1 ∧
      ofN 0 = (makeV h r).1.2.2.2.2.1 ∧ nilOf (BitVec 8) = (makeV h r).1.2.2.2.2.2.1 ∧ nilOf (T.den (T.pair (T.arr 32 T.u8) T.i64)) = (makeV h r).1.2.2.2.2.2.2) ∧
      (nextV h (h.1 + 1, r.2.1, h.2.2, r.2.2.2)).2 = (makeV h r).2) ∧
      (((nextV h (h.1 + 1, r.2.1, h.2.2, r.2.2.2)).2 != 0) = false →
      (h.1 + 1 = (makeV h r).1.1 ∧
      r.2.1 = (makeV h r).1.2.1 ∧
      h.2.2 = (makeV h r).1.2.2.1 ∧
      r.2.2.2.1 = (makeV h r).1.2.2.2.1 ∧ r.2.2.2.2.1 = (makeV h r).1.2.2.2.2.1 ∧ r.2.2.2.2.2.1 = (makeV h r).1.2.2.2.2.2.1 ∧ r.2.2.2.2.2.2 = (makeV h r).1.2.2.2.2.2.2) ∧
      0 = (makeV h r).2))) := by
  refine ⟨fun g => ?_, fun g => ?_⟩
  · simp only [Bool.or_eq_true, decide_eq_true_eq] at g
    have g : (1073741824 : Int) ≤ h.1 ∨ (0 : Int) > h.1 := g
    rw [makeV_range (by omega)]
    exact ⟨⟨rfl, rfl, rfl, rfl, rfl, rfl, rfl⟩, rfl⟩
  simp only [Bool.or_eq_false_iff, decide_eq_false_iff_not] at g
  have ga : ¬ (1073741824 : Int) ≤ h.1 := g.1
  have gb : ¬ (0 : Int) > h.1 := g.2
  refine ⟨by unfold inI64; omega, fun g1 => ?_, fun g1 => ?_⟩
  · have em := madeV_other (h := h) (r := r) (by simpa using g1)
    refine ⟨fun g2 => ?_, fun g2 => ?_⟩
    · have g2 : ¬ (nextV h (madeV h r)).2 = 0 := by rw [em]; simpa using g2
      rw [makeV_next (by omega) (by omega), if_neg g2]
      exact ⟨⟨rfl, rfl, rfl, rfl, rfl, rfl, rfl⟩, by rw [em]⟩
    · have g2 : (nextV h (madeV h r)).2 = 0 := by rw [em]; simpa using g2
      rw [makeV_next (by omega) (by omega), if_pos g2, g2, em]
      exact ⟨⟨rfl, rfl, rfl, rfl, rfl, rfl, rfl⟩, rfl⟩
  · have em := madeV_epoch (h := h) (r := r) (by simpa using g1)
    refine ⟨fun g2 => ?_, fun g2 => ?_⟩
    · have g2 : ¬ (nextV h (madeV h r)).2 = 0 := by rw [em]; simpa using g2
      rw [makeV_next (by omega) (by omega), if_neg g2]
      exact ⟨⟨rfl, rfl, rfl, rfl, rfl, rfl, rfl⟩, by rw [em]⟩
    · have g2 : (nextV h (madeV h r)).2 = 0 := by rw [em]; simpa using g2
      rw [makeV_next (by omega) (by omega), if_pos g2, g2, em]
      exact ⟨⟨rfl, rfl, rfl, rfl, rfl, rfl, rfl⟩, rfl⟩

def c_Same : PC := D [T_Rec, T_Rec] [.bool] (fun _ => none) (fun x => (sameV x.1 x.2.1, ()))

theorem sameV_self (a : Rec) : sameV a a = true := by
  unfold sameV; simp
theorem sameV_iff (a b : Rec) : sameV a b = true ↔ a = b := by
  obtain ⟨a1, a2, a3, a4, a5, a6, a7⟩ := a
  obtain ⟨b1, b2, b3, b4, b5, b6, b7⟩ := b
  unfold sameV
  simp only [Bool.and_eq_true, decide_eq_true_eq, beq_iff_eq, Prod.mk.injEq, and_assoc]

def an_rSame (a b : Rec) : Nat → SState → Option LoopAnn
  | 4, _ => some { X := Nat, slots := fun i => [(5, .sv (.dv (.i64 i)))], objs := fun _ => [], inv := fun i => i ≤ a.2.2.2.2.2.2.length ∧ a.2.2.2.2.2.2.take i = b.2.2.2.2.2.2.take i, meas := fun i => a.2.2.2.2.2.2.length - i }
  | _, _ => none

def c_SameAll : PC := D [.slc T_Rec, .slc T_Rec] [.bool] (fun _ => none) (fun x => (sameAllV x.1 x.2.1, ()))

def an_SameAll (a b : List Rec) : Nat → SState → Option LoopAnn
  | 4, _ => some { X := Nat, slots := fun i => [(5, .sv (.dv (.i64 i)))], objs := fun _ => [], inv := fun i => i ≤ a.length ∧ ∀ j, j < i → sameV (a.getD j T_Rec.dflt) (b.getD j T_Rec.dflt) = true, meas := fun i => a.length - i }
  | _, _ => none

def c_cut : PC := D [T_Rec] [T_Rec] (fun _ => none) (fun x => (cutV x.1, ()))

def c_few : PC := D [.slc T_Rec] [.slc T_Rec] (fun _ => none) (fun x => (fewV x.1, ()))

def an_few (l : List Rec) : Nat → SState → Option LoopAnn
  | 3, S => some { X := Nat, slots := fun i => [(3, .sv (.own 10 T_Rec ((l.take i).map cutV))), (4, .sv (.dv (.i64 i)))], objs := fun _ => [(x_tok S 3, .gone), (10, .tok t_api_Record 38)], inv := fun i => i ≤ l.length ∧ i ≤ 20, meas := fun i => 20 - i }
  | _, _ => none

def c_true : PC := D [] [.bool] (fun _ => none) (fun _ => (true, ()))

def ep (h : HeadT) (l : List Rec) (i : Nat) : Int := if i = 0 then h.2.1 else (l.getD (i - 1) T_Rec.dflt).2.1

def an_Epochs (h : HeadT) (l : List Rec) : Nat → SState → Option LoopAnn
  | 7, _ => some { X := Nat, slots := fun i => [(8, .sv (.dv (.i64 (ep h l i)))), (9, .sv (.dv (.i64 i)))], objs := fun _ => [], inv := fun i => (i : Int) ≤ (walkV h l 0).2.1, meas := fun i => (walkV h l 0).2.1.toNat - i }
  | _, _ => none

theorem next_ok {h : HeadT} {r : Rec} (g : (nextV h r).2 = 0) : checkV r = 0 ∧ followsV h r = true ∧ (nextV h r).1 = (r.1, r.2.1, sha (recBytes r)) := by
  unfold nextV at g ⊢
  split at g
  · rename_i h1
    split at g
    · rename_i h2
      rw [if_pos h1, if_pos h2]; exact ⟨h1, h2, rfl⟩
    · exact absurd g (by decide)
  · rename_i h1
    exact absurd g h1
theorem walk_range : ∀ (l : List Rec) (h : HeadT) (i : Nat), ∃ k : Nat, k ≤ l.length ∧ (walkV h l i).2.1 = ((i + k : Nat) : Int)
  | [], h, i => ⟨0, by simp, rfl⟩
  | r :: l, h, i => by
    unfold walkV
    by_cases g : (nextV h r).2 = 0
    · rw [if_pos g]
      obtain ⟨k, h1, h2⟩ := walk_range l (nextV h r).1 (i + 1)
      exact ⟨k + 1, by simp; omega, by rw [h2]; congr 1; omega⟩
    · rw [if_neg g]
      exact ⟨0, by simp, rfl⟩
theorem walk_follows : ∀ (l : List Rec) (h : HeadT) (i j : Nat), ((i + j : Nat) : Int) < (walkV h l i).2.1 →
    if (l.getD j T_Rec.dflt).2.2.2.1 = (1 : Int) then (ep h l j : Int) < (l.getD j T_Rec.dflt).2.1 else (l.getD j T_Rec.dflt).2.1 = (ep h l j : Int)
  | [], h, i, j, hj => by
    have hj : ((i + j : Nat) : Int) < ((i : Nat) : Int) := hj
    omega
  | r :: l, h, i, j, hj => by
    unfold walkV at hj
    by_cases g : (nextV h r).2 = 0
    · rw [if_pos g] at hj
      obtain ⟨_, h2, h3⟩ := next_ok g
      cases j with
      | zero =>
        unfold followsV at h2
        rw [Bool.and_eq_true] at h2
        have h2 := h2.2
        show if r.2.2.2.1 = (1 : Int) then h.2.1 < r.2.1 else r.2.1 = h.2.1
        split at h2
        · rename_i hk; rw [if_pos hk]; exact of_decide_eq_true h2
        · rename_i hk; rw [if_neg hk]; exact of_decide_eq_true h2
      | succ j =>
        have := walk_follows l (nextV h r).1 (i + 1) j (by rw [show i + 1 + j = i + (j + 1) by omega]; exact hj)
        have e : ep (nextV h r).1 l j = ep h (r :: l) (j + 1) := by
          unfold ep
          cases j with
          | zero => rw [h3]; rfl
          | succ j => rfl
        rw [e] at this
        exact this
    · rw [if_neg g] at hj
      have hj : ((i + j : Nat) : Int) < ((i : Nat) : Int) := hj
      omega

def an_One (l m : List Rec) : Nat → SState → Option LoopAnn
  | 11, _ => some { X := Nat, slots := fun i => [(11, .sv (.dv (.i64 i)))], objs := fun _ => [], inv := fun i => i ≤ l.length ∧ ∀ j, j < i → ¬ (sameV (l.getD j T_Rec.dflt) (m.getD j T_Rec.dflt) = false ∧ (chainV (l.getD j T_Rec.dflt)).1 = (chainV (m.getD j T_Rec.dflt)).1), meas := fun i => l.length - i }
  | _, _ => none

theorem walk_done : ∀ (l : List Rec) (h : HeadT) (i : Nat), (walkV h l i).2.2 = 0 → (walkV h l i).2.1 = ((i + l.length : Nat) : Int) ∧ (walkV h l i).1.1 = (h.1 + (l.length : Int) : Int)
  | [], h, i, _ => ⟨rfl, (Int.add_zero _).symm⟩
  | r :: l, h, i, g => by
    unfold walkV at g ⊢
    by_cases g1 : (nextV h r).2 = 0
    · rw [if_pos g1] at g ⊢
      obtain ⟨h1, h2⟩ := walk_done l (nextV h r).1 (i + 1) g
      obtain ⟨_, h3, h4⟩ := next_ok g1
      refine ⟨by rw [h1, List.length_cons]; congr 1; omega, ?_⟩
      rw [h2, h4]
      unfold followsV at h3
      simp only [Bool.and_eq_true, decide_eq_true_eq] at h3
      have aux : ∀ (x y : Int) (n : Nat), x - 1 = y → x + (n : Int) = y + ((n + 1 : Nat) : Int) := by intro x y n; omega
      exact aux r.1 h.1 l.length h3.1.1
    · rw [if_neg g1] at g
      exact absurd g g1
theorem one_walk : ∀ (a b : List Rec) (h h' : HeadT) (i : Nat), a.length = b.length → (walkV h a i).2.2 = 0 → (walkV h' b i).2.2 = 0 → (walkV h a i).1.2.2 = (walkV h' b i).1.2.2 →
    (∃ j, j < a.length ∧ sameV (a.getD j T_Rec.dflt) (b.getD j T_Rec.dflt) = false ∧ (chainV (a.getD j T_Rec.dflt)).1 = (chainV (b.getD j T_Rec.dflt)).1) ∨ (a = b ∧ h.2.2 = h'.2.2)
  | [], [], h, h', i, _, _, _, e => .inr ⟨rfl, e⟩
  | [], _ :: _, _, _, _, hl, _, _, _ => by cases hl
  | _ :: _, [], _, _, _, hl, _, _, _ => by cases hl
  | r :: a, s :: b, h, h', i, hl, g1, g2, e => by
    unfold walkV at g1 g2 e
    by_cases n1 : (nextV h r).2 = 0
    · by_cases n2 : (nextV h' s).2 = 0
      · rw [if_pos n1] at g1 e
        rw [if_pos n2] at g2 e
        obtain ⟨c1, f1, e1⟩ := next_ok n1
        obtain ⟨c2, f2, e2⟩ := next_ok n2
        rcases one_walk a b (nextV h r).1 (nextV h' s).1 (i + 1) (by simpa using hl) g1 g2 e with ⟨j, hj, h3⟩ | ⟨rfl, h4⟩
        · exact .inl ⟨j + 1, by simp; omega, h3⟩
        · cases hs : sameV r s with
          | false =>
            refine .inl ⟨0, by simp, hs, ?_⟩
            show (chainV r).1 = (chainV s).1
            unfold chainV
            rw [if_pos c1, if_pos c2]
            rw [e1, e2] at h4
            exact h4
          | true =>
            have := (sameV_iff r s).1 hs
            subst this
            refine .inr ⟨rfl, ?_⟩
            unfold followsV at f1 f2
            simp only [Bool.and_eq_true, beq_iff_eq] at f1 f2
            exact f1.1.2.symm.trans f2.1.2
      · rw [if_neg n2] at g2
        exact absurd g2 n2
    · rw [if_neg n1] at g1
      exact absurd g1 n1

end Go.Sal
