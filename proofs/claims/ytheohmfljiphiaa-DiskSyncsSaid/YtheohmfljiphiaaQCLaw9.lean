/- The laws of layer 9: the walks. -/
import Derived.Test.YtheohmfljiphiaaQCDsk
set_option maxRecDepth 100000
namespace Go.Sal
open Go.Vse Go.Sal.Nm

abbrev T_Op : T := .pair .i64 (.pair .i64 (.pair .i64 (.pair .i64 (.pair .u8 (.pair (.slc .u8) (.slc .bool))))))
def an_P : Ann := { at_ := fun _ _ => none, prune := 1 }
def c_alive : PC := D [] [.bool] (fun _ => none) (fun _ => (true, ()))
def c_lw (ts : List T) : PC := D ts [.bool] (fun _ => none) (fun _ => (true, ()))
def x_cel (S : SState) (t : Nat) : Nat :=
  match S.get t with
  | .sv (.ref (.cell l [] 0)) => l
  | _ => 0
def x_dev (n : Int) (opn : List (Int × List (BitVec 8))) (last : List (Int × Int)) : T_D := (List.replicate n.toNat T_Blk.dflt, opn, last, false, false, 0, ())

theorem mget_cons (p : Int × Int) (r : List (Int × Int)) (x : Int) : mget .i64 (p :: r) x = if x = p.1 then some p.2 else mget .i64 r x := by
  by_cases h : x = p.1
  · rw [if_pos h]
    show (bif @decide (x = p.1) _ then some p.2 else mget .i64 r x) = _
    rw [decide_eq_true h]; rfl
  · rw [if_neg h]
    show (bif @decide (x = p.1) _ then some p.2 else mget .i64 r x) = _
    rw [decide_eq_false h]; rfl
theorem mget_mput (l : List (Int × Int)) (x y z : Int) : mget .i64 (mput .i64 l x y) z = if z = x then some y else mget .i64 l z := by
  induction l with
  | nil => exact mget_cons (x, y) [] z
  | cons p r ih =>
    by_cases h : x = p.1
    · have : mput .i64 (p :: r) x y = (p.1, y) :: r := by
        show (bif @decide (x = p.1) _ then (p.1, y) :: r else p :: mput .i64 r x y) = _
        rw [decide_eq_true h]; rfl
      rw [this, mget_cons, mget_cons]
      simp only [h]
      split <;> rfl
    · have : mput .i64 (p :: r) x y = p :: mput .i64 r x y := by
        show (bif @decide (x = p.1) _ then (p.1, y) :: r else p :: mput .i64 r x y) = _
        rw [decide_eq_false h]; rfl
      rw [this, mget_cons, mget_cons, ih]
      split
      · rename_i h2
        rw [if_neg (fun h3 => h (h3.symm.trans h2))]
      · rfl
theorem okLast_nil {n : Nat} : okLast n [] := fun i k h => by cases h
theorem okLast_wr {e j : Int} {b : List (BitVec 8)} {opn : List (Int × List (BitVec 8))} {last : List (Int × Int)} (h : okLast opn.length last) : okLast (wrO e opn j b).length (wrM e opn last j) := by
  unfold wrO wrM
  cases hd : decide (e = 0) with
  | false => exact h
  | true =>
    intro i k hk
    simp only [cond_true] at hk ⊢
    rw [mget_mput] at hk
    simp only [List.length_append, List.length_singleton]
    split at hk
    · simp only [Option.some.injEq] at hk; omega
    · have := h i k hk; omega
theorem rdV_wr {e j i : Int} {b : List (BitVec 8)} {fast : List (List (BitVec 8))} {opn : List (Int × List (BitVec 8))} {last : List (Int × Int)} (h : okLast opn.length last) :
    rdV fast (wrO e opn j b) (wrM e opn last j) i = bif e == 0 && j == i then wholeV b else rdV fast opn last i := by
  unfold wrO wrM
  by_cases he : e = 0
  · subst he
    simp only [decide_true, cond_true, beq_self_eq_true, Bool.true_and]
    unfold rdV
    rw [mget_mput]
    by_cases hj : i = j
    · subst hj
      simp
    · rw [if_neg hj, show (j == i) = false by simp; omega]
      simp only [cond_false]
      split
      · rename_i k hk
        have := h i k hk
        simp only [List.getD]
        rw [List.getElem?_append_left (show k.toNat < opn.length by omega)]
      · rfl
  · rw [decide_eq_false he, show (e == 0) = false by simpa using he]
    rfl
theorem cutV_len (b : List (BitVec 8)) : (cutV b).length ≤ 100000 := by unfold cutV; rw [List.length_take]; omega
theorem wrLeft0 (n i m k : Int) : wrLeft false false 0 n i m k = 0 := by
  unfold wrLeft
  cases decide (wrA false n i m k = 0) <;> rfl
theorem atV_in {n i : Int} (h : 0 ≤ i) (h2 : i < n) : atV false n i = 0 := by
  unfold atV
  rw [decide_eq_false (by omega), decide_eq_false (by omega)]; rfl
theorem rdV_new {n : Nat} {i : Int} (h : 0 ≤ i) (h2 : i < (n : Int)) : rdV (List.replicate n T_Blk.dflt) [] [] i = List.replicate 512 0#8 := by
  unfold rdV
  show (List.replicate n T_Blk.dflt).getD i.toNat T_Blk.dflt = _
  rw [getD_at _ _ _ (by rw [List.length_replicate]; omega), List.getElem_replicate]
  rfl

theorem law9_alive_vc :
    (ofN 4 ≤ 4 ∧ ofN 4 ≤ 4096) ∧
      false = false ∧
        (false = false ∧ 0 < List.length [97#8, 98#8, 99#8, 100#8, 101#8, 102#8]) ∧
          (false = false ∧ 0 < List.length (List.replicate (Int.toNat 4) (T.dflt (T.arr 512 T.u8))) ∧ ofN 0 ≤ 0) ∧
            (false = true → false = true) ∧
              (false = false →
                (0 < List.length (List.replicate (Int.toNat 4) (T.dflt (T.arr 512 T.u8))) ∧
                    List.length (List.replicate (Int.toNat 4) (T.dflt (T.arr 512 T.u8))) ≤ 4096 ∧
                      false = false ∧
                        okOpen (List.length (List.replicate (Int.toNat 4) (T.dflt (T.arr 512 T.u8))))
                          (wrO
                            (wrE false false 0 (ofN (List.length (List.replicate (Int.toNat 4) (T.dflt (T.arr 512 T.u8))))) 3 (ofN (List.length [97#8, 98#8, 99#8, 100#8, 101#8, 102#8]))
                              (ofN (List.length (nilOf (Int × List (BitVec 8))))))
                            (nilOf (Int × List (BitVec 8))) 3 [97#8, 98#8, 99#8, 100#8, 101#8, 102#8])) ∧
                  (false = false ∧ 0 < List.length (List.replicate (Int.toNat 4) (T.dflt (T.arr 512 T.u8)))) ∧
                    (false = true → false = true) ∧
                      (false = false →
                        (0 <
                              List.length
                                (loseK (nilOf Bool) 0 2
                                  (wrO
                                    (wrE false false 0 (ofN (List.length (List.replicate (Int.toNat 4) (T.dflt (T.arr 512 T.u8))))) 3 (ofN (List.length [97#8, 98#8, 99#8, 100#8, 101#8, 102#8]))
                                      (ofN (List.length (nilOf (Int × List (BitVec 8))))))
                                    (nilOf (Int × List (BitVec 8))) 3 [97#8, 98#8, 99#8, 100#8, 101#8, 102#8])
                                  (List.replicate (Int.toNat 4) (T.dflt (T.arr 512 T.u8)))
                                  (List.length
                                    (wrO
                                      (wrE false false 0 (ofN (List.length (List.replicate (Int.toNat 4) (T.dflt (T.arr 512 T.u8))))) 3 (ofN (List.length [97#8, 98#8, 99#8, 100#8, 101#8, 102#8]))
                                        (ofN (List.length (nilOf (Int × List (BitVec 8))))))
                                      (nilOf (Int × List (BitVec 8))) 3 [97#8, 98#8, 99#8, 100#8, 101#8, 102#8]))) ∧
                            okLast (List.length (nilOf (Int × List (BitVec 8)))) (nilOf (Int × Int))) ∧
                          (0 < List.length (List.replicate (Int.toNat 4) (T.dflt (T.arr 512 T.u8))) ∧
                              okLast
                                (List.length
                                  (wrO
                                    (wrE false false 0 (ofN (List.length (List.replicate (Int.toNat 4) (T.dflt (T.arr 512 T.u8))))) 3 (ofN (List.length [97#8, 98#8, 99#8, 100#8, 101#8, 102#8]))
                                      (ofN (List.length (nilOf (Int × List (BitVec 8))))))
                                    (nilOf (Int × List (BitVec 8))) 3 [97#8, 98#8, 99#8, 100#8, 101#8, 102#8]))
                                (wrM
                                  (wrE false false 0 (ofN (List.length (List.replicate (Int.toNat 4) (T.dflt (T.arr 512 T.u8))))) 3 (ofN (List.length [97#8, 98#8, 99#8, 100#8, 101#8, 102#8]))
                                    (ofN (List.length (nilOf (Int × List (BitVec 8))))))
                                  (nilOf (Int × List (BitVec 8))) (nilOf (Int × Int)) 3)) ∧
                            (true = true →
                                ofN 0 ≤ 3 ∧
                                  3 ≤
                                    ofN
                                      (List.length
                                        (readV
                                          (loseK (nilOf Bool) 0 2
                                            (wrO
                                              (wrE false false 0 (ofN (List.length (List.replicate (Int.toNat 4) (T.dflt (T.arr 512 T.u8))))) 3 (ofN (List.length [97#8, 98#8, 99#8, 100#8, 101#8, 102#8]))
                                                (ofN (List.length (nilOf (Int × List (BitVec 8))))))
                                              (nilOf (Int × List (BitVec 8))) 3 [97#8, 98#8, 99#8, 100#8, 101#8, 102#8])
                                            (List.replicate (Int.toNat 4) (T.dflt (T.arr 512 T.u8)))
                                            (List.length
                                              (wrO
                                                (wrE false false 0 (ofN (List.length (List.replicate (Int.toNat 4) (T.dflt (T.arr 512 T.u8))))) 3
                                                  (ofN (List.length [97#8, 98#8, 99#8, 100#8, 101#8, 102#8])) (ofN (List.length (nilOf (Int × List (BitVec 8))))))
                                                (nilOf (Int × List (BitVec 8))) 3 [97#8, 98#8, 99#8, 100#8, 101#8, 102#8])))
                                          (nilOf (Int × List (BitVec 8))) (nilOf (Int × Int)) false 3))) ∧
                              true = true)) := by
  refine ⟨by decide, rfl, ⟨rfl, by decide⟩, ⟨rfl, by decide, by decide⟩, fun q => q, fun _ => ⟨⟨by decide, by decide, rfl, ?_⟩, ⟨rfl, by decide⟩, fun q => q, fun _ => ⟨⟨by decide, ?_⟩, ⟨by decide, ?_⟩, fun _ => ?_, rfl⟩⟩⟩
  · have : wrO (wrE false false 0 4 3 6 0) [] 3 [97#8, 98#8, 99#8, 100#8, 101#8, 102#8] = [(3, wholeV [97#8, 98#8, 99#8, 100#8, 101#8, 102#8])] := by rfl
    show okOpen 4 (wrO (wrE false false 0 4 3 6 0) [] 3 [97#8, 98#8, 99#8, 100#8, 101#8, 102#8])
    rw [this]
    intro w hw
    simp only [List.mem_singleton] at hw
    subst hw
    exact ⟨by decide, by decide⟩
  · exact okLast_nil
  · exact okLast_wr okLast_nil
  · exact ⟨by decide, by decide⟩

def rdS (s : Nat × List (Int × List (BitVec 8)) × List (Int × Int) × List (BitVec 8)) (n m : Nat) (i : Int) : Prop := s.1 ≤ m ∧ okLast s.2.1.length s.2.2.1 ∧ rdV (List.replicate n T_Blk.dflt) s.2.1 s.2.2.1 i = s.2.2.2
def an_RdL (ws : List T_Op.den) (i : Int) : Nat → SState → Option LoopAnn
  | 6, S => some { X := Nat × List (Int × List (BitVec 8)) × List (Int × Int) × List (BitVec 8), slots := fun s => [(7, .sv (.dv (.imm .u8 s.2.2.2))), (8, .sv (.dv (.i64 (ofN s.1))))], objs := fun s => (0, .gone) :: x_oAt T_fsD (x_cel S 5) 12 (x_dev 8 s.2.1 s.2.2.1), inv := fun s => rdS s 8 ws.length i, meas := fun s => ws.length - s.1 }
  | _, _ => none
def an_Rd (ws : List T_Op.den) (i : Int) : Ann := { at_ := an_RdL ws i, prune := 1, rows := [1021 + STRIDE] }

theorem law9_DiskReads_vc (ws : List T_Op.den) (i : Int) :
    (ofN 4 ≤ 8 ∧ ofN 8 ≤ 4096) ∧
      ((false || decide (i < 0) || decide (8 ≤ i)) = true → true = true) ∧
        ((false || decide (i < 0) || decide (8 ≤ i)) = false →
          (ofN 512 = 512 ∧ ofN 0 ≤ 512 ∧ ofN 512 ≤ 16777216) ∧
            (∃ (x : Nat × List (Int × List (BitVec 8)) × List (Int × Int) × List (BitVec 8)),
                rdS x 8 (List.length ws) i ∧
                  (List.replicate (Int.toNat 512) 0#8 = x.2.2.2 ∧ 0 = ofN x.1) ∧
                    (false = false ∧ false = false ∧ ofN 0 = 0) ∧
                      List.replicate (Int.toNat 8) (T.dflt (T.arr 512 T.u8)) = List.replicate (Int.toNat 8) (T.dflt (T.arr 512 T.u8)) ∧
                        nilOf (Int × List (BitVec 8)) = x.2.1 ∧ nilOf (Int × Int) = x.2.2.1) ∧
              ∀ (x : Nat × List (Int × List (BitVec 8)) × List (Int × Int) × List (BitVec 8)),
                rdS x 8 (List.length ws) i →
                  ((decide (ofN x.1 < ofN (List.length ws)) && decide (ofN x.1 < 60)) = true →
                      within (ofN x.1) (List.length ws) ∧
                        within (ofN x.1) (List.length ws) ∧
                          (0 < List.length (List.replicate (Int.toNat 8) (T.dflt (T.arr 512 T.u8))) ∧ ofN 0 ≤ 0) ∧
                            ((wrE false false 0 (ofN (List.length (List.replicate (Int.toNat 8) (T.dflt (T.arr 512 T.u8)))))
                                      (List.getD ws (Int.toNat (ofN x.1)) (T.dflt T_Op)).2.1
                                      (ofN
                                        (List.length
                                          (cutV
                                            (List.getD ws (Int.toNat (ofN x.1))
                                                          (T.dflt T_Op)).2.2.2.2.2.1)))
                                      (ofN (List.length x.2.1)) ==
                                    0) =
                                  true →
                                within (ofN x.1) (List.length ws)) ∧
                              ((wrE false false 0 (ofN (List.length (List.replicate (Int.toNat 8) (T.dflt (T.arr 512 T.u8)))))
                                          (List.getD ws (Int.toNat (ofN x.1)) (T.dflt T_Op)).2.1
                                          (ofN
                                            (List.length
                                              (cutV
                                                (List.getD ws (Int.toNat (ofN x.1))
                                                              (T.dflt T_Op)).2.2.2.2.2.1)))
                                          (ofN (List.length x.2.1)) ==
                                        0 &&
                                      (List.getD ws (Int.toNat (ofN x.1)) (T.dflt T_Op)).2.1 ==
                                        i) =
                                    true →
                                  List.length
                                        (cutV
                                          (List.getD ws (Int.toNat (ofN x.1))
                                                        (T.dflt T_Op)).2.2.2.2.2.1) ≤
                                      100000 ∧
                                    inI64 (ofN x.1 + 1) ∧
                                      ∃ (x' : Nat × List (Int × List (BitVec 8)) × List (Int × Int) × List (BitVec 8)),
                                        rdS x' 8 (List.length ws) i ∧
                                          List.length ws - x'.1 < List.length ws - x.1 ∧
                                            (wholeV
                                                    (cutV
                                                      (List.getD ws (Int.toNat (ofN x.1))
                                                                    (T.dflt T_Op)).2.2.2.2.2.1) =
                                                  x'.2.2.2 ∧
                                                ofN x.1 + 1 = ofN x'.1) ∧
                                              (false = false ∧
                                                  false = false ∧
                                                    wrLeft false false 0 (ofN (List.length (List.replicate (Int.toNat 8) (T.dflt (T.arr 512 T.u8)))))
                                                        (List.getD ws (Int.toNat (ofN x.1))
                                                              (T.dflt T_Op)).2.1
                                                        (ofN
                                                          (List.length
                                                            (cutV
                                                              (List.getD ws (Int.toNat (ofN x.1))
                                                                            (T.dflt
                                                                              T_Op)).2.2.2.2.2.1)))
                                                        (ofN (List.length x.2.1)) =
                                                      0) ∧
                                                List.replicate (Int.toNat 8) (T.dflt (T.arr 512 T.u8)) = List.replicate (Int.toNat 8) (T.dflt (T.arr 512 T.u8)) ∧
                                                  wrO
                                                        (wrE false false 0 (ofN (List.length (List.replicate (Int.toNat 8) (T.dflt (T.arr 512 T.u8)))))
                                                          (List.getD ws (Int.toNat (ofN x.1))
                                                                (T.dflt T_Op)).2.1
                                                          (ofN
                                                            (List.length
                                                              (cutV
                                                                (List.getD ws (Int.toNat (ofN x.1))
                                                                              (T.dflt
                                                                                T_Op)).2.2.2.2.2.1)))
                                                          (ofN (List.length x.2.1)))
                                                        x.2.1
                                                        (List.getD ws (Int.toNat (ofN x.1))
                                                              (T.dflt T_Op)).2.1
                                                        (cutV
                                                          (List.getD ws (Int.toNat (ofN x.1))
                                                                        (T.dflt
                                                                          T_Op)).2.2.2.2.2.1) =
                                                      x'.2.1 ∧
                                                    wrM
                                                        (wrE false false 0 (ofN (List.length (List.replicate (Int.toNat 8) (T.dflt (T.arr 512 T.u8)))))
                                                          (List.getD ws (Int.toNat (ofN x.1))
                                                                (T.dflt T_Op)).2.1
                                                          (ofN
                                                            (List.length
                                                              (cutV
                                                                (List.getD ws (Int.toNat (ofN x.1))
                                                                              (T.dflt
                                                                                T_Op)).2.2.2.2.2.1)))
                                                          (ofN (List.length x.2.1)))
                                                        x.2.1 x.2.2.1
                                                        (List.getD ws (Int.toNat (ofN x.1))
                                                              (T.dflt T_Op)).2.1 =
                                                      x'.2.2.1) ∧
                                ((wrE false false 0 (ofN (List.length (List.replicate (Int.toNat 8) (T.dflt (T.arr 512 T.u8)))))
                                          (List.getD ws (Int.toNat (ofN x.1)) (T.dflt T_Op)).2.1
                                          (ofN
                                            (List.length
                                              (cutV
                                                (List.getD ws (Int.toNat (ofN x.1))
                                                              (T.dflt T_Op)).2.2.2.2.2.1)))
                                          (ofN (List.length x.2.1)) ==
                                        0 &&
                                      (List.getD ws (Int.toNat (ofN x.1)) (T.dflt T_Op)).2.1 ==
                                        i) =
                                    false →
                                  inI64 (ofN x.1 + 1) ∧
                                    ∃ (x' : Nat × List (Int × List (BitVec 8)) × List (Int × Int) × List (BitVec 8)),
                                      rdS x' 8 (List.length ws) i ∧
                                        List.length ws - x'.1 < List.length ws - x.1 ∧
                                          (x.2.2.2 = x'.2.2.2 ∧ ofN x.1 + 1 = ofN x'.1) ∧
                                            (false = false ∧
                                                false = false ∧
                                                  wrLeft false false 0 (ofN (List.length (List.replicate (Int.toNat 8) (T.dflt (T.arr 512 T.u8)))))
                                                      (List.getD ws (Int.toNat (ofN x.1))
                                                            (T.dflt T_Op)).2.1
                                                      (ofN
                                                        (List.length
                                                          (cutV
                                                            (List.getD ws (Int.toNat (ofN x.1))
                                                                          (T.dflt
                                                                            T_Op)).2.2.2.2.2.1)))
                                                      (ofN (List.length x.2.1)) =
                                                    0) ∧
                                              List.replicate (Int.toNat 8) (T.dflt (T.arr 512 T.u8)) = List.replicate (Int.toNat 8) (T.dflt (T.arr 512 T.u8)) ∧
                                                wrO
                                                      (wrE false false 0 (ofN (List.length (List.replicate (Int.toNat 8) (T.dflt (T.arr 512 T.u8)))))
                                                        (List.getD ws (Int.toNat (ofN x.1))
                                                              (T.dflt T_Op)).2.1
                                                        (ofN
                                                          (List.length
                                                            (cutV
                                                              (List.getD ws (Int.toNat (ofN x.1))
                                                                            (T.dflt
                                                                              T_Op)).2.2.2.2.2.1)))
                                                        (ofN (List.length x.2.1)))
                                                      x.2.1
                                                      (List.getD ws (Int.toNat (ofN x.1))
                                                            (T.dflt T_Op)).2.1
                                                      (cutV
                                                        (List.getD ws (Int.toNat (ofN x.1))
                                                                      (T.dflt
                                                                        T_Op)).2.2.2.2.2.1) =
                                                    x'.2.1 ∧
                                                  wrM
                                                      (wrE false false 0 (ofN (List.length (List.replicate (Int.toNat 8) (T.dflt (T.arr 512 T.u8)))))
                                                        (List.getD ws (Int.toNat (ofN x.1))
                                                              (T.dflt T_Op)).2.1
                                                        (ofN
                                                          (List.length
                                                            (cutV
                                                              (List.getD ws (Int.toNat (ofN x.1))
                                                                            (T.dflt
                                                                              T_Op)).2.2.2.2.2.1)))
                                                        (ofN (List.length x.2.1)))
                                                      x.2.1 x.2.2.1
                                                      (List.getD ws (Int.toNat (ofN x.1))
                                                            (T.dflt T_Op)).2.1 =
                                                    x'.2.2.1)) ∧
                    ((decide (ofN x.1 < ofN (List.length ws)) && decide (ofN x.1 < 60)) = false →
                      (0 < List.length (List.replicate (Int.toNat 8) (T.dflt (T.arr 512 T.u8))) ∧ okLast (List.length x.2.1) x.2.2.1) ∧
                        (atV false (ofN (List.length (List.replicate (Int.toNat 8) (T.dflt (T.arr 512 T.u8))))) i == 0 &&
                              readV (List.replicate (Int.toNat 8) (T.dflt (T.arr 512 T.u8))) x.2.1 x.2.2.1 false i == x.2.2.2 &&
                            true) =
                          true)) := by
  refine ⟨by decide, fun _ => rfl, fun q => ?_⟩
  have hi : 0 ≤ i ∧ i < 8 := by simp at q; omega
  refine ⟨by decide, ⟨(0, [], [], List.replicate (Int.toNat 512) 0#8), ⟨Nat.zero_le _, okLast_nil, rdV_new hi.1 hi.2⟩, ⟨rfl, rfl⟩, ⟨rfl, rfl, rfl⟩, rfl, rfl, rfl⟩, fun x hx => ?_⟩
  obtain ⟨k, opn, last, want⟩ := x
  obtain ⟨h1, h2, h3⟩ := hx
  dsimp only at h1 h2 h3 ⊢
  have hn : 0 < List.length (List.replicate (Int.toNat 8) (T.dflt (T.arr 512 T.u8))) := by rw [List.length_replicate]; decide
  refine ⟨fun q2 => ?_, fun q2 => ?_⟩
  · have hk : k < ws.length ∧ k < 60 := by
      simp only [Bool.and_eq_true, decide_eq_true_eq] at q2
      have a : ∀ n : Nat, (ofN n : Int) = n := fun _ => rfl
      simp only [a] at q2
      omega
    have hw : within (ofN k) ws.length := ⟨by show (0 : Int) ≤ (k : Int); omega, by show (k : Int) < (ws.length : Int); omega⟩
    have h64 : inI64 (ofN k + 1) := by show inI64 ((k : Int) + 1); unfold inI64; omega
    generalize List.getD ws (Int.toNat (ofN k)) _ = o
    generalize hE : wrE _ _ _ _ _ _ _ = ee
    refine ⟨hw, hw, ⟨hn, Int.le_refl 0⟩, fun _ => hw, fun q3 => ⟨cutV_len _, h64, (k + 1, wrO ee opn o.2.1 (cutV o.2.2.2.2.2.1), wrM ee opn last o.2.1, wholeV (cutV o.2.2.2.2.2.1)), ⟨hk.1, okLast_wr h2, ?_⟩, by dsimp only; omega, ⟨rfl, rfl⟩, ⟨rfl, rfl, wrLeft0 _ _ _ _⟩, rfl, rfl, rfl⟩, fun q3 => ⟨h64, (k + 1, wrO ee opn o.2.1 (cutV o.2.2.2.2.2.1), wrM ee opn last o.2.1, want), ⟨hk.1, okLast_wr h2, ?_⟩, by dsimp only; omega, ⟨rfl, rfl⟩, ⟨rfl, rfl, wrLeft0 _ _ _ _⟩, rfl, rfl, rfl⟩⟩
    · dsimp only
      rw [rdV_wr h2, q3]; rfl
    · dsimp only
      rw [rdV_wr h2, q3]; exact h3
  · refine ⟨⟨hn, h2⟩, ?_⟩
    rw [atV_in hi.1 (show i < ofN (List.length (List.replicate (Int.toNat 8) (T.dflt (T.arr 512 T.u8)))) by rw [List.length_replicate]; exact hi.2)]
    unfold readV
    rw [atV_in hi.1 (show i < ((List.length (List.replicate (Int.toNat 8) (T.dflt (T.arr 512 T.u8))) : Nat) : Int) by rw [List.length_replicate]; exact hi.2)]
    rw [show (decide ((0 : Int) = 0)) = true from rfl, cond_true]
    have h4 : rdV (List.replicate (Int.toNat 8) (T.dflt (T.arr 512 T.u8))) opn last i = want := h3
    rw [h4]
    simp

theorem law9_alive_spec : Vse.Spec P f_law09_alive c_alive := spec_fn (l := [(f_disk_New, c_New), (f_disk_Disk_Write, c_Write), (f_disk_Disk_Lose, c_Lose), (f_disk_Disk_Down, c_Down), (f_disk_Disk_Read, c_Read)]) ⟨disk_New_spec, disk_Write_spec, disk_Lose_spec, disk_Down_spec, disk_Read_spec, trivial⟩ h_law09_alive rfl rfl fun _ _ _ =>
  body_ok an_P law9_alive_vc (by kernel_rfl)

theorem law9_DiskReads_spec : Vse.Spec P f_law09_DiskReads (c_lw [.slc T_Op, .i64]) := spec_fn (l := [(f_disk_New, c_New), (f_disk_Disk_Write, c_Write), (f_disk_Disk_Read, c_Read), (f_law09_cut, c_cut), (f_ref09_Whole, c_Whole), (f_law09_alive, c_alive)]) ⟨disk_New_spec, disk_Write_spec, disk_Read_spec, law9_cut_spec, ref9_Whole_spec, law9_alive_spec, trivial⟩ h_law09_DiskReads rfl rfl fun x _ _ => by
  obtain ⟨ws, i, _⟩ := x
  exact body_ok (an_Rd ws i) (law9_DiskReads_vc ws i) (by kernel_rfl)

def x_ws (S : SState) : List (List (BitVec 8)) :=
  match S.get 1 with
  | .sv (.dv (.imm (.slc .u8) xs)) => xs
  | _ => []
def x_by (S : SState) (t : Nat) : List (BitVec 8) :=
  match S.get t with
  | .sv (.dv (.imm .u8 xs)) => xs
  | _ => []
def x_int (S : SState) (t : Nat) : Int :=
  match S.get t with
  | .sv (.dv (.i64 n)) => n
  | _ => 0
def wrOf (ws : List (List (BitVec 8))) (w : Int × List (BitVec 8)) : Prop := w.1 = 2 ∧ ∃ b ∈ ws, b.length ≤ 512 ∧ w.2 = wholeV b
def byS (ws : List (List (BitVec 8))) (first : List (BitVec 8)) (s : Nat × List (Int × List (BitVec 8)) × List (Int × Int) × List (List (BitVec 8))) : Prop :=
  s.1 ≤ ws.length ∧ s.2.1.length ≤ s.1 ∧ okLast s.2.1.length s.2.2.1 ∧ (∀ w ∈ s.2.1, wrOf ws w) ∧ s.2.2.2.length = 4 ∧ s.2.2.2.getD 2 T_Blk.dflt = first
def x_devF (fast : List (List (BitVec 8))) (opn : List (Int × List (BitVec 8))) (last : List (Int × Int)) : T_D := (fast, opn, last, false, false, 0, ())
def mt9 (ws : List (List (BitVec 8))) (b : List (BitVec 8)) (k : Int) (j : Nat) : Bool := decide ((ws.getD j []).length ≤ 512) && ((wholeV (ws.getD j [])).getD k.toNat 0#8 == b.getD k.toNat 0#8)
def inS (ws : List (List (BitVec 8))) (b first : List (BitVec 8)) (k : Int) (s : Bool × Nat) : Prop := s.2 ≤ ws.length ∧ (s.1 = false → (b.getD k.toNat 0#8 == first.getD k.toNat 0#8) = false ∧ ∀ j, j < s.2 → mt9 ws b k j = false)
def an_ByL : Nat → SState → Option LoopAnn
  | 11, S => some { X := Nat × List (Int × List (BitVec 8)) × List (Int × Int) × List (List (BitVec 8)), slots := fun s => [(13, .sv (.dv (.i64 (ofN s.1))))], objs := fun s => (0, .gone) :: x_oAt T_fsD (x_cel S 11) 12 (x_devF s.2.2.2 s.2.1 s.2.2.1), inv := fun s => byS (x_ws S) (x_by S 0) s, meas := fun s => (x_ws S).length - s.1 }
  | 22, _ => some { X := Nat, slots := fun k => [(18, .sv (.dv (.i64 (ofN k))))], objs := fun _ => [], inv := fun k => k ≤ 512, meas := fun k => 512 - k }
  | 26, S => some { X := Bool × Nat, slots := fun s => [(19, .sv (.dv (.bool s.1))), (20, .sv (.dv (.i64 (ofN s.2))))], objs := fun _ => [], inv := fun s => inS (x_ws S) (x_by S 16) (x_by S 0) (x_int S 18) s, meas := fun s => (x_ws S).length - s.2 }
  | _, _ => none
def an_By : Ann := { at_ := an_ByL, prune := 1, rows := [1041 + STRIDE * 2, 1044 + STRIDE * 2, 1047 + STRIDE * 2] }

theorem wholeV_len (b : List (BitVec 8)) : 512 ≤ (wholeV b).length := by unfold wholeV; rw [List.length_append, List.length_replicate]; omega
theorem wholeV_len2 {b : List (BitVec 8)} (h : b.length ≤ 512) : (wholeV b).length = 512 := by unfold wholeV; rw [List.length_append, List.length_replicate]; omega
theorem wholeV_self {b : List (BitVec 8)} (h : b.length = 512) : wholeV b = b := by unfold wholeV; rw [h]; exact List.append_nil b
theorem wrE_zero {n i m k : Int} (h1 : 0 ≤ i) (h2 : i < n) (h3 : m ≤ 512) (h4 : k < 65536) : wrE false false 0 n i m k = 0 := by
  have hA : wrA false n i m k = 0 := by
    unfold wrA
    rw [atV_in h1 h2, show decide ((0 : Int) = 0) = true from rfl, cond_true, decide_eq_false (show ¬ m > 512 by omega), cond_false, decide_eq_false (show ¬ k ≥ 65536 by omega)]
    rfl
  unfold wrE
  rw [hA]
  rfl
theorem getD_set {α : Type} (l : List α) (i : Nat) (v d : α) (h : i < l.length) : (l.set i v).getD i d = v := by
  simp [List.getD, List.getElem?_set, h]
def byF (W : List (List (BitVec 8))) (F b : List (BitVec 8)) : Prop := b.length = 512 ∧ ∀ k, k < 512 → b.getD k 0#8 = F.getD k 0#8 ∨ ∃ w ∈ W, w.length ≤ 512 ∧ (wholeV w).getD k 0#8 = b.getD k 0#8
theorem splice_getD (xs ys : List (BitVec 8)) (k : Nat) (h : ys.length ≤ xs.length) : (spliceL xs ys 0).getD k 0#8 = if k < ys.length then ys.getD k 0#8 else xs.getD k 0#8 := by
  unfold spliceL
  rw [List.take_zero, List.nil_append, Nat.zero_add]
  split
  · rename_i hk
    simp only [List.getD]; rw [List.getElem?_append_left hk]
  · rename_i hk
    simp only [List.getD]; rw [List.getElem?_append_right (by omega), List.getElem?_drop]
    congr 2
    omega
theorem lose_by {W : List (List (BitVec 8))} {F : List (BitVec 8)} {keep : List Bool} {torn at_ : Int} {opn : List (Int × List (BitVec 8))} {fast : List (List (BitVec 8))} (hl : fast.length = 4) (hF : F.length = 512) (h2 : fast.getD 2 T_Blk.dflt = F) (ho : ∀ w ∈ opn, wrOf W w) :
    ∀ k, k ≤ opn.length → byF W F ((loseK keep torn at_ opn fast k).getD 2 T_Blk.dflt)
  | 0, _ => by
    show byF W F (fast.getD 2 T_Blk.dflt)
    rw [h2]
    exact ⟨hF, fun k _ => .inl rfl⟩
  | k + 1, h => by
    have ih := lose_by (keep := keep) (torn := torn) (at_ := at_) hl hF h2 ho k (by omega)
    obtain ⟨w1, b, hb, hb2, hb3⟩ := ho (opn.getD k (0, T_Blk.dflt)) (by rw [getD_at _ _ _ (by omega)]; exact List.getElem_mem _)
    show byF W F ((loseStep keep torn at_ k (opn.getD k (0, T_Blk.dflt)) (loseK keep torn at_ opn fast k)).getD 2 T_Blk.dflt)
    have hll : 2 < (loseK keep torn at_ opn fast k).length := by rw [loseK_len]; omega
    have hbw : byF W F (wholeV b) := ⟨wholeV_len2 hb2, fun k _ => .inr ⟨b, hb, hb2, rfl⟩⟩
    unfold loseStep
    rw [w1, hb3]
    cases decide ((k : Int) = torn) with
    | true =>
      cases ha : decide (0 < at_) with
      | true =>
        simp only [cond_true]
        rw [show Int.toNat 2 = 2 from rfl, getD_set _ _ _ _ hll]
        have hn : ((wholeV b).take (lostN at_)).length ≤ 512 := by rw [List.length_take, wholeV_len2 hb2]; exact Nat.min_le_right _ _
        refine ⟨?_, fun j hj => ?_⟩
        · unfold spliceL
          simp only [List.length_append, List.length_drop, List.take_zero, List.length_nil, ih.1]
          omega
        · rw [splice_getD _ _ _ (by rw [ih.1]; exact hn)]
          split
          · rename_i hlt
            refine .inr ⟨b, hb, hb2, ?_⟩
            simp only [List.getD]
            rw [List.getElem?_take_of_lt (by rw [List.length_take] at hlt; omega)]
          · exact ih.2 j hj
      | false => exact ih
    | false =>
      cases keep.getD k false with
      | true =>
        simp only [cond_false, cond_true]
        rw [show Int.toNat 2 = 2 from rfl, getD_set _ _ _ _ hll]
        exact hbw
      | false => exact ih

theorem sync_one (F : List (BitVec 8)) : syncK [(2, wholeV F)] (List.replicate (Int.toNat 4) T_Blk.dflt) 1 = (List.replicate (Int.toNat 4) T_Blk.dflt).set 2 (wholeV F) := rfl

theorem law9_DiskBytes_vc (first : List (BitVec 8)) (ws : List (List (BitVec 8))) (keep : List Bool) (torn at_ : Int) :
    (ofN 4 ≤ 4 ∧ ofN 4 ≤ 4096) ∧
      (false = true → false = true) ∧
        (false = false →
          (decide (10 < ofN (List.length ws)) = true →
              (ofN 0 ≤ 10 ∧ 10 ≤ ofN (List.length ws)) ∧
                List.length (cutV first) ≤ 100000 ∧
                  (ofN 0 ≤ 512 ∧ 512 ≤ ofN (List.length (wholeV (cutV first)))) ∧
                    (0 < List.length (List.replicate (Int.toNat 4) (T.dflt (T.arr 512 T.u8))) ∧ ofN 0 ≤ 0) ∧
                      ((wrE false false 0 (ofN (List.length (List.replicate (Int.toNat 4) (T.dflt (T.arr 512 T.u8))))) 2 (ofN (List.length (List.drop 0 (List.take (Int.toNat 512) (wholeV (cutV first))))))
                                (ofN (List.length (nilOf (Int × List (BitVec 8))))) !=
                              0) =
                            true →
                          false = true) ∧
                        ((wrE false false 0 (ofN (List.length (List.replicate (Int.toNat 4) (T.dflt (T.arr 512 T.u8))))) 2
                                (ofN (List.length (List.drop 0 (List.take (Int.toNat 512) (wholeV (cutV first)))))) (ofN (List.length (nilOf (Int × List (BitVec 8))))) !=
                              0) =
                            false →
                          (0 < List.length (List.replicate (Int.toNat 4) (T.dflt (T.arr 512 T.u8))) ∧
                              0 ≤
                                  wrLeft false false 0 (ofN (List.length (List.replicate (Int.toNat 4) (T.dflt (T.arr 512 T.u8))))) 2
                                    (ofN (List.length (List.drop 0 (List.take (Int.toNat 512) (wholeV (cutV first)))))) (ofN (List.length (nilOf (Int × List (BitVec 8))))) ∧
                                okOpen (List.length (List.replicate (Int.toNat 4) (T.dflt (T.arr 512 T.u8))))
                                  (wrO
                                    (wrE false false 0 (ofN (List.length (List.replicate (Int.toNat 4) (T.dflt (T.arr 512 T.u8))))) 2
                                      (ofN (List.length (List.drop 0 (List.take (Int.toNat 512) (wholeV (cutV first)))))) (ofN (List.length (nilOf (Int × List (BitVec 8))))))
                                    (nilOf (Int × List (BitVec 8))) 2 (List.drop 0 (List.take (Int.toNat 512) (wholeV (cutV first)))))) ∧
                            (∃ (x : Nat × List (Int × List (BitVec 8)) × List (Int × Int) × List (List (BitVec 8))),
                                byS (List.drop 0 (List.take (Int.toNat 10) ws)) (List.drop 0 (List.take (Int.toNat 512) (wholeV (cutV first)))) x ∧
                                  0 = ofN x.1 ∧
                                    (false = false ∧
                                        false = false ∧
                                          syLeft false false
                                              (wrLeft false false 0 (ofN (List.length (List.replicate (Int.toNat 4) (T.dflt (T.arr 512 T.u8))))) 2
                                                (ofN (List.length (List.drop 0 (List.take (Int.toNat 512) (wholeV (cutV first)))))) (ofN (List.length (nilOf (Int × List (BitVec 8)))))) =
                                            0) ∧
                                      syF
                                            (syE false false
                                              (wrLeft false false 0 (ofN (List.length (List.replicate (Int.toNat 4) (T.dflt (T.arr 512 T.u8))))) 2
                                                (ofN (List.length (List.drop 0 (List.take (Int.toNat 512) (wholeV (cutV first)))))) (ofN (List.length (nilOf (Int × List (BitVec 8)))))))
                                            (wrO
                                              (wrE false false 0 (ofN (List.length (List.replicate (Int.toNat 4) (T.dflt (T.arr 512 T.u8))))) 2
                                                (ofN (List.length (List.drop 0 (List.take (Int.toNat 512) (wholeV (cutV first)))))) (ofN (List.length (nilOf (Int × List (BitVec 8))))))
                                              (nilOf (Int × List (BitVec 8))) 2 (List.drop 0 (List.take (Int.toNat 512) (wholeV (cutV first)))))
                                            (List.replicate (Int.toNat 4) (T.dflt (T.arr 512 T.u8))) =
                                          x.2.2.2 ∧
                                        syO
                                              (syE false false
                                                (wrLeft false false 0 (ofN (List.length (List.replicate (Int.toNat 4) (T.dflt (T.arr 512 T.u8))))) 2
                                                  (ofN (List.length (List.drop 0 (List.take (Int.toNat 512) (wholeV (cutV first)))))) (ofN (List.length (nilOf (Int × List (BitVec 8)))))))
                                              (wrO
                                                (wrE false false 0 (ofN (List.length (List.replicate (Int.toNat 4) (T.dflt (T.arr 512 T.u8))))) 2
                                                  (ofN (List.length (List.drop 0 (List.take (Int.toNat 512) (wholeV (cutV first)))))) (ofN (List.length (nilOf (Int × List (BitVec 8))))))
                                                (nilOf (Int × List (BitVec 8))) 2 (List.drop 0 (List.take (Int.toNat 512) (wholeV (cutV first))))) =
                                            x.2.1 ∧
                                          syM
                                              (syE false false
                                                (wrLeft false false 0 (ofN (List.length (List.replicate (Int.toNat 4) (T.dflt (T.arr 512 T.u8))))) 2
                                                  (ofN (List.length (List.drop 0 (List.take (Int.toNat 512) (wholeV (cutV first)))))) (ofN (List.length (nilOf (Int × List (BitVec 8)))))))
                                              (wrM
                                                (wrE false false 0 (ofN (List.length (List.replicate (Int.toNat 4) (T.dflt (T.arr 512 T.u8))))) 2
                                                  (ofN (List.length (List.drop 0 (List.take (Int.toNat 512) (wholeV (cutV first)))))) (ofN (List.length (nilOf (Int × List (BitVec 8))))))
                                                (nilOf (Int × List (BitVec 8))) (nilOf (Int × Int)) 2) =
                                            x.2.2.1) ∧
                              ∀ (x : Nat × List (Int × List (BitVec 8)) × List (Int × Int) × List (List (BitVec 8))),
                                byS (List.drop 0 (List.take (Int.toNat 10) ws)) (List.drop 0 (List.take (Int.toNat 512) (wholeV (cutV first)))) x →
                                  (decide (ofN x.1 < ofN (List.length (List.drop 0 (List.take (Int.toNat 10) ws)))) = true →
                                      within (ofN x.1) (List.length (List.drop 0 (List.take (Int.toNat 10) ws))) ∧
                                        (decide (ofN (List.length (List.getD (List.drop 0 (List.take (Int.toNat 10) ws)) (Int.toNat (ofN x.1)) (T.dflt (T.slc T.u8)))) ≤ 512) = true →
                                            (true = true → within (ofN x.1) (List.length (List.drop 0 (List.take (Int.toNat 10) ws)))) ∧
                                              (true = true →
                                                  (0 < List.length x.2.2.2 ∧ ofN 0 ≤ 0) ∧
                                                    ((true &&
                                                            wrE false false 0 (ofN (List.length x.2.2.2)) 2
                                                                (ofN (List.length (List.getD (List.drop 0 (List.take (Int.toNat 10) ws)) (Int.toNat (ofN x.1)) (T.dflt (T.slc T.u8)))))
                                                                (ofN (List.length x.2.1)) !=
                                                              0) =
                                                          true →
                                                        false = true) ∧
                                                      ((true &&
                                                            wrE false false 0 (ofN (List.length x.2.2.2)) 2
                                                                (ofN (List.length (List.getD (List.drop 0 (List.take (Int.toNat 10) ws)) (Int.toNat (ofN x.1)) (T.dflt (T.slc T.u8)))))
                                                                (ofN (List.length x.2.1)) !=
                                                              0) =
                                                          false →
                                                        inI64 (ofN x.1 + 1) ∧
                                                          ∃ (x' : Nat × List (Int × List (BitVec 8)) × List (Int × Int) × List (List (BitVec 8))),
                                                            byS (List.drop 0 (List.take (Int.toNat 10) ws)) (List.drop 0 (List.take (Int.toNat 512) (wholeV (cutV first)))) x' ∧
                                                              List.length (List.drop 0 (List.take (Int.toNat 10) ws)) - x'.1 < List.length (List.drop 0 (List.take (Int.toNat 10) ws)) - x.1 ∧
                                                                ofN x.1 + 1 = ofN x'.1 ∧
                                                                  (false = false ∧
                                                                      false = false ∧
                                                                        wrLeft false false 0 (ofN (List.length x.2.2.2)) 2
                                                                            (ofN (List.length (List.getD (List.drop 0 (List.take (Int.toNat 10) ws)) (Int.toNat (ofN x.1)) (T.dflt (T.slc T.u8)))))
                                                                            (ofN (List.length x.2.1)) =
                                                                          0) ∧
                                                                    x.2.2.2 = x'.2.2.2 ∧
                                                                      wrO
                                                                            (wrE false false 0 (ofN (List.length x.2.2.2)) 2
                                                                              (ofN (List.length (List.getD (List.drop 0 (List.take (Int.toNat 10) ws)) (Int.toNat (ofN x.1)) (T.dflt (T.slc T.u8)))))
                                                                              (ofN (List.length x.2.1)))
                                                                            x.2.1 2 (List.getD (List.drop 0 (List.take (Int.toNat 10) ws)) (Int.toNat (ofN x.1)) (T.dflt (T.slc T.u8))) =
                                                                          x'.2.1 ∧
                                                                        wrM
                                                                            (wrE false false 0 (ofN (List.length x.2.2.2)) 2
                                                                              (ofN (List.length (List.getD (List.drop 0 (List.take (Int.toNat 10) ws)) (Int.toNat (ofN x.1)) (T.dflt (T.slc T.u8)))))
                                                                              (ofN (List.length x.2.1)))
                                                                            x.2.1 x.2.2.1 2 =
                                                                          x'.2.2.1)) ∧
                                                (true = false →
                                                  (false = true → false = true) ∧
                                                    (false = false →
                                                      inI64 (ofN x.1 + 1) ∧
                                                        ∃ (x' : Nat × List (Int × List (BitVec 8)) × List (Int × Int) × List (List (BitVec 8))),
                                                          byS (List.drop 0 (List.take (Int.toNat 10) ws)) (List.drop 0 (List.take (Int.toNat 512) (wholeV (cutV first)))) x' ∧
                                                            List.length (List.drop 0 (List.take (Int.toNat 10) ws)) - x'.1 < List.length (List.drop 0 (List.take (Int.toNat 10) ws)) - x.1 ∧
                                                              ofN x.1 + 1 = ofN x'.1 ∧ (false = false ∧ false = false ∧ ofN 0 = 0) ∧ x.2.2.2 = x'.2.2.2 ∧ x.2.1 = x'.2.1 ∧ x.2.2.1 = x'.2.2.1))) ∧
                                          (decide (ofN (List.length (List.getD (List.drop 0 (List.take (Int.toNat 10) ws)) (Int.toNat (ofN x.1)) (T.dflt (T.slc T.u8)))) ≤ 512) = false →
                                            (false = true → false = true) ∧
                                              (false = false →
                                                inI64 (ofN x.1 + 1) ∧
                                                  ∃ (x' : Nat × List (Int × List (BitVec 8)) × List (Int × Int) × List (List (BitVec 8))),
                                                    byS (List.drop 0 (List.take (Int.toNat 10) ws)) (List.drop 0 (List.take (Int.toNat 512) (wholeV (cutV first)))) x' ∧
                                                      List.length (List.drop 0 (List.take (Int.toNat 10) ws)) - x'.1 < List.length (List.drop 0 (List.take (Int.toNat 10) ws)) - x.1 ∧
                                                        ofN x.1 + 1 = ofN x'.1 ∧ (false = false ∧ false = false ∧ ofN 0 = 0) ∧ x.2.2.2 = x'.2.2.2 ∧ x.2.1 = x'.2.1 ∧ x.2.2.1 = x'.2.2.1))) ∧
                                    (decide (ofN x.1 < ofN (List.length (List.drop 0 (List.take (Int.toNat 10) ws)))) = false →
                                      (0 < List.length x.2.2.2 ∧ List.length x.2.2.2 ≤ 4096 ∧ false = false ∧ okOpen (List.length x.2.2.2) x.2.1) ∧
                                        (false = true → false = true) ∧
                                          (false = false →
                                            (0 < List.length (loseK keep torn at_ x.2.1 x.2.2.2 (List.length x.2.1)) ∧ okLast (List.length (nilOf (Int × List (BitVec 8)))) (nilOf (Int × Int))) ∧
                                              ((atV false (ofN (List.length (loseK keep torn at_ x.2.1 x.2.2.2 (List.length x.2.1)))) 2 != 0 ||
                                                      ofN (List.length (readV (loseK keep torn at_ x.2.1 x.2.2.2 (List.length x.2.1)) (nilOf (Int × List (BitVec 8))) (nilOf (Int × Int)) false 2)) !=
                                                        512) =
                                                    true →
                                                  false = true) ∧
                                                ((atV false (ofN (List.length (loseK keep torn at_ x.2.1 x.2.2.2 (List.length x.2.1)))) 2 != 0 ||
                                                      ofN (List.length (readV (loseK keep torn at_ x.2.1 x.2.2.2 (List.length x.2.1)) (nilOf (Int × List (BitVec 8))) (nilOf (Int × Int)) false 2)) !=
                                                        512) =
                                                    false →
                                                  (∃ (x : Nat), x ≤ 512 ∧ 0 = ofN x) ∧
                                                    ∀ (x_1 : Nat),
                                                      x_1 ≤ 512 →
                                                        (decide (ofN x_1 < 512) = true →
                                                            within (ofN x_1)
                                                                (List.length (readV (loseK keep torn at_ x.2.1 x.2.2.2 (List.length x.2.1)) (nilOf (Int × List (BitVec 8))) (nilOf (Int × Int)) false 2)) ∧
                                                              within (ofN x_1) (List.length (List.drop 0 (List.take (Int.toNat 512) (wholeV (cutV first))))) ∧
                                                                (∃ (x_2 : Bool × Nat),
                                                                    inS (List.drop 0 (List.take (Int.toNat 10) ws))
                                                                        (readV (loseK keep torn at_ x.2.1 x.2.2.2 (List.length x.2.1)) (nilOf (Int × List (BitVec 8))) (nilOf (Int × Int)) false 2)
                                                                        (List.drop 0 (List.take (Int.toNat 512) (wholeV (cutV first)))) (ofN x_1) x_2 ∧
                                                                      (List.getD (readV (loseK keep torn at_ x.2.1 x.2.2.2 (List.length x.2.1)) (nilOf (Int × List (BitVec 8))) (nilOf (Int × Int)) false 2)
                                                                              (Int.toNat (ofN x_1)) 0#8 ==
                                                                            List.getD (List.drop 0 (List.take (Int.toNat 512) (wholeV (cutV first)))) (Int.toNat (ofN x_1)) 0#8) =
                                                                          x_2.1 ∧
                                                                        0 = ofN x_2.2) ∧
                                                                  ∀ (x_2 : Bool × Nat),
                                                                    inS (List.drop 0 (List.take (Int.toNat 10) ws))
                                                                        (readV (loseK keep torn at_ x.2.1 x.2.2.2 (List.length x.2.1)) (nilOf (Int × List (BitVec 8))) (nilOf (Int × Int)) false 2)
                                                                        (List.drop 0 (List.take (Int.toNat 512) (wholeV (cutV first)))) (ofN x_1) x_2 →
                                                                      ((decide (ofN x_2.2 < ofN (List.length (List.drop 0 (List.take (Int.toNat 10) ws)))) && !x_2.1) = true →
                                                                          within (ofN x_2.2) (List.length (List.drop 0 (List.take (Int.toNat 10) ws))) ∧
                                                                            (decide
                                                                                    (ofN
                                                                                        (List.length
                                                                                          (List.getD (List.drop 0 (List.take (Int.toNat 10) ws)) (Int.toNat (ofN x_2.2)) (T.dflt (T.slc T.u8)))) ≤
                                                                                      512) =
                                                                                  true →
                                                                                within (ofN x_2.2) (List.length (List.drop 0 (List.take (Int.toNat 10) ws)))) ∧
                                                                              (decide
                                                                                      (ofN
                                                                                          (List.length
                                                                                            (List.getD (List.drop 0 (List.take (Int.toNat 10) ws)) (Int.toNat (ofN x_2.2)) (T.dflt (T.slc T.u8)))) ≤
                                                                                        512) =
                                                                                    true →
                                                                                  List.length (List.getD (List.drop 0 (List.take (Int.toNat 10) ws)) (Int.toNat (ofN x_2.2)) (T.dflt (T.slc T.u8))) ≤
                                                                                    100000) ∧
                                                                                (decide
                                                                                        (ofN
                                                                                            (List.length
                                                                                              (List.getD (List.drop 0 (List.take (Int.toNat 10) ws)) (Int.toNat (ofN x_2.2)) (T.dflt (T.slc T.u8)))) ≤
                                                                                          512) =
                                                                                      true →
                                                                                    within (ofN x_1)
                                                                                      (List.length
                                                                                        (wholeV (List.getD (List.drop 0 (List.take (Int.toNat 10) ws)) (Int.toNat (ofN x_2.2)) (T.dflt (T.slc T.u8)))))) ∧
                                                                                  (decide
                                                                                          (ofN
                                                                                              (List.length
                                                                                                (List.getD (List.drop 0 (List.take (Int.toNat 10) ws)) (Int.toNat (ofN x_2.2)) (T.dflt (T.slc T.u8)))) ≤
                                                                                            512) =
                                                                                        true →
                                                                                      within (ofN x_1)
                                                                                        (List.length
                                                                                          (readV (loseK keep torn at_ x.2.1 x.2.2.2 (List.length x.2.1)) (nilOf (Int × List (BitVec 8))) (nilOf (Int × Int))
                                                                                            false 2))) ∧
                                                                                    inI64 (ofN x_2.2 + 1) ∧
                                                                                      ∃ (x' : Bool × Nat),
                                                                                        inS (List.drop 0 (List.take (Int.toNat 10) ws))
                                                                                            (readV (loseK keep torn at_ x.2.1 x.2.2.2 (List.length x.2.1)) (nilOf (Int × List (BitVec 8)))
                                                                                              (nilOf (Int × Int)) false 2)
                                                                                            (List.drop 0 (List.take (Int.toNat 512) (wholeV (cutV first)))) (ofN x_1) x' ∧
                                                                                          List.length (List.drop 0 (List.take (Int.toNat 10) ws)) - x'.2 <
                                                                                              List.length (List.drop 0 (List.take (Int.toNat 10) ws)) - x_2.2 ∧
                                                                                            (decide
                                                                                                    (ofN
                                                                                                        (List.length
                                                                                                          (List.getD (List.drop 0 (List.take (Int.toNat 10) ws)) (Int.toNat (ofN x_2.2))
                                                                                                            (T.dflt (T.slc T.u8)))) ≤
                                                                                                      512) &&
                                                                                                  List.getD
                                                                                                      (wholeV
                                                                                                        (List.getD (List.drop 0 (List.take (Int.toNat 10) ws)) (Int.toNat (ofN x_2.2))
                                                                                                          (T.dflt (T.slc T.u8))))
                                                                                                      (Int.toNat (ofN x_1)) 0#8 ==
                                                                                                    List.getD
                                                                                                      (readV (loseK keep torn at_ x.2.1 x.2.2.2 (List.length x.2.1)) (nilOf (Int × List (BitVec 8)))
                                                                                                        (nilOf (Int × Int)) false 2)
                                                                                                      (Int.toNat (ofN x_1)) 0#8) =
                                                                                                x'.1 ∧
                                                                                              ofN x_2.2 + 1 = ofN x'.2) ∧
                                                                        ((decide (ofN x_2.2 < ofN (List.length (List.drop 0 (List.take (Int.toNat 10) ws)))) && !x_2.1) = false →
                                                                          ((!x_2.1) = true → false = true) ∧
                                                                            ((!x_2.1) = false → inI64 (ofN x_1 + 1) ∧ ∃ (x' : Nat), x' ≤ 512 ∧ 512 - x' < 512 - x_1 ∧ ofN x_1 + 1 = ofN x'))) ∧
                                                          (decide (ofN x_1 < 512) = false → true = true)))))) ∧
            (decide (10 < ofN (List.length ws)) = false →
              List.length (cutV first) ≤ 100000 ∧
                (ofN 0 ≤ 512 ∧ 512 ≤ ofN (List.length (wholeV (cutV first)))) ∧
                  (0 < List.length (List.replicate (Int.toNat 4) (T.dflt (T.arr 512 T.u8))) ∧ ofN 0 ≤ 0) ∧
                    ((wrE false false 0 (ofN (List.length (List.replicate (Int.toNat 4) (T.dflt (T.arr 512 T.u8))))) 2 (ofN (List.length (List.drop 0 (List.take (Int.toNat 512) (wholeV (cutV first))))))
                              (ofN (List.length (nilOf (Int × List (BitVec 8))))) !=
                            0) =
                          true →
                        false = true) ∧
                      ((wrE false false 0 (ofN (List.length (List.replicate (Int.toNat 4) (T.dflt (T.arr 512 T.u8))))) 2 (ofN (List.length (List.drop 0 (List.take (Int.toNat 512) (wholeV (cutV first))))))
                              (ofN (List.length (nilOf (Int × List (BitVec 8))))) !=
                            0) =
                          false →
                        (0 < List.length (List.replicate (Int.toNat 4) (T.dflt (T.arr 512 T.u8))) ∧
                            0 ≤
                                wrLeft false false 0 (ofN (List.length (List.replicate (Int.toNat 4) (T.dflt (T.arr 512 T.u8))))) 2
                                  (ofN (List.length (List.drop 0 (List.take (Int.toNat 512) (wholeV (cutV first)))))) (ofN (List.length (nilOf (Int × List (BitVec 8))))) ∧
                              okOpen (List.length (List.replicate (Int.toNat 4) (T.dflt (T.arr 512 T.u8))))
                                (wrO
                                  (wrE false false 0 (ofN (List.length (List.replicate (Int.toNat 4) (T.dflt (T.arr 512 T.u8))))) 2
                                    (ofN (List.length (List.drop 0 (List.take (Int.toNat 512) (wholeV (cutV first)))))) (ofN (List.length (nilOf (Int × List (BitVec 8))))))
                                  (nilOf (Int × List (BitVec 8))) 2 (List.drop 0 (List.take (Int.toNat 512) (wholeV (cutV first)))))) ∧
                          (∃ (x : Nat × List (Int × List (BitVec 8)) × List (Int × Int) × List (List (BitVec 8))),
                              byS ws (List.drop 0 (List.take (Int.toNat 512) (wholeV (cutV first)))) x ∧
                                0 = ofN x.1 ∧
                                  (false = false ∧
                                      false = false ∧
                                        syLeft false false
                                            (wrLeft false false 0 (ofN (List.length (List.replicate (Int.toNat 4) (T.dflt (T.arr 512 T.u8))))) 2
                                              (ofN (List.length (List.drop 0 (List.take (Int.toNat 512) (wholeV (cutV first)))))) (ofN (List.length (nilOf (Int × List (BitVec 8)))))) =
                                          0) ∧
                                    syF
                                          (syE false false
                                            (wrLeft false false 0 (ofN (List.length (List.replicate (Int.toNat 4) (T.dflt (T.arr 512 T.u8))))) 2
                                              (ofN (List.length (List.drop 0 (List.take (Int.toNat 512) (wholeV (cutV first)))))) (ofN (List.length (nilOf (Int × List (BitVec 8)))))))
                                          (wrO
                                            (wrE false false 0 (ofN (List.length (List.replicate (Int.toNat 4) (T.dflt (T.arr 512 T.u8))))) 2
                                              (ofN (List.length (List.drop 0 (List.take (Int.toNat 512) (wholeV (cutV first)))))) (ofN (List.length (nilOf (Int × List (BitVec 8))))))
                                            (nilOf (Int × List (BitVec 8))) 2 (List.drop 0 (List.take (Int.toNat 512) (wholeV (cutV first)))))
                                          (List.replicate (Int.toNat 4) (T.dflt (T.arr 512 T.u8))) =
                                        x.2.2.2 ∧
                                      syO
                                            (syE false false
                                              (wrLeft false false 0 (ofN (List.length (List.replicate (Int.toNat 4) (T.dflt (T.arr 512 T.u8))))) 2
                                                (ofN (List.length (List.drop 0 (List.take (Int.toNat 512) (wholeV (cutV first)))))) (ofN (List.length (nilOf (Int × List (BitVec 8)))))))
                                            (wrO
                                              (wrE false false 0 (ofN (List.length (List.replicate (Int.toNat 4) (T.dflt (T.arr 512 T.u8))))) 2
                                                (ofN (List.length (List.drop 0 (List.take (Int.toNat 512) (wholeV (cutV first)))))) (ofN (List.length (nilOf (Int × List (BitVec 8))))))
                                              (nilOf (Int × List (BitVec 8))) 2 (List.drop 0 (List.take (Int.toNat 512) (wholeV (cutV first))))) =
                                          x.2.1 ∧
                                        syM
                                            (syE false false
                                              (wrLeft false false 0 (ofN (List.length (List.replicate (Int.toNat 4) (T.dflt (T.arr 512 T.u8))))) 2
                                                (ofN (List.length (List.drop 0 (List.take (Int.toNat 512) (wholeV (cutV first)))))) (ofN (List.length (nilOf (Int × List (BitVec 8)))))))
                                            (wrM
                                              (wrE false false 0 (ofN (List.length (List.replicate (Int.toNat 4) (T.dflt (T.arr 512 T.u8))))) 2
                                                (ofN (List.length (List.drop 0 (List.take (Int.toNat 512) (wholeV (cutV first)))))) (ofN (List.length (nilOf (Int × List (BitVec 8))))))
                                              (nilOf (Int × List (BitVec 8))) (nilOf (Int × Int)) 2) =
                                          x.2.2.1) ∧
                            ∀ (x : Nat × List (Int × List (BitVec 8)) × List (Int × Int) × List (List (BitVec 8))),
                              byS ws (List.drop 0 (List.take (Int.toNat 512) (wholeV (cutV first)))) x →
                                (decide (ofN x.1 < ofN (List.length ws)) = true →
                                    within (ofN x.1) (List.length ws) ∧
                                      (decide (ofN (List.length (List.getD ws (Int.toNat (ofN x.1)) (T.dflt (T.slc T.u8)))) ≤ 512) = true →
                                          (true = true → within (ofN x.1) (List.length ws)) ∧
                                            (true = true →
                                                (0 < List.length x.2.2.2 ∧ ofN 0 ≤ 0) ∧
                                                  ((true &&
                                                          wrE false false 0 (ofN (List.length x.2.2.2)) 2 (ofN (List.length (List.getD ws (Int.toNat (ofN x.1)) (T.dflt (T.slc T.u8)))))
                                                              (ofN (List.length x.2.1)) !=
                                                            0) =
                                                        true →
                                                      false = true) ∧
                                                    ((true &&
                                                          wrE false false 0 (ofN (List.length x.2.2.2)) 2 (ofN (List.length (List.getD ws (Int.toNat (ofN x.1)) (T.dflt (T.slc T.u8)))))
                                                              (ofN (List.length x.2.1)) !=
                                                            0) =
                                                        false →
                                                      inI64 (ofN x.1 + 1) ∧
                                                        ∃ (x' : Nat × List (Int × List (BitVec 8)) × List (Int × Int) × List (List (BitVec 8))),
                                                          byS ws (List.drop 0 (List.take (Int.toNat 512) (wholeV (cutV first)))) x' ∧
                                                            List.length ws - x'.1 < List.length ws - x.1 ∧
                                                              ofN x.1 + 1 = ofN x'.1 ∧
                                                                (false = false ∧
                                                                    false = false ∧
                                                                      wrLeft false false 0 (ofN (List.length x.2.2.2)) 2 (ofN (List.length (List.getD ws (Int.toNat (ofN x.1)) (T.dflt (T.slc T.u8)))))
                                                                          (ofN (List.length x.2.1)) =
                                                                        0) ∧
                                                                  x.2.2.2 = x'.2.2.2 ∧
                                                                    wrO
                                                                          (wrE false false 0 (ofN (List.length x.2.2.2)) 2 (ofN (List.length (List.getD ws (Int.toNat (ofN x.1)) (T.dflt (T.slc T.u8)))))
                                                                            (ofN (List.length x.2.1)))
                                                                          x.2.1 2 (List.getD ws (Int.toNat (ofN x.1)) (T.dflt (T.slc T.u8))) =
                                                                        x'.2.1 ∧
                                                                      wrM
                                                                          (wrE false false 0 (ofN (List.length x.2.2.2)) 2 (ofN (List.length (List.getD ws (Int.toNat (ofN x.1)) (T.dflt (T.slc T.u8)))))
                                                                            (ofN (List.length x.2.1)))
                                                                          x.2.1 x.2.2.1 2 =
                                                                        x'.2.2.1)) ∧
                                              (true = false →
                                                (false = true → false = true) ∧
                                                  (false = false →
                                                    inI64 (ofN x.1 + 1) ∧
                                                      ∃ (x' : Nat × List (Int × List (BitVec 8)) × List (Int × Int) × List (List (BitVec 8))),
                                                        byS ws (List.drop 0 (List.take (Int.toNat 512) (wholeV (cutV first)))) x' ∧
                                                          List.length ws - x'.1 < List.length ws - x.1 ∧
                                                            ofN x.1 + 1 = ofN x'.1 ∧ (false = false ∧ false = false ∧ ofN 0 = 0) ∧ x.2.2.2 = x'.2.2.2 ∧ x.2.1 = x'.2.1 ∧ x.2.2.1 = x'.2.2.1))) ∧
                                        (decide (ofN (List.length (List.getD ws (Int.toNat (ofN x.1)) (T.dflt (T.slc T.u8)))) ≤ 512) = false →
                                          (false = true → false = true) ∧
                                            (false = false →
                                              inI64 (ofN x.1 + 1) ∧
                                                ∃ (x' : Nat × List (Int × List (BitVec 8)) × List (Int × Int) × List (List (BitVec 8))),
                                                  byS ws (List.drop 0 (List.take (Int.toNat 512) (wholeV (cutV first)))) x' ∧
                                                    List.length ws - x'.1 < List.length ws - x.1 ∧
                                                      ofN x.1 + 1 = ofN x'.1 ∧ (false = false ∧ false = false ∧ ofN 0 = 0) ∧ x.2.2.2 = x'.2.2.2 ∧ x.2.1 = x'.2.1 ∧ x.2.2.1 = x'.2.2.1))) ∧
                                  (decide (ofN x.1 < ofN (List.length ws)) = false →
                                    (0 < List.length x.2.2.2 ∧ List.length x.2.2.2 ≤ 4096 ∧ false = false ∧ okOpen (List.length x.2.2.2) x.2.1) ∧
                                      (false = true → false = true) ∧
                                        (false = false →
                                          (0 < List.length (loseK keep torn at_ x.2.1 x.2.2.2 (List.length x.2.1)) ∧ okLast (List.length (nilOf (Int × List (BitVec 8)))) (nilOf (Int × Int))) ∧
                                            ((atV false (ofN (List.length (loseK keep torn at_ x.2.1 x.2.2.2 (List.length x.2.1)))) 2 != 0 ||
                                                    ofN (List.length (readV (loseK keep torn at_ x.2.1 x.2.2.2 (List.length x.2.1)) (nilOf (Int × List (BitVec 8))) (nilOf (Int × Int)) false 2)) != 512) =
                                                  true →
                                                false = true) ∧
                                              ((atV false (ofN (List.length (loseK keep torn at_ x.2.1 x.2.2.2 (List.length x.2.1)))) 2 != 0 ||
                                                    ofN (List.length (readV (loseK keep torn at_ x.2.1 x.2.2.2 (List.length x.2.1)) (nilOf (Int × List (BitVec 8))) (nilOf (Int × Int)) false 2)) != 512) =
                                                  false →
                                                (∃ (x : Nat), x ≤ 512 ∧ 0 = ofN x) ∧
                                                  ∀ (x_1 : Nat),
                                                    x_1 ≤ 512 →
                                                      (decide (ofN x_1 < 512) = true →
                                                          within (ofN x_1)
                                                              (List.length (readV (loseK keep torn at_ x.2.1 x.2.2.2 (List.length x.2.1)) (nilOf (Int × List (BitVec 8))) (nilOf (Int × Int)) false 2)) ∧
                                                            within (ofN x_1) (List.length (List.drop 0 (List.take (Int.toNat 512) (wholeV (cutV first))))) ∧
                                                              (∃ (x_2 : Bool × Nat),
                                                                  inS ws (readV (loseK keep torn at_ x.2.1 x.2.2.2 (List.length x.2.1)) (nilOf (Int × List (BitVec 8))) (nilOf (Int × Int)) false 2)
                                                                      (List.drop 0 (List.take (Int.toNat 512) (wholeV (cutV first)))) (ofN x_1) x_2 ∧
                                                                    (List.getD (readV (loseK keep torn at_ x.2.1 x.2.2.2 (List.length x.2.1)) (nilOf (Int × List (BitVec 8))) (nilOf (Int × Int)) false 2)
                                                                            (Int.toNat (ofN x_1)) 0#8 ==
                                                                          List.getD (List.drop 0 (List.take (Int.toNat 512) (wholeV (cutV first)))) (Int.toNat (ofN x_1)) 0#8) =
                                                                        x_2.1 ∧
                                                                      0 = ofN x_2.2) ∧
                                                                ∀ (x_2 : Bool × Nat),
                                                                  inS ws (readV (loseK keep torn at_ x.2.1 x.2.2.2 (List.length x.2.1)) (nilOf (Int × List (BitVec 8))) (nilOf (Int × Int)) false 2)
                                                                      (List.drop 0 (List.take (Int.toNat 512) (wholeV (cutV first)))) (ofN x_1) x_2 →
                                                                    ((decide (ofN x_2.2 < ofN (List.length ws)) && !x_2.1) = true →
                                                                        within (ofN x_2.2) (List.length ws) ∧
                                                                          (decide (ofN (List.length (List.getD ws (Int.toNat (ofN x_2.2)) (T.dflt (T.slc T.u8)))) ≤ 512) = true →
                                                                              within (ofN x_2.2) (List.length ws)) ∧
                                                                            (decide (ofN (List.length (List.getD ws (Int.toNat (ofN x_2.2)) (T.dflt (T.slc T.u8)))) ≤ 512) = true →
                                                                                List.length (List.getD ws (Int.toNat (ofN x_2.2)) (T.dflt (T.slc T.u8))) ≤ 100000) ∧
                                                                              (decide (ofN (List.length (List.getD ws (Int.toNat (ofN x_2.2)) (T.dflt (T.slc T.u8)))) ≤ 512) = true →
                                                                                  within (ofN x_1) (List.length (wholeV (List.getD ws (Int.toNat (ofN x_2.2)) (T.dflt (T.slc T.u8)))))) ∧
                                                                                (decide (ofN (List.length (List.getD ws (Int.toNat (ofN x_2.2)) (T.dflt (T.slc T.u8)))) ≤ 512) = true →
                                                                                    within (ofN x_1)
                                                                                      (List.length
                                                                                        (readV (loseK keep torn at_ x.2.1 x.2.2.2 (List.length x.2.1)) (nilOf (Int × List (BitVec 8))) (nilOf (Int × Int))
                                                                                          false 2))) ∧
                                                                                  inI64 (ofN x_2.2 + 1) ∧
                                                                                    ∃ (x' : Bool × Nat),
                                                                                      inS ws
                                                                                          (readV (loseK keep torn at_ x.2.1 x.2.2.2 (List.length x.2.1)) (nilOf (Int × List (BitVec 8))) (nilOf (Int × Int))
                                                                                            false 2)
                                                                                          (List.drop 0 (List.take (Int.toNat 512) (wholeV (cutV first)))) (ofN x_1) x' ∧
                                                                                        List.length ws - x'.2 < List.length ws - x_2.2 ∧
                                                                                          (decide (ofN (List.length (List.getD ws (Int.toNat (ofN x_2.2)) (T.dflt (T.slc T.u8)))) ≤ 512) &&
                                                                                                List.getD (wholeV (List.getD ws (Int.toNat (ofN x_2.2)) (T.dflt (T.slc T.u8)))) (Int.toNat (ofN x_1)) 0#8 ==
                                                                                                  List.getD
                                                                                                    (readV (loseK keep torn at_ x.2.1 x.2.2.2 (List.length x.2.1)) (nilOf (Int × List (BitVec 8)))
                                                                                                      (nilOf (Int × Int)) false 2)
                                                                                                    (Int.toNat (ofN x_1)) 0#8) =
                                                                                              x'.1 ∧
                                                                                            ofN x_2.2 + 1 = ofN x'.2) ∧
                                                                      ((decide (ofN x_2.2 < ofN (List.length ws)) && !x_2.1) = false →
                                                                        ((!x_2.1) = true → false = true) ∧
                                                                          ((!x_2.1) = false → inI64 (ofN x_1 + 1) ∧ ∃ (x' : Nat), x' ≤ 512 ∧ 512 - x' < 512 - x_1 ∧ ofN x_1 + 1 = ofN x'))) ∧
                                                        (decide (ofN x_1 < 512) = false → true = true))))))) := by
  refine ⟨by decide, fun q => q, fun _ => ⟨fun q => ⟨⟨by decide, by have : (10 : Int) < (ws.length : Int) := by simpa using q
                                                                    show (10 : Int) ≤ (ws.length : Int); omega⟩, ?ga⟩, fun q => ?gb⟩⟩
  case' ga =>
    have hW : (List.drop 0 (List.take (Int.toNat 10) ws)).length ≤ 10 := by rw [List.drop_zero, List.length_take]; exact Nat.min_le_left _ _
    generalize List.drop 0 (List.take (Int.toNat 10) ws) = W at hW ⊢
  case' gb =>
    have hW : ws.length ≤ 10 := by
      have : ¬ (10 : Int) < (ws.length : Int) := by simpa using q
      omega
    clear q
    generalize ws = W at hW ⊢
  all_goals
    have hF : (List.drop 0 (List.take (Int.toNat 512) (wholeV (cutV first)))).length = 512 := by
      rw [List.drop_zero, List.length_take]
      exact Nat.min_eq_left (wholeV_len _)
    have hwl := wholeV_len (cutV first)
    refine ⟨cutV_len _, ⟨by decide, by show (512 : Int) ≤ ((wholeV (cutV first)).length : Int); omega⟩, ?_⟩
    generalize List.drop 0 (List.take (Int.toNat 512) (wholeV (cutV first))) = F at hF ⊢
    have hn : List.length (List.replicate (Int.toNat 4) (T.dflt (T.arr 512 T.u8))) = 4 := by rw [List.length_replicate]; rfl
    rw [hn, hF]
    have hE : wrE false false 0 (ofN 4) 2 (ofN 512) (ofN (List.length (nilOf (Int × List (BitVec 8))))) = 0 := rfl
    rw [hE, wrLeft0]
    refine ⟨⟨by decide, by decide⟩, fun q => absurd q (by decide), fun _ => ⟨⟨by decide, by decide, ?_⟩, ⟨(0, [], [], (List.replicate (Int.toNat 4) T_Blk.dflt).set 2 (wholeV F)), ⟨Nat.zero_le _, Nat.zero_le _, okLast_nil, fun w h => (by cases h), by rw [List.length_set]; exact hn, ?_⟩, rfl, ⟨rfl, rfl, rfl⟩, rfl, rfl, rfl⟩, fun x hx => ?_⟩⟩
    · intro w hw
      have : w ∈ [((2 : Int), wholeV F)] := hw
      simp only [List.mem_singleton] at this
      subst this
      exact ⟨by show (0 : Int) ≤ 2; decide, by show (2 : Int) < ((4 : Nat) : Int); decide⟩
    · dsimp only
      rw [getD_set _ _ _ _ (by rw [List.length_replicate]; decide), wholeV_self hF]
    · obtain ⟨k, opn, last, fast⟩ := x
      obtain ⟨h1, h2, h3, h4, h5, h6⟩ := hx
      dsimp only at h1 h2 h3 h4 h5 h6 ⊢
      have hopn : ∀ w ∈ opn, wrOf W w := h4
      have hko : opn.length ≤ 10 := by omega
      refine ⟨fun q2 => ?_, fun q2 => ?_⟩
      · have hk : k < W.length := by simpa using q2
        have hwi : within (ofN k) W.length := ⟨by show (0 : Int) ≤ (k : Int); omega, by show (k : Int) < (W.length : Int); omega⟩
        have h64 : inI64 (ofN k + 1) := by show inI64 ((k : Int) + 1); unfold inI64; omega
        have hmem : List.getD W (Int.toNat (ofN k)) (T.dflt (T.slc T.u8)) ∈ W := by
          show List.getD W k (T.dflt (T.slc T.u8)) ∈ W
          rw [getD_at _ _ _ hk]; exact List.getElem_mem hk
        generalize List.getD W (Int.toNat (ofN k)) (T.dflt (T.slc T.u8)) = b at hmem ⊢
        have same : ∀ k', k' = k + 1 → byS W F (k', opn, last, fast) := fun k' e => by
          subst e; exact ⟨hk, by dsimp only; omega, h3, h4, h5, h6⟩
        refine ⟨hwi, fun q3 => ?_, fun q3 => ?_⟩
        · have hb : b.length ≤ 512 := by
            have : ofN b.length ≤ 512 := by simpa using q3
            have : (b.length : Int) ≤ 512 := this
            omega
          rw [h5]
          have hE2 : wrE false false 0 (ofN 4) 2 (ofN b.length) (ofN opn.length) = 0 := wrE_zero (by decide) (by decide) (by show (b.length : Int) ≤ 512; omega) (by show (opn.length : Int) < 65536; omega)
          rw [hE2, wrLeft0]
          refine ⟨fun _ => hwi, fun _ => ⟨⟨by decide, by decide⟩, fun q => absurd q (by decide), fun _ => ⟨h64, (k + 1, opn ++ [(2, wholeV b)], mput .i64 last 2 opn.length, fast), ⟨hk, by simp; omega, ?_, ?_, h5, h6⟩, by dsimp only; omega, rfl, ⟨rfl, rfl, rfl⟩, rfl, rfl, rfl⟩⟩, fun q => (by cases q)⟩
          · exact okLast_wr (e := 0) (j := 2) (b := b) h3
          · intro w hw
            simp only [List.mem_append, List.mem_singleton] at hw
            rcases hw with hw | rfl
            · exact h4 w hw
            · exact ⟨rfl, b, hmem, hb, rfl⟩
        · exact ⟨fun q => q, fun _ => ⟨h64, (k + 1, opn, last, fast), same _ rfl, by dsimp only; omega, rfl, ⟨rfl, rfl, rfl⟩, rfl, rfl, rfl⟩⟩
      · have hby : byF W F ((loseK keep torn at_ opn fast opn.length).getD 2 T_Blk.dflt) := lose_by h5 hF h6 h4 _ (Nat.le_refl _)
        have hll : (loseK keep torn at_ opn fast opn.length).length = 4 := by rw [loseK_len]; exact h5
        have hrd : readV (loseK keep torn at_ opn fast opn.length) (nilOf (Int × List (BitVec 8))) (nilOf (Int × Int)) false 2 = (loseK keep torn at_ opn fast opn.length).getD 2 T_Blk.dflt := by
          unfold readV
          rw [hll]; rfl
        refine ⟨⟨by omega, by omega, rfl, fun w hw => ?_⟩, fun q => q, fun _ => ?_⟩
        · obtain ⟨w1, _⟩ := h4 w hw
          rw [w1, h5]; exact ⟨by decide, by decide⟩
        rw [hrd]
        generalize (loseK keep torn at_ opn fast opn.length).getD 2 T_Blk.dflt = B at hby ⊢
        rw [hll, hby.1]
        refine ⟨⟨by decide, okLast_nil⟩, fun q => absurd q (by decide), fun _ => ⟨⟨0, Nat.zero_le _, rfl⟩, fun y hy => ⟨fun q3 => ?_, fun _ => rfl⟩⟩⟩
        have hy5 : y < 512 := by
          have h : (y : Int) < 512 := of_decide_eq_true q3
          omega
        have hwy : within (ofN y) 512 := ⟨by show (0 : Int) ≤ (y : Int); omega, by show (y : Int) < ((512 : Nat) : Int); omega⟩
        refine ⟨hwy, hwy, ⟨(B.getD y 0#8 == F.getD y 0#8, 0), ⟨Nat.zero_le _, fun h => ⟨h, fun j hj => by cases hj⟩⟩, rfl, rfl⟩, fun z hz => ?_⟩
        obtain ⟨ok, j⟩ := z
        obtain ⟨z1, z2⟩ := hz
        dsimp only at z1 z2 ⊢
        refine ⟨fun q4 => ?_, fun q4 => ?_⟩
        · simp only [Bool.and_eq_true, Bool.not_eq_true', decide_eq_true_eq] at q4
          have hj : j < W.length := by
            have : (j : Int) < (W.length : Int) := q4.1
            omega
          have hok := q4.2
          have hwj : within (ofN j) W.length := ⟨by show (0 : Int) ≤ (j : Int); omega, by show (j : Int) < (W.length : Int); omega⟩
          have hmt : mt9 W B (ofN y) j = (decide (ofN (List.length (List.getD W (Int.toNat (ofN j)) (T.dflt (T.slc T.u8)))) ≤ 512) && List.getD (wholeV (List.getD W (Int.toNat (ofN j)) (T.dflt (T.slc T.u8)))) (Int.toNat (ofN y)) 0#8 == List.getD B (Int.toNat (ofN y)) 0#8) := by
            unfold mt9
            congr 1
            exact decide_eq_decide.2 ⟨fun h => by show ((List.getD W j []).length : Int) ≤ 512; omega, fun h => by have h' : ((List.getD W j []).length : Int) ≤ 512 := h; omega⟩
          have hln : decide (ofN (List.length (List.getD W (Int.toNat (ofN j)) (T.dflt (T.slc T.u8)))) ≤ 512) = true → List.length (List.getD W (Int.toNat (ofN j)) (T.dflt (T.slc T.u8))) ≤ 512 := fun h => by
            have h' : ((List.getD W (Int.toNat (ofN j)) (T.dflt (T.slc T.u8))).length : Int) ≤ 512 := of_decide_eq_true h
            omega
          refine ⟨hwj, fun _ => hwj, fun h => Nat.le_trans (hln h) (by decide), fun h => ?_, fun _ => hwy, by show inI64 ((j : Int) + 1); unfold inI64; omega, (mt9 W B (ofN y) j, j + 1), ⟨hj, fun h => ⟨(z2 hok).1, fun i hi => ?_⟩⟩, by dsimp only; omega, hmt.symm, rfl⟩
          · rw [wholeV_len2 (hln h)]; exact hwy
          · by_cases hij : i = j
            · subst hij; exact h
            · exact (z2 hok).2 i (by dsimp only at hi; omega)
        · refine ⟨fun q5 => ?_, fun _ => ⟨by show inI64 ((y : Int) + 1); unfold inI64; omega, y + 1, hy5, by omega, rfl⟩⟩
          exfalso
          have hok : ok = false := by simpa using q5
          subst hok
          have hj : j = W.length := by
            have : ¬ (j : Int) < (W.length : Int) := by simpa using q4
            omega
          subst hj
          obtain ⟨e1, e2⟩ := z2 rfl
          rcases hby.2 y hy5 with h | ⟨w, hw, hw2, hw3⟩
          · have : (B.getD y 0#8 == F.getD y 0#8) = false := e1
            rw [h] at this
            simp at this
          · obtain ⟨i, hi, rfl⟩ := List.getElem_of_mem hw
            have := e2 i hi
            unfold mt9 at this
            rw [show List.getD W i [] = W[i] from getD_at _ _ _ hi, decide_eq_true hw2, show Int.toNat (ofN y) = y from rfl, hw3] at this
            simp at this

theorem law9_DiskBytes_spec : Vse.Spec P f_law09_DiskBytes (c_lw [.slc .u8, .slc (.slc .u8), .slc .bool, .i64, .i64]) := spec_fn (l := [(f_disk_New, c_New), (f_disk_Disk_Write, c_Write), (f_disk_Disk_Sync, c_Sync), (f_disk_Disk_Lose, c_Lose), (f_disk_Disk_Read, c_Read), (f_law09_cut, c_cut), (f_ref09_Whole, c_Whole), (f_law09_alive, c_alive)]) ⟨disk_New_spec, disk_Write_spec, disk_Sync_spec, disk_Lose_spec, disk_Read_spec, law9_cut_spec, ref9_Whole_spec, law9_alive_spec, trivial⟩ h_law09_DiskBytes rfl rfl fun x _ ok => by
  obtain ⟨first, ws, keep, torn, at_, _⟩ := x
  exact body_ok an_By (law9_DiskBytes_vc first ws keep torn at_) (by kernel_rfl)

end Go.Sal
