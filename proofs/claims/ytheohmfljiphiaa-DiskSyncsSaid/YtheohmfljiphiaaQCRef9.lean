/- The document's device: contracts of its methods. -/
import Derived.Test.YtheohmfljiphiaaQCLaw9
set_option maxRecDepth 100000
namespace Go.Sal
open Go.Vse Go.Sal.Nm

abbrev T_B : T := .slc .u8
abbrev T_rW : T := .pair .i64 T_B
abbrev T_fsR : List OF := [.row 28 T_B, .row 80 T_rW, .dat .bool, .dat .bool, .dat .i64]
abbrev T_R := ofds T_fsR
def okB (L : List (List (BitVec 8))) (W : List (Int × List (BitVec 8))) : Prop := (∀ b ∈ L, b.length = 512) ∧ ∀ w ∈ W, w.2.length = 512
def pwB (set : Bool) (left : Int) : Bool := !(set && decide (left = 0))
def holdsK (L : List (List (BitVec 8))) (W : List (Int × List (BitVec 8))) (i : Int) : Nat → List (BitVec 8)
  | 0 => L.getD i.toNat []
  | k + 1 => bif (W.getD k (0, [])).1 == i then (W.getD k (0, [])).2 else holdsK L W i k
def holdsV (L : List (List (BitVec 8))) (W : List (Int × List (BitVec 8))) (i : Int) : List (BitVec 8) := holdsK L W i W.length
def rReadV (down : Bool) (L : List (List (BitVec 8))) (W : List (Int × List (BitVec 8))) (i : Int) : List (BitVec 8) := bif decide (atV down L.length i = 0) then holdsV L W i else []
def an_R : Ann := { at_ := fun _ _ => none, pins := [1, 2, 3], prune := 1 }
def c_rAsked : PC := gM T_fsR [.i64] fun d x => ⟨none, .sv (.dv (.i64 (atV d.2.2.1 d.1.length x.1))), oObj T_fsR 2 d⟩
def c_rPower : PC := gM T_fsR [] fun d _ => ⟨some (leP 0 d.2.2.2.2.1), .sv (.dv (.bool (pwB d.2.2.2.1 d.2.2.2.2.1))), oObj T_fsR 2 (d.1, d.2.1, d.2.2.1, d.2.2.2.1, powL d.2.2.2.1 d.2.2.2.2.1, ())⟩
def c_rHolds : PC := gM T_fsR [.i64] fun d x => ⟨some (leP 0 x.1 ∧ x.1 < d.1.length ∧ okB d.1 d.2.1), .sv (.dv (.imm .u8 (holdsV d.1 d.2.1 x.1))), oObj T_fsR 2 d⟩
def c_rRead : PC := gM T_fsR [.i64] fun d x => ⟨some (okB d.1 d.2.1), .tup [.dv (.imm .u8 (rReadV d.2.2.1 d.1 d.2.1 x.1)), .dv (.i64 (atV d.2.2.1 d.1.length x.1))], oObj T_fsR 2 d⟩
def x_rwr (L : List (List (BitVec 8))) (W : List (Int × List (BitVec 8))) (down set : Bool) (left i : Int) (b : List (BitVec 8)) (e : Int) : T_R := (L, wrO e W i b, down, set, wrLeft down set left L.length i b.length W.length, ())
def an_RW : Ann := { at_ := fun _ _ => none, prune := 1 }
def c_rWrite : PC := gM T_fsR [.i64, .slc .u8] fun d x => ⟨some (leP 0 d.2.2.2.2.1), .sv (.dv (.i64 (wrE d.2.2.1 d.2.2.2.1 d.2.2.2.2.1 d.1.length x.1 x.2.1.length d.2.1.length))),
  oObj T_fsR 12 (x_rwr d.1 d.2.1 d.2.2.1 d.2.2.2.1 d.2.2.2.2.1 x.1 x.2.1 (wrE d.2.2.1 d.2.2.2.1 d.2.2.2.2.1 d.1.length x.1 x.2.1.length d.2.1.length))⟩
def x_rsy (L : List (List (BitVec 8))) (W : List (Int × List (BitVec 8))) (down set : Bool) (left : Int) : T_R := (syF (syE down set left) W L, syO (syE down set left) W, down, set, syLeft down set left, ())
def an_rSyL (L : List (List (BitVec 8))) (W : List (Int × List (BitVec 8))) : Nat → SState → Option LoopAnn
  | 7, _ => some { X := Nat, slots := fun k => [(5, .sv (.dv (.i64 (ofN k))))], objs := fun k => [(2, .row 28 T_B.size T_B (syncK W L k) false)], inv := fun k => k ≤ W.length, meas := fun k => W.length - k }
  | _, _ => none
def an_rSy (L : List (List (BitVec 8))) (W : List (Int × List (BitVec 8))) : Ann := { at_ := an_rSyL L W, prune := 1 }
def c_rSync : PC := gM T_fsR [] fun d _ => ⟨some (leP 0 d.2.2.2.2.1 ∧ okOpen d.1.length d.2.1), .tup [.dv (.i64 (syN (syE d.2.2.1 d.2.2.2.1 d.2.2.2.2.1) d.2.1)), .dv (.i64 (syE d.2.2.1 d.2.2.2.1 d.2.2.2.2.1))],
  oObj T_fsR 12 (x_rsy d.1 d.2.1 d.2.2.1 d.2.2.2.1 d.2.2.2.2.1)⟩
def c_rOpen : PC := gM T_fsR [] fun d _ => ⟨none, .sv (.dv (.i64 (opV d.2.2.1 d.2.1.length))), oObj T_fsR 2 d⟩
def c_rFuse : PC := gM T_fsR [.i64] fun d x => ⟨none, .sv (.dv (.i64 (askV d.2.2.1))), oObj T_fsR 2 (d.1, d.2.1, d.2.2.1, fuS d.2.2.1 d.2.2.2.1 x.1, fuL d.2.2.1 d.2.2.2.2.1 x.1, ())⟩
def an_rHoL (L : List (List (BitVec 8))) (W : List (Int × List (BitVec 8))) (i : Int) : Nat → SState → Option LoopAnn
  | 3, _ => some { X := Nat, slots := fun k => [(6, .sv (.dv (.i64 (ofN k)))), (5, .sv (.dv (.imm .u8 (holdsK L W i k))))], objs := fun _ => [], inv := fun k => k ≤ W.length, meas := fun k => W.length - k }
  | _, _ => none
def an_rHo (L : List (List (BitVec 8))) (W : List (Int × List (BitVec 8))) (i : Int) : Ann := { at_ := an_rHoL L W i, prune := 1, pins := [1, 2, 3] }
def x_rlost (keep : List Bool) (torn at_ : Int) (L : List (List (BitVec 8))) (W : List (Int × List (BitVec 8))) : T_R := (loseK keep torn at_ W L W.length, [], false, false, 0, ())
def an_rLoL (keep : List Bool) (torn at_ : Int) (L : List (List (BitVec 8))) (W : List (Int × List (BitVec 8))) : Nat → SState → Option LoopAnn
  | 6, S => some { X := Nat, slots := fun k => [(11, .sv (.dv (.i64 (ofN k))))], objs := fun k => x_oAt T_fsR (x_cel S 10) 12 (L.take k, [], false, false, 0, ()), inv := fun k => k ≤ L.length, meas := fun k => L.length - k }
  | 13, S => some { X := Nat, slots := fun k => [(13, .sv (.dv (.i64 (ofN k))))], objs := fun k => [(x_rowOf S 10 0, .row 28 T_B.size T_B (loseK keep torn at_ W L k) false)], inv := fun k => k ≤ W.length, meas := fun k => W.length - k }
  | _, _ => none
def an_rLo (keep : List Bool) (torn at_ : Int) (L : List (List (BitVec 8))) (W : List (Int × List (BitVec 8))) : Ann := { at_ := an_rLoL keep torn at_ L W, prune := 1, pins := [1, 2, 3] }
def c_rLose : PC := gM T_fsR [.slc .bool, .i64, .i64] fun d x => ⟨some (d.1.length ≤ 4096 ∧ eqP d.2.2.1 false ∧ okOpen d.1.length d.2.1 ∧ okB d.1 d.2.1), .tup [.ref (.cell 20 [] 0), .dv (.i64 0)],
  app (oObj T_fsR 2 (d.1, d.2.1, true, d.2.2.2.1, d.2.2.2.2.1, ())) (x_oAt T_fsR 20 21 (x_rlost x.1 x.2.1 x.2.2.1 d.1 d.2.1))⟩
def x_rnew (n : Nat) : T_R := (List.replicate n T_Blk.dflt, [], false, false, 0, ())
def an_rNewL (n : Int) : Nat → SState → Option LoopAnn
  | 5, S => some { X := Nat, slots := fun k => [(5, .sv (.dv (.i64 (ofN k))))], objs := fun k => x_oAt T_fsR (x_cel S 4) 12 (x_rnew k), inv := fun k => k ≤ n.toNat, meas := fun k => n.toNat - k }
  | _, _ => none
def an_rNew (n : Int) : Ann := { at_ := an_rNewL n, prune := 1 }
def c_rNew : PC := gF [.i64] fun x => ⟨some (leP 4 x.1 ∧ leP x.1 4096), .tup [.ref (.cell 1 [] 0), .dv (.i64 0)], oObj T_fsR 12 (x_rnew x.1.toNat)⟩

theorem ref9_asked_vc (L : List (List (BitVec 8))) (W : List (Int × List (BitVec 8))) (down set : Bool) (left i : Int) :
    (down = true → 91 = atV down (ofN (List.length L)) i ∧ (down = down ∧ set = set ∧ left = left) ∧ L = L ∧ W = W) ∧
      (down = false →
        ((decide (i < 0) || decide (ofN (List.length L) ≤ i)) = true → 5 = atV down (ofN (List.length L)) i ∧ (down = down ∧ set = set ∧ left = left) ∧ L = L ∧ W = W) ∧
          ((decide (i < 0) || decide (ofN (List.length L) ≤ i)) = false → 0 = atV down (ofN (List.length L)) i ∧ (down = down ∧ set = set ∧ left = left) ∧ L = L ∧ W = W)) := by
  refine ⟨fun q => ?_, fun q => ⟨fun q2 => ?_, fun q2 => ?_⟩⟩ <;> subst q
  · exact ⟨rfl, ⟨rfl, rfl, rfl⟩, rfl, rfl⟩
  · refine ⟨?_, ⟨rfl, rfl, rfl⟩, rfl, rfl⟩
    unfold atV
    have : (decide (i < 0) || decide ((L.length : Int) ≤ i)) = true := q2
    rw [cond_false, this]; rfl
  · refine ⟨?_, ⟨rfl, rfl, rfl⟩, rfl, rfl⟩
    unfold atV
    have : (decide (i < 0) || decide ((L.length : Int) ≤ i)) = false := q2
    rw [cond_false, this]; rfl

theorem ref9_power_vc (L : List (List (BitVec 8))) (W : List (Int × List (BitVec 8))) (down set : Bool) (left : Int) (h : 0 ≤ left) (h2 : inI64 left) :
    ((set && left == 0) = true → false = pwB set left ∧ (down = down ∧ set = set ∧ left = powL set left) ∧ L = L ∧ W = W) ∧
      ((set && left == 0) = false → inI64 (left - 1) ∧ true = pwB set left ∧ (down = down ∧ set = set ∧ max (left - 1) 0 = powL set left) ∧ L = L ∧ W = W) := by
  unfold pwB powL
  refine ⟨fun q => ?_, fun q => ?_⟩
  · have q' : (set && decide (left = 0)) = true := q
    rw [q']; exact ⟨rfl, ⟨rfl, rfl, rfl⟩, rfl, rfl⟩
  · have q' : (set && decide (left = 0)) = false := q
    rw [q']; exact ⟨by unfold inI64 at h2 ⊢; omega, rfl, ⟨rfl, rfl, rfl⟩, rfl, rfl⟩

theorem holdsK_len {L : List (List (BitVec 8))} {W : List (Int × List (BitVec 8))} {i : Int} (hb : okB L W) (hi : i.toNat < L.length) : ∀ k, k ≤ W.length → (holdsK L W i k).length = 512
  | 0, _ => by
    show (L.getD i.toNat []).length = 512
    rw [getD_at _ _ _ hi]
    exact hb.1 _ (List.getElem_mem hi)
  | k + 1, h => by
    show (bif (W.getD k (0, [])).1 == i then (W.getD k (0, [])).2 else holdsK L W i k).length = 512
    cases (W.getD k (0, [])).1 == i with
    | true =>
      rw [cond_true, getD_at _ _ _ (show k < W.length by omega)]
      exact hb.2 _ (List.getElem_mem _)
    | false => exact holdsK_len hb hi k (by omega)

theorem ref9_Holds_vc (L : List (List (BitVec 8))) (W : List (Int × List (BitVec 8))) (down set : Bool) (left i : Int) (h0 : 0 ≤ i) (h1 : i < L.length) (hb : okB L W) (hm : W.length ≤ maxLen) :
    within i (List.length L) ∧
      Int.toNat i < List.length L ∧
        (∃ (x : Nat), x ≤ List.length W ∧ 0 = ofN x ∧ List.getD L (Int.toNat i) (T.dflt (T.slc T.u8)) = holdsK L W i x) ∧
          ∀ (x : Nat),
            x ≤ List.length W →
              (decide (ofN x < ofN (List.length W)) = true →
                  within (ofN x) (List.length W) ∧
                    Int.toNat (ofN x) < List.length W ∧
                      (((List.getD W (Int.toNat (ofN x)) (T.dflt (T.pair T.i64 (T.slc T.u8)))).1 == i) = true →
                          within (ofN x) (List.length W) ∧
                            Int.toNat (ofN x) < List.length W ∧
                              inI64 (ofN x + 1) ∧
                                ∃ (x' : Nat),
                                  x' ≤ List.length W ∧
                                    List.length W - x' < List.length W - x ∧ ofN x + 1 = ofN x' ∧ (List.getD W (Int.toNat (ofN x)) (T.dflt (T.pair T.i64 (T.slc T.u8)))).2 = holdsK L W i x') ∧
                        (((List.getD W (Int.toNat (ofN x)) (T.dflt (T.pair T.i64 (T.slc T.u8)))).1 == i) = false →
                          inI64 (ofN x + 1) ∧ ∃ (x' : Nat), x' ≤ List.length W ∧ List.length W - x' < List.length W - x ∧ ofN x + 1 = ofN x' ∧ holdsK L W i x = holdsK L W i x')) ∧
                (decide (ofN x < ofN (List.length W)) = false →
                  List.length (nilOf (BitVec 8)) + List.length (holdsK L W i x) ≤ ROOM ∧ nilOf (BitVec 8) ++ holdsK L W i x = holdsV L W i ∧ (down = down ∧ set = set ∧ left = left) ∧ L = L ∧ W = W) := by
  have hlt : i.toNat < L.length := by omega
  refine ⟨⟨h0, h1⟩, hlt, ⟨0, Nat.zero_le _, rfl, rfl⟩, fun x hx => ⟨fun q => ?_, fun q => ?_⟩⟩
  · have hx2 : x < W.length := by
      have h : (x : Int) < (W.length : Int) := of_decide_eq_true q
      omega
    have hw : within (ofN x) W.length := ⟨by show (0 : Int) ≤ (x : Int); omega, by show (x : Int) < (W.length : Int); omega⟩
    have h64 : inI64 (ofN x + 1) := by show inI64 ((x : Int) + 1); unfold inI64; unfold maxLen at hm; omega
    have step : holdsK L W i (x + 1) = bif (W.getD x (0, [])).1 == i then (W.getD x (0, [])).2 else holdsK L W i x := rfl
    refine ⟨hw, hx2, fun q2 => ⟨hw, hx2, h64, x + 1, hx2, by omega, rfl, ?_⟩, fun q2 => ⟨h64, x + 1, hx2, by omega, rfl, ?_⟩⟩
    · have q3 : ((W.getD x (0, [])).1 == i) = true := q2
      rw [step, q3]; rfl
    · have q3 : ((W.getD x (0, [])).1 == i) = false := q2
      rw [step, q3]; rfl
  · have hx2 : x = W.length := by
      have h : ¬ (x : Int) < (W.length : Int) := of_decide_eq_false q
      omega
    subst hx2
    have hl := holdsK_len hb hlt W.length (Nat.le_refl _)
    exact ⟨by rw [hl]; show 0 + 512 ≤ ROOM; decide, rfl, ⟨rfl, rfl, rfl⟩, rfl, rfl⟩

theorem at_zero {down : Bool} {n i : Int} (q' : atV down n i = 0) : 0 ≤ i ∧ i < n := by
  unfold atV at q'
  cases down
  · simp only [cond_false] at q'
    cases hb : (decide (i < 0) || decide (n ≤ i)) with
    | true => rw [hb] at q'; simp at q'
    | false => simp at hb; omega
  · simp at q'

theorem ref9_Read_vc (L : List (List (BitVec 8))) (W : List (Int × List (BitVec 8))) (down set : Bool) (left i : Int) (hb : okB L W) :
    ((atV down (ofN (List.length L)) i != 0) = true →
        (nilOf (BitVec 8) = rReadV down L W i ∧ atV down (ofN (List.length L)) i = atV down (ofN (List.length L)) i) ∧ (down = down ∧ set = set ∧ left = left) ∧ L = L ∧ W = W) ∧
      ((atV down (ofN (List.length L)) i != 0) = false →
        (0 ≤ i ∧ i < ofN (List.length L) ∧ okB L W) ∧ (holdsV L W i = rReadV down L W i ∧ 0 = atV down (ofN (List.length L)) i) ∧ (down = down ∧ set = set ∧ left = left) ∧ L = L ∧ W = W) := by
  refine ⟨fun q => ?_, fun q => ?_⟩
  · have q' : decide (atV down L.length i = 0) = false := by simpa using q
    exact ⟨⟨by unfold rReadV; rw [q']; rfl, rfl⟩, ⟨rfl, rfl, rfl⟩, rfl, rfl⟩
  · have q' : atV down L.length i = 0 := by simpa using q
    have hi : 0 ≤ i ∧ i < (L.length : Int) := at_zero q'
    exact ⟨⟨hi.1, hi.2, hb⟩, ⟨by unfold rReadV; rw [decide_eq_true q']; rfl, q'.symm⟩, ⟨rfl, rfl, rfl⟩, rfl, rfl⟩

theorem ref9_Write_vc (L : List (List (BitVec 8))) (W : List (Int × List (BitVec 8))) (down set : Bool) (left i : Int) (b : List (BitVec 8)) (h0 : 0 ≤ left) (hb : b.length ≤ LIM) :
    ((atV down (ofN (List.length L)) i != 0) = true →
        atV down (ofN (List.length L)) i = wrE down set left (ofN (List.length L)) i (ofN (List.length b)) (ofN (List.length W)) ∧
          (down = down ∧ set = set ∧ left = wrLeft down set left (ofN (List.length L)) i (ofN (List.length b)) (ofN (List.length W))) ∧
            L = L ∧ W = wrO (wrE down set left (ofN (List.length L)) i (ofN (List.length b)) (ofN (List.length W))) W i b) ∧
      ((atV down (ofN (List.length L)) i != 0) = false →
        (decide (512 < ofN (List.length b)) = true →
            2 = wrE down set left (ofN (List.length L)) i (ofN (List.length b)) (ofN (List.length W)) ∧
              (down = down ∧ set = set ∧ left = wrLeft down set left (ofN (List.length L)) i (ofN (List.length b)) (ofN (List.length W))) ∧
                L = L ∧ W = wrO (wrE down set left (ofN (List.length L)) i (ofN (List.length b)) (ofN (List.length W))) W i b) ∧
          (decide (512 < ofN (List.length b)) = false →
            (decide (65536 ≤ ofN (List.length W)) = true →
                3 = wrE down set left (ofN (List.length L)) i (ofN (List.length b)) (ofN (List.length W)) ∧
                  (down = down ∧ set = set ∧ left = wrLeft down set left (ofN (List.length L)) i (ofN (List.length b)) (ofN (List.length W))) ∧
                    L = L ∧ W = wrO (wrE down set left (ofN (List.length L)) i (ofN (List.length b)) (ofN (List.length W))) W i b) ∧
              (decide (65536 ≤ ofN (List.length W)) = false →
                0 ≤ left ∧
                  ((!pwB set left) = true →
                      92 = wrE down set left (ofN (List.length L)) i (ofN (List.length b)) (ofN (List.length W)) ∧
                        (down = down ∧ set = set ∧ powL set left = wrLeft down set left (ofN (List.length L)) i (ofN (List.length b)) (ofN (List.length W))) ∧
                          L = L ∧ W = wrO (wrE down set left (ofN (List.length L)) i (ofN (List.length b)) (ofN (List.length W))) W i b) ∧
                    ((!pwB set left) = false →
                      List.length b ≤ 100000 ∧
                        List.length W + List.length [(i, wholeV b)] ≤ ROOM ∧
                          0 = wrE down set left (ofN (List.length L)) i (ofN (List.length b)) (ofN (List.length W)) ∧
                            (down = down ∧ set = set ∧ powL set left = wrLeft down set left (ofN (List.length L)) i (ofN (List.length b)) (ofN (List.length W))) ∧
                              L = L ∧ W ++ [(i, wholeV b)] = wrO (wrE down set left (ofN (List.length L)) i (ofN (List.length b)) (ofN (List.length W))) W i b)))) := by
  refine ⟨fun q => ?_, fun q => ⟨fun q2 => ?_, fun q2 => ⟨fun q3 => ?_, fun q3 => ⟨h0, fun q4 => ?_, fun q4 => ?_⟩⟩⟩⟩
  · have hA : decide (atV down L.length i = 0) = false := by simpa using q
    have wA : wrA down L.length i b.length W.length = atV down L.length i := by unfold wrA; rw [hA]; rfl
    have wE : wrE down set left L.length i b.length W.length = atV down L.length i := by unfold wrE; rw [wA, hA]; rfl
    have wL : wrLeft down set left L.length i b.length W.length = left := by unfold wrLeft; rw [wA, hA]; rfl
    exact ⟨wE.symm, ⟨rfl, rfl, wL.symm⟩, rfl, by unfold wrO; rw [wE, hA]; rfl⟩
  all_goals have hA : decide (atV down L.length i = 0) = true := by simpa using q
  · have wA : wrA down L.length i b.length W.length = 2 := by unfold wrA; rw [hA, cond_true, show decide ((b.length : Int) > 512) = true from q2]; rfl
    have wE : wrE down set left L.length i b.length W.length = 2 := by unfold wrE; rw [wA]; rfl
    have wL : wrLeft down set left L.length i b.length W.length = left := by unfold wrLeft; rw [wA]; rfl
    exact ⟨wE.symm, ⟨rfl, rfl, wL.symm⟩, rfl, by unfold wrO; rw [wE]; rfl⟩
  · have wA : wrA down L.length i b.length W.length = 3 := by unfold wrA; rw [hA, cond_true, show decide ((b.length : Int) > 512) = false from q2, cond_false, show decide ((W.length : Int) ≥ 65536) = true from q3]; rfl
    have wE : wrE down set left L.length i b.length W.length = 3 := by unfold wrE; rw [wA]; rfl
    have wL : wrLeft down set left L.length i b.length W.length = left := by unfold wrLeft; rw [wA]; rfl
    exact ⟨wE.symm, ⟨rfl, rfl, wL.symm⟩, rfl, by unfold wrO; rw [wE]; rfl⟩
  all_goals
    have wA : wrA down L.length i b.length W.length = 0 := by unfold wrA; rw [hA, cond_true, show decide ((b.length : Int) > 512) = false from q2, cond_false, show decide ((W.length : Int) ≥ 65536) = false from q3]; rfl
    have wE : wrE down set left L.length i b.length W.length = powV set left := by unfold wrE; rw [wA]; rfl
    have wL : wrLeft down set left L.length i b.length W.length = powL set left := by unfold wrLeft; rw [wA]; rfl
  · have hP : powV set left = 92 := by
      unfold pwB at q4; unfold powV
      have : (set && decide (left = 0)) = true := by simpa using q4
      rw [this]; rfl
    exact ⟨by rw [wE, hP], ⟨rfl, rfl, wL.symm⟩, rfl, by unfold wrO; rw [wE, hP]; rfl⟩
  · have hP : powV set left = 0 := by
      unfold pwB at q4; unfold powV
      have : (set && decide (left = 0)) = false := by
        cases h : (set && decide (left = 0)) with
        | true => rw [h] at q4; simp at q4
        | false => rfl
      rw [this]; rfl
    have h2 : b.length ≤ 512 := by
      have h : ¬ (512 : Int) < (b.length : Int) := of_decide_eq_false q2
      omega
    have h3 : W.length < 65536 := by
      have h : ¬ (65536 : Int) ≤ (W.length : Int) := of_decide_eq_false q3
      omega
    refine ⟨by omega, by simp [ROOM]; omega, by rw [wE, hP], ⟨rfl, rfl, wL.symm⟩, rfl, by unfold wrO; rw [wE, hP]; rfl⟩

theorem ref9_Sync_vc (L : List (List (BitVec 8))) (W : List (Int × List (BitVec 8))) (down set : Bool) (left : Int) (h0 : 0 ≤ left) (hm : W.length ≤ maxLen) (hl : okOpen L.length W) :
    (down = true → (0 = syN (syE down set left) W ∧ 91 = syE down set left) ∧ (down = down ∧ set = set ∧ left = syLeft down set left) ∧ L = syF (syE down set left) W L ∧ W = syO (syE down set left) W) ∧
      (down = false →
        0 ≤ left ∧
          ((!pwB set left) = true →
              (0 = syN (syE down set left) W ∧ 92 = syE down set left) ∧
                (down = down ∧ set = set ∧ powL set left = syLeft down set left) ∧ L = syF (syE down set left) W L ∧ W = syO (syE down set left) W) ∧
            ((!pwB set left) = false →
              (∃ (x : Nat), x ≤ List.length W ∧ 0 = ofN x ∧ L = syncK W L x) ∧
                ∀ (x : Nat),
                  x ≤ List.length W →
                    (decide (ofN x < ofN (List.length W)) = true →
                        within (ofN x) (List.length W) ∧
                          Int.toNat (ofN x) < List.length W ∧
                            within (ofN x) (List.length W) ∧
                              Int.toNat (ofN x) < List.length W ∧
                                within (List.getD W (Int.toNat (ofN x)) (T.dflt (T.pair T.i64 (T.slc T.u8)))).1 (List.length (syncK W L x)) ∧
                                  Int.toNat (List.getD W (Int.toNat (ofN x)) (T.dflt (T.pair T.i64 (T.slc T.u8)))).1 < List.length (syncK W L x) ∧
                                    inI64 (ofN x + 1) ∧
                                      ∃ (x' : Nat),
                                        x' ≤ List.length W ∧
                                          List.length W - x' < List.length W - x ∧
                                            ofN x + 1 = ofN x' ∧
                                              List.set (syncK W L x) (Int.toNat (List.getD W (Int.toNat (ofN x)) (T.dflt (T.pair T.i64 (T.slc T.u8)))).1)
                                                  (List.getD W (Int.toNat (ofN x)) (T.dflt (T.pair T.i64 (T.slc T.u8)))).2 =
                                                syncK W L x') ∧
                      (decide (ofN x < ofN (List.length W)) = false →
                        (ofN (List.length W) = syN (syE down set left) W ∧ 0 = syE down set left) ∧
                          (down = down ∧ set = set ∧ powL set left = syLeft down set left) ∧ syncK W L x = syF (syE down set left) W L ∧ syO (syE down set left) W = nilOf (Int × List (BitVec 8))))) := by
  have len := fun k => syncK_len W L k
  refine ⟨fun q => ?_, fun q => ⟨h0, fun q2 => ?_, fun q2 => ⟨⟨0, Nat.zero_le _, rfl, rfl⟩, fun x hx => ⟨fun q3 => ?_, fun q3 => ?_⟩⟩⟩⟩ <;> subst q
  · exact ⟨⟨rfl, rfl⟩, ⟨rfl, rfl, rfl⟩, rfl, rfl⟩
  · have hP : powV set left = 92 := by
      unfold pwB at q2; unfold powV
      have : (set && decide (left = 0)) = true := by simpa using q2
      rw [this]; rfl
    have hE : syE false set left = 92 := hP
    rw [hE]
    exact ⟨⟨rfl, rfl⟩, ⟨rfl, rfl, rfl⟩, rfl, rfl⟩
  · have hlt : x < W.length := by
      have h : (x : Int) < (W.length : Int) := of_decide_eq_true q3
      omega
    have hw : within (ofN x) W.length := ⟨by show (0 : Int) ≤ (x : Int); omega, by show (x : Int) < (W.length : Int); omega⟩
    have h64 : inI64 (ofN x + 1) := by show inI64 ((x : Int) + 1); unfold inI64; unfold maxLen at hm; omega
    have hg : W.getD x (0, T_Blk.dflt) = W[x] := getD_at _ _ _ hlt
    have hg2 : W.getD (Int.toNat (ofN x)) (T.dflt (T.pair T.i64 (T.slc T.u8))) = W[x] := getD_at _ _ _ hlt
    have step : syncK W L (x + 1) = (syncK W L x).set (W.getD x (0, T_Blk.dflt)).1.toNat (W.getD x (0, T_Blk.dflt)).2 := rfl
    have hr := hl _ (List.getElem_mem hlt)
    rw [hg2]
    rw [hg] at step
    exact ⟨hw, hlt, hw, hlt, ⟨hr.1, by rw [len]; exact hr.2⟩, by rw [len]; omega, h64, x + 1, hlt, by omega, rfl, step.symm⟩
  · have hx2 : x = W.length := by
      have h : ¬ (x : Int) < (W.length : Int) := of_decide_eq_false q3
      omega
    subst hx2
    have hP : powV set left = 0 := by
      unfold pwB at q2; unfold powV
      have : (set && decide (left = 0)) = false := by
        cases h : (set && decide (left = 0)) with
        | true => rw [h] at q2; simp at q2
        | false => rfl
      rw [this]; rfl
    have hE : syE false set left = 0 := hP
    rw [hE]
    exact ⟨⟨rfl, rfl⟩, ⟨rfl, rfl, rfl⟩, rfl, rfl⟩

theorem ref9_Open_vc (L : List (List (BitVec 8))) (W : List (Int × List (BitVec 8))) (down set : Bool) (left : Int) :
    (down = true → 0 = opV down (ofN (List.length W)) ∧ (down = down ∧ set = set ∧ left = left) ∧ L = L ∧ W = W) ∧
      (down = false → ofN (List.length W) = opV down (ofN (List.length W)) ∧ (down = down ∧ set = set ∧ left = left) ∧ L = L ∧ W = W) := by
  refine ⟨fun q => ?_, fun q => ?_⟩ <;> subst q <;> exact ⟨rfl, ⟨rfl, rfl, rfl⟩, rfl, rfl⟩

theorem ref9_Fuse_vc (L : List (List (BitVec 8))) (W : List (Int × List (BitVec 8))) (down set : Bool) (left n : Int) :
    (down = true → 91 = askV down ∧ (down = down ∧ set = fuS down set n ∧ left = fuL down left n) ∧ L = L ∧ W = W) ∧
      (down = false → 0 = askV down ∧ (down = down ∧ decide (0 ≤ n) = fuS down set n ∧ max n 0 = fuL down left n) ∧ L = L ∧ W = W) := by
  refine ⟨fun q => ?_, fun q => ?_⟩ <;> subst q <;> exact ⟨rfl, ⟨rfl, rfl, rfl⟩, rfl, rfl⟩

theorem lose_len {keep : List Bool} {torn at_ : Int} {L : List (List (BitVec 8))} {W : List (Int × List (BitVec 8))} (hb : okB L W) (hl : okOpen L.length W) : ∀ k, k ≤ W.length → ∀ j, j < L.length → ((loseK keep torn at_ W L k).getD j T_Blk.dflt).length = 512
  | 0, _, j, hj => by
    show (L.getD j T_Blk.dflt).length = 512
    rw [getD_at _ _ _ hj]; exact hb.1 _ (List.getElem_mem hj)
  | k + 1, h, j, hj => by
    have ih := lose_len (keep := keep) (torn := torn) (at_ := at_) hb hl k (by omega)
    have hlt : k < W.length := by omega
    show ((loseStep keep torn at_ k (W.getD k (0, T_Blk.dflt)) (loseK keep torn at_ W L k)).getD j T_Blk.dflt).length = 512
    rw [getD_at _ _ _ hlt]
    have hr := hl _ (List.getElem_mem hlt)
    have h5 := hb.2 _ (List.getElem_mem hlt)
    generalize W[k] = w at hr h5 ⊢
    have hwn : w.1.toNat < (loseK keep torn at_ W L k).length := by rw [loseK_len]; omega
    have hset : ∀ v : List (BitVec 8), v.length = 512 → (((loseK keep torn at_ W L k).set w.1.toNat v).getD j T_Blk.dflt).length = 512 := fun v hv => by
      by_cases hj2 : w.1.toNat = j
      · subst hj2; rw [getD_set _ _ _ _ hwn]; exact hv
      · have : ((loseK keep torn at_ W L k).set w.1.toNat v).getD j T_Blk.dflt = (loseK keep torn at_ W L k).getD j T_Blk.dflt := by
          simp [List.getD, List.getElem?_set, hj2]
        rw [this]; exact ih j hj
    unfold loseStep
    cases decide ((k : Int) = torn) with
    | true =>
      cases decide (0 < at_) with
      | true =>
        refine hset _ ?_
        have h1 := ih w.1.toNat (by omega)
        unfold spliceL
        simp only [List.length_append, List.length_drop, List.take_zero, List.length_nil, List.length_take, h1, h5]
        omega
      | false => exact ih j hj
    | false =>
      cases keep.getD k false with
      | true => exact hset _ h5
      | false => exact ih j hj

theorem torn_eq {o wb : List (BitVec 8)} (ho : o.length = 512) (hw : wb.length = 512) (n : Nat) (hn : n ≤ 512) : nilOf (BitVec 8) ++ List.drop 0 (List.take n wb) ++ List.drop n (List.take 512 o) = spliceL o (List.take n wb) 0 := by
  unfold spliceL
  rw [List.take_zero, List.nil_append, List.drop_zero, Nat.zero_add, List.length_take, hw, Nat.min_eq_left hn, List.take_of_length_le (Nat.le_of_eq ho)]
  rfl

theorem ref9_Lose_vc (L : List (List (BitVec 8))) (W : List (Int × List (BitVec 8))) (set : Bool) (left : Int) (keep : List Bool) (torn at_ : Int) (h4 : L.length ≤ 4096) (hm : W.length ≤ maxLen) (hl : okOpen L.length W) (hb : okB L W) :
    (false = true → False) ∧
      (false = false →
        (∃ (x : Nat),
            x ≤ List.length L ∧ 0 = ofN x ∧ (false = false ∧ false = false ∧ ofN 0 = 0) ∧ List.take x L = nilOf (List (BitVec 8)) ∧ nilOf (Int × List (BitVec 8)) = nilOf (Int × List (BitVec 8))) ∧
          ∀ (x : Nat),
            x ≤ List.length L →
              (decide (ofN x < ofN (List.length L)) = true →
                  within (ofN x) (List.length L) ∧
                    Int.toNat (ofN x) < List.length L ∧
                      List.length (nilOf (BitVec 8)) + List.length (List.getD L (Int.toNat (ofN x)) (T.dflt (T.slc T.u8))) ≤ ROOM ∧
                        List.length (List.take x L) + List.length [nilOf (BitVec 8) ++ List.getD L (Int.toNat (ofN x)) (T.dflt (T.slc T.u8))] ≤ ROOM ∧
                          inI64 (ofN x + 1) ∧
                            ∃ (x' : Nat),
                              x' ≤ List.length L ∧
                                List.length L - x' < List.length L - x ∧
                                  ofN x + 1 = ofN x' ∧
                                    (false = false ∧ false = false ∧ ofN 0 = 0) ∧
                                      List.take x L ++ [nilOf (BitVec 8) ++ List.getD L (Int.toNat (ofN x)) (T.dflt (T.slc T.u8))] = List.take x' L ∧
                                        nilOf (Int × List (BitVec 8)) = nilOf (Int × List (BitVec 8))) ∧
                (decide (ofN x < ofN (List.length L)) = false →
                  (decide (0 < at_) = true →
                      ofN 513 ≠ 0 ∧
                        (∃ (x_1 : Nat), x_1 ≤ List.length W ∧ 0 = ofN x_1 ∧ List.take x L = loseK keep torn at_ W L x_1) ∧
                          ∀ (x : Nat),
                            x ≤ List.length W →
                              (decide (ofN x < ofN (List.length W)) = true →
                                  within (ofN x) (List.length W) ∧
                                    Int.toNat (ofN x) < List.length W ∧
                                      ((ofN x == torn) = true →
                                          (0 ≤ Int.tmod at_ 513 ∧ Int.tmod at_ 513 ≤ ofN (List.length (List.getD W (Int.toNat (ofN x)) (T.dflt (T.pair T.i64 (T.slc T.u8)))).2)) ∧
                                            List.length (nilOf (BitVec 8)) +
                                                  List.length (List.drop 0 (List.take (Int.toNat (Int.tmod at_ 513)) (List.getD W (Int.toNat (ofN x)) (T.dflt (T.pair T.i64 (T.slc T.u8)))).2)) ≤
                                                ROOM ∧
                                              within (List.getD W (Int.toNat (ofN x)) (T.dflt (T.pair T.i64 (T.slc T.u8)))).1 (List.length (loseK keep torn at_ W L x)) ∧
                                                Int.toNat (List.getD W (Int.toNat (ofN x)) (T.dflt (T.pair T.i64 (T.slc T.u8)))).1 < List.length (loseK keep torn at_ W L x) ∧
                                                  (0 ≤ Int.tmod at_ 513 ∧
                                                      Int.tmod at_ 513 ≤
                                                        ofN
                                                          (List.length
                                                            (List.getD (loseK keep torn at_ W L x) (Int.toNat (List.getD W (Int.toNat (ofN x)) (T.dflt (T.pair T.i64 (T.slc T.u8)))).1)
                                                              (T.dflt (T.slc T.u8))))) ∧
                                                    List.length
                                                            (nilOf (BitVec 8) ++
                                                              List.drop 0 (List.take (Int.toNat (Int.tmod at_ 513)) (List.getD W (Int.toNat (ofN x)) (T.dflt (T.pair T.i64 (T.slc T.u8)))).2)) +
                                                          List.length
                                                            (List.drop (Int.toNat (Int.tmod at_ 513))
                                                              (List.take
                                                                (List.length
                                                                  (List.getD (loseK keep torn at_ W L x) (Int.toNat (List.getD W (Int.toNat (ofN x)) (T.dflt (T.pair T.i64 (T.slc T.u8)))).1)
                                                                    (T.dflt (T.slc T.u8))))
                                                                (List.getD (loseK keep torn at_ W L x) (Int.toNat (List.getD W (Int.toNat (ofN x)) (T.dflt (T.pair T.i64 (T.slc T.u8)))).1)
                                                                  (T.dflt (T.slc T.u8))))) ≤
                                                        ROOM ∧
                                                      within (List.getD W (Int.toNat (ofN x)) (T.dflt (T.pair T.i64 (T.slc T.u8)))).1 (List.length (loseK keep torn at_ W L x)) ∧
                                                        Int.toNat (List.getD W (Int.toNat (ofN x)) (T.dflt (T.pair T.i64 (T.slc T.u8)))).1 < List.length (loseK keep torn at_ W L x) ∧
                                                          inI64 (ofN x + 1) ∧
                                                            ∃ (x' : Nat),
                                                              x' ≤ List.length W ∧
                                                                List.length W - x' < List.length W - x ∧
                                                                  ofN x + 1 = ofN x' ∧
                                                                    List.set (loseK keep torn at_ W L x) (Int.toNat (List.getD W (Int.toNat (ofN x)) (T.dflt (T.pair T.i64 (T.slc T.u8)))).1)
                                                                        (nilOf (BitVec 8) ++
                                                                            List.drop 0
                                                                              (List.take (Int.toNat (Int.tmod at_ 513)) (List.getD W (Int.toNat (ofN x)) (T.dflt (T.pair T.i64 (T.slc T.u8)))).2) ++
                                                                          List.drop (Int.toNat (Int.tmod at_ 513))
                                                                            (List.take
                                                                              (List.length
                                                                                (List.getD (loseK keep torn at_ W L x) (Int.toNat (List.getD W (Int.toNat (ofN x)) (T.dflt (T.pair T.i64 (T.slc T.u8)))).1)
                                                                                  (T.dflt (T.slc T.u8))))
                                                                              (List.getD (loseK keep torn at_ W L x) (Int.toNat (List.getD W (Int.toNat (ofN x)) (T.dflt (T.pair T.i64 (T.slc T.u8)))).1)
                                                                                (T.dflt (T.slc T.u8))))) =
                                                                      loseK keep torn at_ W L x') ∧
                                        ((ofN x == torn) = false →
                                          (decide (ofN x < ofN (List.length keep)) = true → within (ofN x) (List.length keep)) ∧
                                            ((decide (ofN x < ofN (List.length keep)) && List.getD keep (Int.toNat (ofN x)) (T.dflt T.bool)) = true →
                                                List.length (nilOf (BitVec 8)) + List.length (List.getD W (Int.toNat (ofN x)) (T.dflt (T.pair T.i64 (T.slc T.u8)))).2 ≤ ROOM ∧
                                                  within (List.getD W (Int.toNat (ofN x)) (T.dflt (T.pair T.i64 (T.slc T.u8)))).1 (List.length (loseK keep torn at_ W L x)) ∧
                                                    Int.toNat (List.getD W (Int.toNat (ofN x)) (T.dflt (T.pair T.i64 (T.slc T.u8)))).1 < List.length (loseK keep torn at_ W L x) ∧
                                                      inI64 (ofN x + 1) ∧
                                                        ∃ (x' : Nat),
                                                          x' ≤ List.length W ∧
                                                            List.length W - x' < List.length W - x ∧
                                                              ofN x + 1 = ofN x' ∧
                                                                List.set (loseK keep torn at_ W L x) (Int.toNat (List.getD W (Int.toNat (ofN x)) (T.dflt (T.pair T.i64 (T.slc T.u8)))).1)
                                                                    (nilOf (BitVec 8) ++ (List.getD W (Int.toNat (ofN x)) (T.dflt (T.pair T.i64 (T.slc T.u8)))).2) =
                                                                  loseK keep torn at_ W L x') ∧
                                              ((decide (ofN x < ofN (List.length keep)) && List.getD keep (Int.toNat (ofN x)) (T.dflt T.bool)) = false →
                                                inI64 (ofN x + 1) ∧
                                                  ∃ (x' : Nat),
                                                    x' ≤ List.length W ∧ List.length W - x' < List.length W - x ∧ ofN x + 1 = ofN x' ∧ loseK keep torn at_ W L x = loseK keep torn at_ W L x'))) ∧
                                (decide (ofN x < ofN (List.length W)) = false →
                                  ofN 0 = 0 ∧
                                    (true = true ∧ set = set ∧ left = left) ∧
                                      L = L ∧
                                        W = W ∧
                                          (false = false ∧ false = false ∧ ofN 0 = 0) ∧
                                            loseK keep torn at_ W L x = loseK keep torn at_ W L (List.length W) ∧ nilOf (Int × List (BitVec 8)) = nilOf (Int × List (BitVec 8)))) ∧
                    (decide (0 < at_) = false →
                      (∃ (x_1 : Nat), x_1 ≤ List.length W ∧ 0 = ofN x_1 ∧ List.take x L = loseK keep torn at_ W L x_1) ∧
                        ∀ (x : Nat),
                          x ≤ List.length W →
                            (decide (ofN x < ofN (List.length W)) = true →
                                within (ofN x) (List.length W) ∧
                                  Int.toNat (ofN x) < List.length W ∧
                                    ((ofN x == torn) = true →
                                        (ofN 0 ≤ 0 ∧ 0 ≤ ofN (List.length (List.getD W (Int.toNat (ofN x)) (T.dflt (T.pair T.i64 (T.slc T.u8)))).2)) ∧
                                          List.length (nilOf (BitVec 8)) + List.length (List.drop 0 (List.take (Int.toNat 0) (List.getD W (Int.toNat (ofN x)) (T.dflt (T.pair T.i64 (T.slc T.u8)))).2)) ≤
                                              ROOM ∧
                                            within (List.getD W (Int.toNat (ofN x)) (T.dflt (T.pair T.i64 (T.slc T.u8)))).1 (List.length (loseK keep torn at_ W L x)) ∧
                                              Int.toNat (List.getD W (Int.toNat (ofN x)) (T.dflt (T.pair T.i64 (T.slc T.u8)))).1 < List.length (loseK keep torn at_ W L x) ∧
                                                (ofN 0 ≤ 0 ∧
                                                    0 ≤
                                                      ofN
                                                        (List.length
                                                          (List.getD (loseK keep torn at_ W L x) (Int.toNat (List.getD W (Int.toNat (ofN x)) (T.dflt (T.pair T.i64 (T.slc T.u8)))).1)
                                                            (T.dflt (T.slc T.u8))))) ∧
                                                  List.length (nilOf (BitVec 8) ++ List.drop 0 (List.take (Int.toNat 0) (List.getD W (Int.toNat (ofN x)) (T.dflt (T.pair T.i64 (T.slc T.u8)))).2)) +
                                                        List.length
                                                          (List.drop (Int.toNat 0)
                                                            (List.take
                                                              (List.length
                                                                (List.getD (loseK keep torn at_ W L x) (Int.toNat (List.getD W (Int.toNat (ofN x)) (T.dflt (T.pair T.i64 (T.slc T.u8)))).1)
                                                                  (T.dflt (T.slc T.u8))))
                                                              (List.getD (loseK keep torn at_ W L x) (Int.toNat (List.getD W (Int.toNat (ofN x)) (T.dflt (T.pair T.i64 (T.slc T.u8)))).1)
                                                                (T.dflt (T.slc T.u8))))) ≤
                                                      ROOM ∧
                                                    within (List.getD W (Int.toNat (ofN x)) (T.dflt (T.pair T.i64 (T.slc T.u8)))).1 (List.length (loseK keep torn at_ W L x)) ∧
                                                      Int.toNat (List.getD W (Int.toNat (ofN x)) (T.dflt (T.pair T.i64 (T.slc T.u8)))).1 < List.length (loseK keep torn at_ W L x) ∧
                                                        inI64 (ofN x + 1) ∧
                                                          ∃ (x' : Nat),
                                                            x' ≤ List.length W ∧
                                                              List.length W - x' < List.length W - x ∧
                                                                ofN x + 1 = ofN x' ∧
                                                                  List.set (loseK keep torn at_ W L x) (Int.toNat (List.getD W (Int.toNat (ofN x)) (T.dflt (T.pair T.i64 (T.slc T.u8)))).1)
                                                                      (nilOf (BitVec 8) ++ List.drop 0 (List.take (Int.toNat 0) (List.getD W (Int.toNat (ofN x)) (T.dflt (T.pair T.i64 (T.slc T.u8)))).2) ++
                                                                        List.drop (Int.toNat 0)
                                                                          (List.take
                                                                            (List.length
                                                                              (List.getD (loseK keep torn at_ W L x) (Int.toNat (List.getD W (Int.toNat (ofN x)) (T.dflt (T.pair T.i64 (T.slc T.u8)))).1)
                                                                                (T.dflt (T.slc T.u8))))
                                                                            (List.getD (loseK keep torn at_ W L x) (Int.toNat (List.getD W (Int.toNat (ofN x)) (T.dflt (T.pair T.i64 (T.slc T.u8)))).1)
                                                                              (T.dflt (T.slc T.u8))))) =
                                                                    loseK keep torn at_ W L x') ∧
                                      ((ofN x == torn) = false →
                                        (decide (ofN x < ofN (List.length keep)) = true → within (ofN x) (List.length keep)) ∧
                                          ((decide (ofN x < ofN (List.length keep)) && List.getD keep (Int.toNat (ofN x)) (T.dflt T.bool)) = true →
                                              List.length (nilOf (BitVec 8)) + List.length (List.getD W (Int.toNat (ofN x)) (T.dflt (T.pair T.i64 (T.slc T.u8)))).2 ≤ ROOM ∧
                                                within (List.getD W (Int.toNat (ofN x)) (T.dflt (T.pair T.i64 (T.slc T.u8)))).1 (List.length (loseK keep torn at_ W L x)) ∧
                                                  Int.toNat (List.getD W (Int.toNat (ofN x)) (T.dflt (T.pair T.i64 (T.slc T.u8)))).1 < List.length (loseK keep torn at_ W L x) ∧
                                                    inI64 (ofN x + 1) ∧
                                                      ∃ (x' : Nat),
                                                        x' ≤ List.length W ∧
                                                          List.length W - x' < List.length W - x ∧
                                                            ofN x + 1 = ofN x' ∧
                                                              List.set (loseK keep torn at_ W L x) (Int.toNat (List.getD W (Int.toNat (ofN x)) (T.dflt (T.pair T.i64 (T.slc T.u8)))).1)
                                                                  (nilOf (BitVec 8) ++ (List.getD W (Int.toNat (ofN x)) (T.dflt (T.pair T.i64 (T.slc T.u8)))).2) =
                                                                loseK keep torn at_ W L x') ∧
                                            ((decide (ofN x < ofN (List.length keep)) && List.getD keep (Int.toNat (ofN x)) (T.dflt T.bool)) = false →
                                              inI64 (ofN x + 1) ∧
                                                ∃ (x' : Nat), x' ≤ List.length W ∧ List.length W - x' < List.length W - x ∧ ofN x + 1 = ofN x' ∧ loseK keep torn at_ W L x = loseK keep torn at_ W L x'))) ∧
                              (decide (ofN x < ofN (List.length W)) = false →
                                ofN 0 = 0 ∧
                                  (true = true ∧ set = set ∧ left = left) ∧
                                    L = L ∧
                                      W = W ∧
                                        (false = false ∧ false = false ∧ ofN 0 = 0) ∧
                                          loseK keep torn at_ W L x = loseK keep torn at_ W L (List.length W) ∧ nilOf (Int × List (BitVec 8)) = nilOf (Int × List (BitVec 8)))))) := by
  have len := fun k => loseK_len keep torn at_ W L k
  refine ⟨fun q => (by cases q), fun _ => ⟨⟨0, Nat.zero_le _, rfl, ⟨rfl, rfl, rfl⟩, rfl, rfl⟩, fun x hx => ⟨fun q => ?_, fun q => ?_⟩⟩⟩
  · have hlt : x < L.length := by
      have h : (x : Int) < (L.length : Int) := of_decide_eq_true q
      omega
    have hg : L.getD (Int.toNat (ofN x)) (T.dflt (T.slc T.u8)) = L[x] := getD_at _ _ _ hlt
    rw [hg]
    have h5 := hb.1 _ (List.getElem_mem hlt)
    refine ⟨⟨by show (0 : Int) ≤ (x : Int); omega, by show (x : Int) < (L.length : Int); omega⟩, hlt, by rw [h5]; show 0 + 512 ≤ ROOM; decide, by rw [List.length_take]; show min x L.length + 1 ≤ ROOM; unfold ROOM; omega, by show inI64 ((x : Int) + 1); unfold inI64; omega, x + 1, hlt, by omega, rfl, ⟨rfl, rfl, rfl⟩, ?_, rfl⟩
    rw [List.take_succ_eq_append_getElem hlt]
    rfl
  · have hx2 : x = L.length := by
      have h : ¬ (x : Int) < (L.length : Int) := of_decide_eq_false q
      omega
    subst hx2
    rw [List.take_length]
    refine ⟨fun qa => ⟨by decide, ⟨0, Nat.zero_le _, rfl, rfl⟩, fun x hx => ⟨fun q => ?_, fun q => ?_⟩⟩, fun qa => ⟨⟨0, Nat.zero_le _, rfl, rfl⟩, fun x hx => ⟨fun q => ?_, fun q => ?_⟩⟩⟩
    all_goals
      first
      | (have hx2 : x = W.length := by
           have h : ¬ (x : Int) < (W.length : Int) := of_decide_eq_false q
           omega
         subst hx2
         exact ⟨rfl, ⟨rfl, rfl, rfl⟩, rfl, rfl, ⟨rfl, rfl, rfl⟩, rfl, rfl⟩)
      | skip
    all_goals
      have hlt : x < W.length := by
        have h : (x : Int) < (W.length : Int) := of_decide_eq_true q
        omega
      have hw : within (ofN x) W.length := ⟨by show (0 : Int) ≤ (x : Int); omega, by show (x : Int) < (W.length : Int); omega⟩
      have h64 : inI64 (ofN x + 1) := by show inI64 ((x : Int) + 1); unfold inI64; unfold maxLen at hm; omega
      have hg : W.getD x (0, T_Blk.dflt) = W[x] := getD_at _ _ _ hlt
      have hg2 : W.getD (Int.toNat (ofN x)) (T.dflt (T.pair T.i64 (T.slc T.u8))) = W[x] := getD_at _ _ _ hlt
      have hr := hl _ (List.getElem_mem hlt)
      have h5 := hb.2 _ (List.getElem_mem hlt)
      have step : loseK keep torn at_ W L (x + 1) = loseStep keep torn at_ x (W.getD x (0, T_Blk.dflt)) (loseK keep torn at_ W L x) := rfl
      rw [hg] at step
      rw [hg2]
      generalize W[x] = w at hr h5 step
      obtain ⟨wi, wb⟩ := w
      dsimp only at hr h5 step ⊢
      have hwi : within wi (loseK keep torn at_ W L x).length := ⟨hr.1, by rw [len]; exact hr.2⟩
      have hwn : wi.toNat < (loseK keep torn at_ W L x).length := by rw [len]; omega
      have ho : (loseK keep torn at_ W L x).getD wi.toNat (T.dflt (T.slc T.u8)) = (loseK keep torn at_ W L x).getD wi.toNat T_Blk.dflt := by rw [getD_at _ _ _ hwn, getD_at _ _ _ hwn]
      have hol : ((loseK keep torn at_ W L x).getD wi.toNat T_Blk.dflt).length = 512 := lose_len hb hl x hx wi.toNat (by omega)
      have hkeep : (decide (ofN x < ofN (List.length keep)) && List.getD keep (Int.toNat (ofN x)) (T.dflt T.bool)) = keep.getD x false := by
        have hd : keep.getD x false = List.getD keep (Int.toNat (ofN x)) (T.dflt T.bool) := rfl
        rw [← hd]
        cases hq : decide (ofN x < ofN (List.length keep)) with
        | true => rfl
        | false =>
          have h : ¬ (x : Int) < (keep.length : Int) := of_decide_eq_false hq
          simp [List.getD, List.getElem?_eq_none (show keep.length ≤ x by omega)]
      rw [hkeep, ho, hol, h5]
      have tl := torn_eq hol h5
      generalize hv : (loseK keep torn at_ W L x).getD wi.toNat T_Blk.dflt = v at hol tl step ⊢
      refine ⟨hw, hlt, fun qt => ?_, fun qt => ⟨fun qk => ⟨by show (0 : Int) ≤ (x : Int); omega, of_decide_eq_true qk⟩, fun qk => ⟨by decide, hwi, hwn, h64, x + 1, hlt, by omega, rfl, ?_⟩, fun qk => ⟨h64, x + 1, hlt, by omega, rfl, ?_⟩⟩⟩
    · have ha : 0 < at_ := of_decide_eq_true qa
      have b1 := Int.tmod_nonneg (b := 513) (show 0 ≤ at_ by omega)
      have b2 := Int.tmod_lt_of_pos at_ (show (0 : Int) < 513 by decide)
      have ht : decide ((x : Int) = torn) = true := by simpa using qt
      have hn : (Int.tmod at_ 513).toNat ≤ 512 := by omega
      have hl1 : (List.drop 0 (List.take (Int.toNat (Int.tmod at_ 513)) wb)).length ≤ 512 := by rw [List.drop_zero, List.length_take, h5]; exact Nat.min_le_right _ _
      refine ⟨⟨b1, by show Int.tmod at_ 513 ≤ ((512 : Nat) : Int); omega⟩, ?_, hwi, hwn, ⟨b1, by show Int.tmod at_ 513 ≤ ((512 : Nat) : Int); omega⟩, ?_, hwi, hwn, h64, x + 1, hlt, by omega, rfl, ?_⟩
      · show 0 + _ ≤ ROOM
        unfold ROOM; omega
      · have hl2 : (List.drop (Int.toNat (Int.tmod at_ 513)) (List.take 512 v)).length ≤ 512 := by rw [List.length_drop, List.length_take, hol]; omega
        rw [List.length_append]
        show 0 + _ + _ ≤ ROOM
        unfold ROOM; omega
      · rw [step, tl _ hn]
        unfold loseStep
        rw [ht, qa, hv]; rfl
    · have ht : decide ((x : Int) = torn) = false := by simpa using qt
      rw [step]
      unfold loseStep
      rw [ht, qk]; rfl
    · have ht : decide ((x : Int) = torn) = false := by simpa using qt
      rw [step]
      unfold loseStep
      rw [ht, qk]; rfl
    · have ht : decide ((x : Int) = torn) = true := by simpa using qt
      refine ⟨⟨by decide, by decide⟩, by show 0 + (List.drop 0 (List.take 0 wb)).length ≤ ROOM; simp [ROOM], hwi, hwn, ⟨by decide, by decide⟩, ?_, hwi, hwn, h64, x + 1, hlt, by omega, rfl, ?_⟩
      · show (([] : List (BitVec 8)) ++ List.drop 0 (List.take 0 wb)).length + (List.drop 0 (List.take 512 v)).length ≤ ROOM
        have hl2 : (List.drop 0 (List.take 512 v)).length ≤ 512 := by rw [List.drop_zero, List.length_take, hol]; omega
        have h0 : (([] : List (BitVec 8)) ++ List.drop 0 (List.take 0 wb)).length = 0 := rfl
        rw [h0]
        unfold ROOM; omega
      · rw [step]
        unfold loseStep
        rw [ht, qa]
        show List.set (loseK keep torn at_ W L x) wi.toNat (([] : List (BitVec 8)) ++ List.drop 0 (List.take 0 wb) ++ List.drop 0 (List.take 512 v)) = loseK keep torn at_ W L x
        rw [List.take_zero, List.drop_zero, List.take_of_length_le (Nat.le_of_eq hol)]
        show List.set (loseK keep torn at_ W L x) wi.toNat v = loseK keep torn at_ W L x
        rw [← hv, getD_at _ _ _ hwn, List.set_getElem_self]
    · have ht : decide ((x : Int) = torn) = false := by simpa using qt
      rw [step]
      unfold loseStep
      rw [ht, qk]; rfl
    · have ht : decide ((x : Int) = torn) = false := by simpa using qt
      rw [step]
      unfold loseStep
      rw [ht, qk]; rfl

theorem ref9_New_vc (n : Int) (h1 : 4 ≤ n) (h2 : n ≤ 4096) :
    ((decide (n < 4) || decide (4096 < n)) = true → False) ∧
      ((decide (n < 4) || decide (4096 < n)) = false →
        (∃ (x : Nat),
            x ≤ Int.toNat n ∧
              0 = ofN x ∧
                (false = false ∧ false = false ∧ ofN 0 = 0) ∧ List.replicate x (T.dflt (T.arr 512 T.u8)) = nilOf (List (BitVec 8)) ∧ nilOf (Int × List (BitVec 8)) = nilOf (Int × List (BitVec 8))) ∧
          ∀ (x : Nat),
            x ≤ Int.toNat n →
              (decide (ofN x < n) = true →
                  (ofN 512 = 512 ∧ ofN 0 ≤ 512 ∧ 512 ≤ ofN ROOM) ∧
                    Int.toNat 512 ≤ Int.toNat 512 ∧
                      List.length (List.replicate x (T.dflt (T.arr 512 T.u8))) + List.length [List.take (Int.toNat 512) (List.drop 0 (List.replicate (Int.toNat 512) 0#8))] ≤ ROOM ∧
                        inI64 (ofN x + 1) ∧
                          ∃ (x' : Nat),
                            x' ≤ Int.toNat n ∧
                              Int.toNat n - x' < Int.toNat n - x ∧
                                ofN x + 1 = ofN x' ∧
                                  (false = false ∧ false = false ∧ ofN 0 = 0) ∧
                                    List.replicate x (T.dflt (T.arr 512 T.u8)) ++ [List.take (Int.toNat 512) (List.drop 0 (List.replicate (Int.toNat 512) 0#8))] =
                                        List.replicate x' (T.dflt (T.arr 512 T.u8)) ∧
                                      nilOf (Int × List (BitVec 8)) = nilOf (Int × List (BitVec 8))) ∧
                (decide (ofN x < n) = false →
                  ofN 0 = 0 ∧
                    (false = false ∧ false = false ∧ ofN 0 = 0) ∧
                      List.replicate x (T.dflt (T.arr 512 T.u8)) = List.replicate (Int.toNat n) (T.dflt (T.arr 512 T.u8)) ∧ nilOf (Int × List (BitVec 8)) = nilOf (Int × List (BitVec 8)))) := by
  refine ⟨fun q => ?_, fun q => ⟨⟨0, Nat.zero_le _, rfl, ⟨rfl, rfl, rfl⟩, rfl, rfl⟩, fun x hx => ⟨fun q2 => ?_, fun q2 => ?_⟩⟩⟩
  · simp at q; omega
  · have hlt : x < n.toNat := by
      have h : (x : Int) < n := of_decide_eq_true q2
      omega
    refine ⟨by decide, Nat.le_refl _, by rw [List.length_replicate]; show x + 1 ≤ ROOM; unfold ROOM; omega, by show inI64 ((x : Int) + 1); unfold inI64; omega, x + 1, hlt, by omega, rfl, ⟨rfl, rfl, rfl⟩, ?_, rfl⟩
    rw [List.replicate_succ']
    rfl
  · have hx2 : x = n.toNat := by
      have h : ¬ (x : Int) < n := of_decide_eq_false q2
      omega
    subst hx2
    exact ⟨rfl, ⟨rfl, rfl, rfl⟩, rfl, rfl⟩

theorem ref9_asked_spec : Vse.Spec P f_ref09_Disk_asked c_rAsked := spec_gm (l := []) trivial h_ref09_Disk_asked rfl rfl fun s x _ _ _ => by
  obtain ⟨L, W, down, set, left, _⟩ := s
  obtain ⟨i, _⟩ := x
  exact bodyG_ok an_R (ref9_asked_vc L W down set left i) (by kernel_rfl)

theorem ref9_power_spec : Vse.Spec P f_ref09_Disk_power c_rPower := spec_gm (l := []) trivial h_ref09_Disk_power rfl rfl fun s x h ok _ => by
  obtain ⟨L, W, down, set, left, _⟩ := s
  exact bodyG_ok an_R (ref9_power_vc L W down set left h ok.1.2.2.1) (by kernel_rfl)

theorem ref9_Holds_spec : Vse.Spec P f_ref09_Disk_Holds c_rHolds := spec_gm (l := []) trivial h_ref09_Disk_Holds rfl rfl fun s x h ok _ => by
  obtain ⟨L, W, down, set, left, _⟩ := s
  obtain ⟨i, _⟩ := x
  exact bodyG_ok (an_rHo L W i) (ref9_Holds_vc L W down set left i h.1 h.2.1 h.2.2 ok.2.2.1.1) (by kernel_rfl)

theorem ref9_Read_spec : Vse.Spec P f_ref09_Disk_Read c_rRead := spec_gm (l := [(f_ref09_Disk_asked, c_rAsked), (f_ref09_Disk_Holds, c_rHolds)]) ⟨ref9_asked_spec, ref9_Holds_spec, trivial⟩ h_ref09_Disk_Read rfl rfl fun s x h _ _ => by
  obtain ⟨L, W, down, set, left, _⟩ := s
  obtain ⟨i, _⟩ := x
  exact bodyG_ok an_R (ref9_Read_vc L W down set left i h) (by kernel_rfl)

theorem ref9_Write_spec : Vse.Spec P f_ref09_Disk_Write c_rWrite := spec_gm (l := [(f_ref09_Disk_asked, c_rAsked), (f_ref09_Disk_power, c_rPower), (f_ref09_Whole, c_Whole)]) ⟨ref9_asked_spec, ref9_power_spec, ref9_Whole_spec, trivial⟩ h_ref09_Disk_Write rfl rfl fun s x h _ hx => by
  obtain ⟨L, W, down, set, left, _⟩ := s
  obtain ⟨i, b, _⟩ := x
  exact bodyG_ok an_RW (ref9_Write_vc L W down set left i b h hx.2.1.1) (by kernel_rfl)

theorem ref9_Sync_spec : Vse.Spec P f_ref09_Disk_Sync c_rSync := spec_gm (l := [(f_ref09_Disk_power, c_rPower)]) ⟨ref9_power_spec, trivial⟩ h_ref09_Disk_Sync rfl rfl fun s x h ok _ => by
  obtain ⟨L, W, down, set, left, _⟩ := s
  exact bodyG_ok (an_rSy L W) (ref9_Sync_vc L W down set left h.1 ok.2.2.1.1 h.2) (by kernel_rfl)

theorem ref9_Open_spec : Vse.Spec P f_ref09_Disk_Open c_rOpen := spec_gm (l := []) trivial h_ref09_Disk_Open rfl rfl fun s x _ _ _ => by
  obtain ⟨L, W, down, set, left, _⟩ := s
  exact bodyG_ok an_R (ref9_Open_vc L W down set left) (by kernel_rfl)

theorem ref9_Fuse_spec : Vse.Spec P f_ref09_Disk_Fuse c_rFuse := spec_gm (l := []) trivial h_ref09_Disk_Fuse rfl rfl fun s x _ _ _ => by
  obtain ⟨L, W, down, set, left, _⟩ := s
  obtain ⟨n, _⟩ := x
  exact bodyG_ok an_R (ref9_Fuse_vc L W down set left n) (by kernel_rfl)

theorem ref9_Lose_spec : Vse.Spec P f_ref09_Disk_Lose c_rLose := spec_gm (l := []) trivial h_ref09_Disk_Lose rfl rfl fun s x h ok _ => by
  obtain ⟨L, W, down, set, left, _⟩ := s
  obtain ⟨keep, torn, at_, _⟩ := x
  obtain ⟨h1, h2, h3, h4⟩ := h
  have h2 : down = false := h2
  subst h2
  exact bodyG_ok (an_rLo keep torn at_ L W) (ref9_Lose_vc L W set left keep torn at_ h1 ok.2.2.1.1 h3 h4) (by kernel_rfl)

theorem ref9_New_spec : Vse.Spec P f_ref09_New c_rNew := spec_gf (l := []) trivial h_ref09_New rfl rfl fun x h _ => by
  obtain ⟨n, _⟩ := x
  obtain ⟨h1, h2⟩ := h
  exact bodyG_ok (an_rNew n) (ref9_New_vc n h1 h2) (by kernel_rfl)

end Go.Sal
