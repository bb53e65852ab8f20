/- MerkleTrees and MerklePeaks. -/
import Derived.Test.YtdddnamfecgkeaaDoorWCTre2
set_option maxRecDepth 100000
namespace Go.Sal
open Go.Vse Go.Sal.Nm

def x_cel (S : SState) (t : Nat) : Nat := match S.get t with
 | .sv (.ref (.cell l _ _)) => l
 | _ => 0
def treS (n : Int) (ps l : List Dig) : Nat → Int × List Dig
 | 0 => (n, ps)
 | k + 1 => (pushN (treS n ps l k).1, pushP (treS n ps l k).1 (treS n ps l k).2 (l.getD k T_Dig.dflt))
def an_TreesL (n : Int) (ps l : List Dig) : Nat → SState → Option LoopAnn
 | 11, S => some { X := Nat, slots := fun k => [(11, .sv (.dv (.i64 (ofN k))))], objs := fun k => [(x_labAt S 7, .cells [.run (.one (.i64 (treS n ps l k).1)), .run (.one (.imm T_Dig (treS n ps l k).2)), .run (.one (.bool true))] false), (x_labAt S 9, .cells [.run (.one (.i64 (treS n ps l k).1)), .run (.one (.imm T_Dig (treS n ps l k).2))] false)], inv := fun k => k ≤ l.length, meas := fun k => l.length - k }
 | _, _ => none
def an_TreesY (n : Int) (ps l : List Dig) : Ann := { at_ := an_TreesL n ps l, prune := 1, rows := [STRIDE * 12 + 1055, STRIDE * 12 + 1060, STRIDE * 12 + 1069, STRIDE * 12 + 1083, STRIDE * 12 + 1089] }
def an_TreesN (l : List Dig) : Ann := { at_ := an_TreesL 0 [] l, prune := 1, rows := [STRIDE * 12 + 1060, STRIDE * 12 + 1065, STRIDE * 12 + 1074, STRIDE * 12 + 1088, STRIDE * 12 + 1094] }
def an_PeaksL (l : List Dig) : Nat → SState → Option LoopAnn
 | 6, S => some { X := Nat, slots := fun k => [(6, .sv (.dv (.i64 (ofN k)))), (5, .sv (.ref (.cell (x_cel S 5) [] 0)))], objs := fun k => [(0, .gone), (x_cel S 5, .cells [.run (.one (.i64 (ofN k))), .run (.one (.imm T_Dig (peaksV (l.take k)))), .run (.one (.bool true))] false)], inv := fun k => k ≤ l.length, meas := fun k => l.length - k }
 | _, _ => none
def an_Peaks27 (l : List Dig) : Ann := { at_ := an_PeaksL l, prune := 1, drops := [15, 16] }

theorem popc_bound : ∀ (k n : Nat), n < 2 ^ k → popc n ≤ k
 | 0, n, h => by
   have : n = 0 := by simpa using h
   subst this; rw [popc_zero]; exact Nat.le_refl _
 | k + 1, n, h => by
   rw [Nat.pow_succ] at h
   rw [popc_step]
   have := popc_bound k (n / 2) (by omega)
   omega
theorem okT_len {n : Int} {ps : List Dig} (h : okT' n ps) : ps.length ≤ 100 := by
 obtain ⟨h0, h1, h2⟩ := h
 have := popc_bound 21 n.toNat (by omega)
 omega
theorem okT_push {n : Int} {ps : List Dig} (leaf : Dig) (h : okT' n ps) : okT' (pushN n) (pushP n ps leaf) := by
 obtain ⟨h0, h1, h2⟩ := h
 unfold pushN pushP
 by_cases c : n < 1048576
 · rw [if_pos c, if_pos c]
   have ht := tones_le n.toNat
   have hs := popc_succ n.toNat
   refine ⟨by omega, by omega, ?_⟩
   rw [push_len (by omega), show (n + 1).toNat = n.toNat + 1 by omega]
   omega
 · rw [if_neg c, if_neg c]
   exact ⟨h0, h1, h2⟩
theorem treS_ok {n : Int} {ps l : List Dig} (h : okT' n ps) : ∀ k, okT' (treS n ps l k).1 (treS n ps l k).2
 | 0 => h
 | k + 1 => okT_push _ (treS_ok h k)
theorem eqL_self (a : Dig) : eqL T.u8 a a = true := by rw [eqL_u8]; simp
theorem same_self (a : List Dig) : sameDs a a = true := decide_eq_true rfl
theorem okT_zero : okT' 0 [] := ⟨by decide, by decide, by show 0 = popc 0; rw [popc_zero]⟩

theorem law27_MerklePeaks_vc (l : List Dig) (i : Int) :
 ofN 0 ≤ 40 ∧
  (false = true → false = true) ∧
  (false = false →
  (∃ (x : Nat), x ≤ List.length (List.take 40 l) ∧ 0 = ofN x ∧ 0 = ofN x ∧ nilOf (List (BitVec 8)) = peaksV (List.take x (List.take 40 l)) ∧ true = true) ∧
  ∀ (x : Nat),
  x ≤ List.length (List.take 40 l) →
  (decide (ofN x < ofN (List.length (List.take (Int.toNat 40) l))) = true →
  ((ofN x == i) = true →
  (true = true ∧
  SObj.cells [SC.run (Run.one (DV.i64 (ofN x))), SC.run (Run.one (DV.imm (T.arr 32 T.u8) (peaksV (List.take x (List.take 40 l))))), SC.run (Run.one (DV.bool true))] false =
  SObj.cells [SC.run (Run.one (DV.i64 (ofN x))), SC.run (Run.one (DV.imm (T.arr 32 T.u8) (peaksV (List.take x (List.take 40 l))))), SC.run (Run.one (DV.bool true))] false) ∧
  ((true = true ∧ List.length (peaksV (List.take x (List.take 40 l))) ≤ 100) ∧
  SObj.cells [SC.run (Run.one (DV.i64 (ofN x))), SC.run (Run.one (DV.imm (T.arr 32 T.u8) (peaksV (List.take x (List.take 40 l))))), SC.run (Run.one (DV.bool true))] false =
  SObj.cells [SC.run (Run.one (DV.i64 (ofN x))), SC.run (Run.one (DV.imm (T.arr 32 T.u8) (peaksV (List.take x (List.take 40 l))))), SC.run (Run.one (DV.bool true))] false) ∧
  (okLd (ofN x) (peaksV (List.take x (List.take 40 l))) ∧ List.length (peaksV (List.take x (List.take 40 l))) ≤ 100) ∧
  (false = true → false = true) ∧
  (false = false →
  within (ofN x) (List.length (List.take (Int.toNat 40) l)) ∧
  (true = true ∧ okT' (ofN x) (peaksV (List.take x (List.take 40 l)))) ∧
  ((pushE (ofN x) != 0) = true → false = true) ∧
  ((pushE (ofN x) != 0) = false →
  ((true = true ∧
  okT' (pushN (ofN x))
  (pushP (ofN x) (peaksV (List.take x (List.take 40 l))) (List.getD (List.take (Int.toNat 40) l) (Int.toNat (ofN x)) (T.dflt (T.arr 32 T.u8))))) ∧
  SObj.cells
  [SC.run (Run.one (DV.i64 (pushN (ofN x)))),
  SC.run
  (Run.one
  (DV.imm (T.arr 32 T.u8)
  (pushP (ofN x) (peaksV (List.take x (List.take 40 l))) (List.getD (List.take (Int.toNat 40) l) (Int.toNat (ofN x)) (T.dflt (T.arr 32 T.u8)))))),
  SC.run (Run.one (DV.bool true))]
  false =
  SObj.cells
  [SC.run (Run.one (DV.i64 (pushN (ofN x)))),
  SC.run
  (Run.one
  (DV.imm (T.arr 32 T.u8)
  (pushP (ofN x) (peaksV (List.take x (List.take 40 l))) (List.getD (List.take (Int.toNat 40) l) (Int.toNat (ofN x)) (T.dflt (T.arr 32 T.u8)))))),
  SC.run (Run.one (DV.bool true))]
  false) ∧
  inI64 (ofN x + 1) ∧
  (0 ≤ ofN x + 1 ∧ ofN x + 1 ≤ ofN (List.length (List.take (Int.toNat 40) l))) ∧
  ((false || (rootA (List.drop 0 (List.take (Int.toNat (ofN x + 1)) (List.take (Int.toNat 40) l)))).2 != 0 ||
  !eqL T.u8
  (rootR
  (pushP (ofN x) (peaksV (List.take x (List.take 40 l))) (List.getD (List.take (Int.toNat 40) l) (Int.toNat (ofN x)) (T.dflt (T.arr 32 T.u8)))))
  (rootA (List.drop 0 (List.take (Int.toNat (ofN x + 1)) (List.take (Int.toNat 40) l)))).1) =
  false →
  true = true ∧
  SObj.cells
  [SC.run (Run.one (DV.i64 (pushN (ofN x)))),
  SC.run
  (Run.one
  (DV.imm (T.arr 32 T.u8)
  (pushP (ofN x) (peaksV (List.take x (List.take 40 l)))
  (List.getD (List.take (Int.toNat 40) l) (Int.toNat (ofN x)) (T.dflt (T.arr 32 T.u8)))))),
  SC.run (Run.one (DV.bool true))]
  false =
  SObj.cells
  [SC.run (Run.one (DV.i64 (pushN (ofN x)))),
  SC.run
  (Run.one
  (DV.imm (T.arr 32 T.u8)
  (pushP (ofN x) (peaksV (List.take x (List.take 40 l)))
  (List.getD (List.take (Int.toNat 40) l) (Int.toNat (ofN x)) (T.dflt (T.arr 32 T.u8)))))),
  SC.run (Run.one (DV.bool true))]
  false) ∧
  ((false || (rootA (List.drop 0 (List.take (Int.toNat (ofN x + 1)) (List.take (Int.toNat 40) l)))).2 != 0 ||
  !eqL T.u8
  (rootR
  (pushP (ofN x) (peaksV (List.take x (List.take 40 l)))
  (List.getD (List.take (Int.toNat 40) l) (Int.toNat (ofN x)) (T.dflt (T.arr 32 T.u8)))))
  (rootA (List.drop 0 (List.take (Int.toNat (ofN x + 1)) (List.take (Int.toNat 40) l)))).1) =
  false →
  inI64 (ofN x + 1)) ∧
  ((false || (rootA (List.drop 0 (List.take (Int.toNat (ofN x + 1)) (List.take (Int.toNat 40) l)))).2 != 0 ||
  !eqL T.u8
  (rootR
  (pushP (ofN x) (peaksV (List.take x (List.take 40 l)))
  (List.getD (List.take (Int.toNat 40) l) (Int.toNat (ofN x)) (T.dflt (T.arr 32 T.u8)))))
  (rootA (List.drop 0 (List.take (Int.toNat (ofN x + 1)) (List.take (Int.toNat 40) l)))).1 ||
  pushN (ofN x) != ofN x + 1) =
  true →
  false = true) ∧
  ((false || (rootA (List.drop 0 (List.take (Int.toNat (ofN x + 1)) (List.take (Int.toNat 40) l)))).2 != 0 ||
  !eqL T.u8
  (rootR
  (pushP (ofN x) (peaksV (List.take x (List.take 40 l)))
  (List.getD (List.take (Int.toNat 40) l) (Int.toNat (ofN x)) (T.dflt (T.arr 32 T.u8)))))
  (rootA (List.drop 0 (List.take (Int.toNat (ofN x + 1)) (List.take (Int.toNat 40) l)))).1 ||
  pushN (ofN x) != ofN x + 1) =
  false →
  inI64 (ofN x + 1) ∧
  ∃ (x' : Nat),
  x' ≤ List.length (List.take 40 l) ∧
  List.length (List.take 40 l) - x' < List.length (List.take 40 l) - x ∧
  ofN x + 1 = ofN x' ∧
  pushN (ofN x) = ofN x' ∧
  pushP (ofN x) (peaksV (List.take x (List.take 40 l)))
  (List.getD (List.take (Int.toNat 40) l) (Int.toNat (ofN x)) (T.dflt (T.arr 32 T.u8))) =
  peaksV (List.take x' (List.take 40 l)) ∧
  true = true)))) ∧
  ((ofN x == i) = false →
  within (ofN x) (List.length (List.take (Int.toNat 40) l)) ∧
  (true = true ∧ okT' (ofN x) (peaksV (List.take x (List.take 40 l)))) ∧
  ((pushE (ofN x) != 0) = true → false = true) ∧
  ((pushE (ofN x) != 0) = false →
  ((true = true ∧
  okT' (pushN (ofN x)) (pushP (ofN x) (peaksV (List.take x (List.take 40 l))) (List.getD (List.take (Int.toNat 40) l) (Int.toNat (ofN x)) (T.dflt (T.arr 32 T.u8))))) ∧
  SObj.cells
  [SC.run (Run.one (DV.i64 (pushN (ofN x)))),
  SC.run
  (Run.one
  (DV.imm (T.arr 32 T.u8)
  (pushP (ofN x) (peaksV (List.take x (List.take 40 l))) (List.getD (List.take (Int.toNat 40) l) (Int.toNat (ofN x)) (T.dflt (T.arr 32 T.u8)))))),
  SC.run (Run.one (DV.bool true))]
  false =
  SObj.cells
  [SC.run (Run.one (DV.i64 (pushN (ofN x)))),
  SC.run
  (Run.one
  (DV.imm (T.arr 32 T.u8)
  (pushP (ofN x) (peaksV (List.take x (List.take 40 l))) (List.getD (List.take (Int.toNat 40) l) (Int.toNat (ofN x)) (T.dflt (T.arr 32 T.u8)))))),
  SC.run (Run.one (DV.bool true))]
  false) ∧
  inI64 (ofN x + 1) ∧
  (0 ≤ ofN x + 1 ∧ ofN x + 1 ≤ ofN (List.length (List.take (Int.toNat 40) l))) ∧
  ((false || (rootA (List.drop 0 (List.take (Int.toNat (ofN x + 1)) (List.take (Int.toNat 40) l)))).2 != 0 ||
  !eqL T.u8
  (rootR (pushP (ofN x) (peaksV (List.take x (List.take 40 l))) (List.getD (List.take (Int.toNat 40) l) (Int.toNat (ofN x)) (T.dflt (T.arr 32 T.u8)))))
  (rootA (List.drop 0 (List.take (Int.toNat (ofN x + 1)) (List.take (Int.toNat 40) l)))).1) =
  false →
  true = true ∧
  SObj.cells
  [SC.run (Run.one (DV.i64 (pushN (ofN x)))),
  SC.run
  (Run.one
  (DV.imm (T.arr 32 T.u8)
  (pushP (ofN x) (peaksV (List.take x (List.take 40 l))) (List.getD (List.take (Int.toNat 40) l) (Int.toNat (ofN x)) (T.dflt (T.arr 32 T.u8)))))),
  SC.run (Run.one (DV.bool true))]
  false =
  SObj.cells
  [SC.run (Run.one (DV.i64 (pushN (ofN x)))),
  SC.run
  (Run.one
  (DV.imm (T.arr 32 T.u8)
  (pushP (ofN x) (peaksV (List.take x (List.take 40 l))) (List.getD (List.take (Int.toNat 40) l) (Int.toNat (ofN x)) (T.dflt (T.arr 32 T.u8)))))),
  SC.run (Run.one (DV.bool true))]
  false) ∧
  ((false || (rootA (List.drop 0 (List.take (Int.toNat (ofN x + 1)) (List.take (Int.toNat 40) l)))).2 != 0 ||
  !eqL T.u8
  (rootR (pushP (ofN x) (peaksV (List.take x (List.take 40 l))) (List.getD (List.take (Int.toNat 40) l) (Int.toNat (ofN x)) (T.dflt (T.arr 32 T.u8)))))
  (rootA (List.drop 0 (List.take (Int.toNat (ofN x + 1)) (List.take (Int.toNat 40) l)))).1) =
  false →
  inI64 (ofN x + 1)) ∧
  ((false || (rootA (List.drop 0 (List.take (Int.toNat (ofN x + 1)) (List.take (Int.toNat 40) l)))).2 != 0 ||
  !eqL T.u8
  (rootR
  (pushP (ofN x) (peaksV (List.take x (List.take 40 l))) (List.getD (List.take (Int.toNat 40) l) (Int.toNat (ofN x)) (T.dflt (T.arr 32 T.u8)))))
  (rootA (List.drop 0 (List.take (Int.toNat (ofN x + 1)) (List.take (Int.toNat 40) l)))).1 ||
  pushN (ofN x) != ofN x + 1) =
  true →
  false = true) ∧
  ((false || (rootA (List.drop 0 (List.take (Int.toNat (ofN x + 1)) (List.take (Int.toNat 40) l)))).2 != 0 ||
  !eqL T.u8
  (rootR
  (pushP (ofN x) (peaksV (List.take x (List.take 40 l))) (List.getD (List.take (Int.toNat 40) l) (Int.toNat (ofN x)) (T.dflt (T.arr 32 T.u8)))))
  (rootA (List.drop 0 (List.take (Int.toNat (ofN x + 1)) (List.take (Int.toNat 40) l)))).1 ||
  pushN (ofN x) != ofN x + 1) =
  false →
  inI64 (ofN x + 1) ∧
  ∃ (x' : Nat),
  x' ≤ List.length (List.take 40 l) ∧
  List.length (List.take 40 l) - x' < List.length (List.take 40 l) - x ∧
  ofN x + 1 = ofN x' ∧
  pushN (ofN x) = ofN x' ∧
  pushP (ofN x) (peaksV (List.take x (List.take 40 l))) (List.getD (List.take (Int.toNat 40) l) (Int.toNat (ofN x)) (T.dflt (T.arr 32 T.u8))) =
  peaksV (List.take x' (List.take 40 l)) ∧
  true = true)))) ∧
  (decide (ofN x < ofN (List.length (List.take (Int.toNat 40) l))) = false → true = true)) := by
 have e40 : Int.toNat 40 = 40 := rfl
 have hb : (l.take 40).length ≤ 40 := by rw [List.length_take]; omega
 rw [e40]
 generalize l.take 40 = q at *
 refine ⟨by decide, fun h => h, fun _ => ⟨⟨0, Nat.zero_le _, rfl, rfl, rfl, rfl⟩, fun k _ => ⟨fun c => ?_, fun _ => rfl⟩⟩⟩
 have c : k < q.length := by
  have c : (k : Int) < (q.length : Int) := of_decide_eq_true c
  omega
 have w : within (ofN k) q.length := ⟨by show (0 : Int) ≤ (k : Int); omega, by show (k : Int) < _; omega⟩
 have hi : inI64 (ofN k + 1) := by show inI64 ((k : Int) + 1); unfold inI64; omega
 have hT : ∀ j, j ≤ q.length → okT' (ofN j) (peaksV (q.take j)) := fun j hj => by
  refine ⟨by show (0 : Int) ≤ (j : Int); omega, by show (j : Int) ≤ 1048576; omega, ?_⟩
  rw [peaks_len, List.length_take, Nat.min_eq_left hj]
  rfl
 have h1 : (ofN k : Int) < 1048576 := by show (k : Int) < 1048576; omega
 have ek : Int.toNat (ofN k) = k := rfl
 have ek1 : Int.toNat (ofN k + 1) = k + 1 := by show Int.toNat ((k : Int) + 1) = k + 1; omega
 have eE : pushE (ofN k) = 0 := if_pos h1
 have eN : pushN (ofN k) = ofN k + 1 := if_pos h1
 have eP : pushP (ofN k) (peaksV (q.take k)) (q.getD k (T.dflt (T.arr 32 T.u8))) = peaksV (q.take (k + 1)) := by
  unfold pushP
  rw [if_pos h1, take_snoc' (d := T.dflt (T.arr 32 T.u8)) c, peaks_push, List.length_take, Nat.min_eq_left (Nat.le_of_lt c)]
  rfl
 have hle : (q.take (k + 1)).length ≤ 1048576 := by rw [List.length_take]; omega
 have r1 : (rootA (q.take (k + 1))).1 = rootV (q.take (k + 1)) := by unfold rootA; rw [if_pos hle]
 have r2 : (rootA (q.take (k + 1))).2 = 0 := by unfold rootA; rw [if_pos hle]
 rw [ek, ek1, List.drop_zero, r1, r2, eE, eN, eP, peaks_root, eqL_self, bne_self_eq_false, bne_self_eq_false]
 have hk := hT k (by omega)
 have hk1 : okT' (ofN k + 1) (peaksV (q.take (k + 1))) := hT (k + 1) (by omega)
 have hb2 : (0 : Int) ≤ ofN k + 1 ∧ ofN k + 1 ≤ ofN q.length := ⟨by show (0 : Int) ≤ (k : Int) + 1; omega, by show (k : Int) + 1 ≤ (q.length : Int); omega⟩
 exact ⟨fun _ => ⟨⟨rfl, rfl⟩, ⟨⟨rfl, okT_len hk⟩, rfl⟩, ⟨hk, okT_len hk⟩, fun g => g, fun _ => ⟨w, ⟨rfl, hk⟩, fun g => g, fun _ => ⟨⟨⟨rfl, hk1⟩, rfl⟩, hi, hb2, fun _ => ⟨rfl, rfl⟩, fun _ => hi, fun g => g, fun _ => ⟨hi, k + 1, by omega, by omega, rfl, rfl, rfl, rfl⟩⟩⟩⟩,
  fun _ => ⟨w, ⟨rfl, hk⟩, fun g => g, fun _ => ⟨⟨⟨rfl, hk1⟩, rfl⟩, hi, hb2, fun _ => ⟨rfl, rfl⟩, fun _ => hi, fun g => g, fun _ => ⟨hi, k + 1, by omega, by omega, rfl, rfl, rfl, rfl⟩⟩⟩⟩

theorem law27_MerkleTreesY_vc (n : Int) (ps l : List Dig) (h : okLd n (ps.take 30)) :
 ofN 0 ≤ 30 ∧
  ofN 0 ≤ 40 ∧
  (okLd n (List.take (Int.toNat 30) ps) ∧ List.length (List.take (Int.toNat 30) ps) ≤ 100) ∧
  (okLd n (List.take (Int.toNat 30) ps) ∧ List.length (List.take (Int.toNat 30) ps) ≤ 100) ∧
  (false = true → false = true) ∧
  (false = false →
  (false = true → False) ∧
  (false = false →
  (false = true → false = true) ∧
  (false = false →
  (∃ (x : Nat),
  x ≤ List.length (List.take 40 l) ∧
  0 = ofN x ∧
  (n = (treS n (List.take 30 ps) (List.take 40 l) x).1 ∧ List.take (Int.toNat 30) ps = (treS n (List.take 30 ps) (List.take 40 l) x).2 ∧ true = true) ∧
  n = (treS n (List.take 30 ps) (List.take 40 l) x).1 ∧ List.take (Int.toNat 30) ps = (treS n (List.take 30 ps) (List.take 40 l) x).2) ∧
  ∀ (x : Nat),
  x ≤ List.length (List.take 40 l) →
  (decide (ofN x < ofN (List.length (List.take (Int.toNat 40) l))) = true →
  ((true = true ∧ okT' (treS n (List.take 30 ps) (List.take 40 l) x).1 (treS n (List.take 30 ps) (List.take 40 l) x).2) ∧
  SObj.cells
  [SC.run (Run.one (DV.i64 (treS n (List.take 30 ps) (List.take 40 l) x).1)),
  SC.run (Run.one (DV.imm (T.arr 32 T.u8) (treS n (List.take 30 ps) (List.take 40 l) x).2)), SC.run (Run.one (DV.bool true))]
  false =
  SObj.cells
  [SC.run (Run.one (DV.i64 (treS n (List.take 30 ps) (List.take 40 l) x).1)),
  SC.run (Run.one (DV.imm (T.arr 32 T.u8) (treS n (List.take 30 ps) (List.take 40 l) x).2)), SC.run (Run.one (DV.bool true))]
  false) ∧
  (false = false ∧
  List.length (treS n (List.take 30 ps) (List.take 40 l) x).2 ≤ 100 ∧
  SObj.cells
  [SC.run (Run.one (DV.i64 (treS n (List.take 30 ps) (List.take 40 l) x).1)),
  SC.run (Run.one (DV.imm (T.arr 32 T.u8) (treS n (List.take 30 ps) (List.take 40 l) x).2))]
  false =
  SObj.cells
  [SC.run (Run.one (DV.i64 (treS n (List.take 30 ps) (List.take 40 l) x).1)),
  SC.run (Run.one (DV.imm (T.arr 32 T.u8) (treS n (List.take 30 ps) (List.take 40 l) x).2))]
  false) ∧
  ((false || !eqL T.u8 (rootR (treS n (List.take 30 ps) (List.take 40 l) x).2) (rootR (treS n (List.take 30 ps) (List.take 40 l) x).2)) = false ∧
  true = true ∧
  SObj.cells
  [SC.run (Run.one (DV.i64 (treS n (List.take 30 ps) (List.take 40 l) x).1)),
  SC.run (Run.one (DV.imm (T.arr 32 T.u8) (treS n (List.take 30 ps) (List.take 40 l) x).2)), SC.run (Run.one (DV.bool true))]
  false =
  SObj.cells
  [SC.run (Run.one (DV.i64 (treS n (List.take 30 ps) (List.take 40 l) x).1)),
  SC.run (Run.one (DV.imm (T.arr 32 T.u8) (treS n (List.take 30 ps) (List.take 40 l) x).2)), SC.run (Run.one (DV.bool true))]
  false) ∧
  ((false || !eqL T.u8 (rootR (treS n (List.take 30 ps) (List.take 40 l) x).2) (rootR (treS n (List.take 30 ps) (List.take 40 l) x).2) ||
  (treS n (List.take 30 ps) (List.take 40 l) x).1 != (treS n (List.take 30 ps) (List.take 40 l) x).1) =
  false ∧
  (true = true ∧ List.length (treS n (List.take 30 ps) (List.take 40 l) x).2 ≤ 100) ∧
  SObj.cells
  [SC.run (Run.one (DV.i64 (treS n (List.take 30 ps) (List.take 40 l) x).1)),
  SC.run (Run.one (DV.imm (T.arr 32 T.u8) (treS n (List.take 30 ps) (List.take 40 l) x).2)), SC.run (Run.one (DV.bool true))]
  false =
  SObj.cells
  [SC.run (Run.one (DV.i64 (treS n (List.take 30 ps) (List.take 40 l) x).1)),
  SC.run (Run.one (DV.imm (T.arr 32 T.u8) (treS n (List.take 30 ps) (List.take 40 l) x).2)), SC.run (Run.one (DV.bool true))]
  false) ∧
  ((false || !eqL T.u8 (rootR (treS n (List.take 30 ps) (List.take 40 l) x).2) (rootR (treS n (List.take 30 ps) (List.take 40 l) x).2) ||
  (treS n (List.take 30 ps) (List.take 40 l) x).1 != (treS n (List.take 30 ps) (List.take 40 l) x).1 ||
  !sameDs (treS n (List.take 30 ps) (List.take 40 l) x).2 (treS n (List.take 30 ps) (List.take 40 l) x).2) =
  false →
  within (ofN x) (List.length (List.take (Int.toNat 40) l))) ∧
  ((false || !eqL T.u8 (rootR (treS n (List.take 30 ps) (List.take 40 l) x).2) (rootR (treS n (List.take 30 ps) (List.take 40 l) x).2) ||
  (treS n (List.take 30 ps) (List.take 40 l) x).1 != (treS n (List.take 30 ps) (List.take 40 l) x).1 ||
  !sameDs (treS n (List.take 30 ps) (List.take 40 l) x).2 (treS n (List.take 30 ps) (List.take 40 l) x).2) =
  false ∧
  true = true ∧ okT' (treS n (List.take 30 ps) (List.take 40 l) x).1 (treS n (List.take 30 ps) (List.take 40 l) x).2) ∧
  ((false || !eqL T.u8 (rootR (treS n (List.take 30 ps) (List.take 40 l) x).2) (rootR (treS n (List.take 30 ps) (List.take 40 l) x).2) ||
  (treS n (List.take 30 ps) (List.take 40 l) x).1 != (treS n (List.take 30 ps) (List.take 40 l) x).1 ||
  !sameDs (treS n (List.take 30 ps) (List.take 40 l) x).2 (treS n (List.take 30 ps) (List.take 40 l) x).2) =
  false →
  within (ofN x) (List.length (List.take (Int.toNat 40) l))) ∧
  ((false || !eqL T.u8 (rootR (treS n (List.take 30 ps) (List.take 40 l) x).2) (rootR (treS n (List.take 30 ps) (List.take 40 l) x).2) ||
  (treS n (List.take 30 ps) (List.take 40 l) x).1 != (treS n (List.take 30 ps) (List.take 40 l) x).1 ||
  !sameDs (treS n (List.take 30 ps) (List.take 40 l) x).2 (treS n (List.take 30 ps) (List.take 40 l) x).2) =
  false ∧
  okT' (treS n (List.take 30 ps) (List.take 40 l) x).1 (treS n (List.take 30 ps) (List.take 40 l) x).2) ∧
  ((false || !eqL T.u8 (rootR (treS n (List.take 30 ps) (List.take 40 l) x).2) (rootR (treS n (List.take 30 ps) (List.take 40 l) x).2) ||
  (treS n (List.take 30 ps) (List.take 40 l) x).1 != (treS n (List.take 30 ps) (List.take 40 l) x).1 ||
  !sameDs (treS n (List.take 30 ps) (List.take 40 l) x).2 (treS n (List.take 30 ps) (List.take 40 l) x).2 ||
  pushE (treS n (List.take 30 ps) (List.take 40 l) x).1 != pushE (treS n (List.take 30 ps) (List.take 40 l) x).1) =
  true →
  false = true) ∧
  ((false || !eqL T.u8 (rootR (treS n (List.take 30 ps) (List.take 40 l) x).2) (rootR (treS n (List.take 30 ps) (List.take 40 l) x).2) ||
  (treS n (List.take 30 ps) (List.take 40 l) x).1 != (treS n (List.take 30 ps) (List.take 40 l) x).1 ||
  !sameDs (treS n (List.take 30 ps) (List.take 40 l) x).2 (treS n (List.take 30 ps) (List.take 40 l) x).2 ||
  pushE (treS n (List.take 30 ps) (List.take 40 l) x).1 != pushE (treS n (List.take 30 ps) (List.take 40 l) x).1) =
  false →
  inI64 (ofN x + 1) ∧
  ∃ (x' : Nat),
  x' ≤ List.length (List.take 40 l) ∧
  List.length (List.take 40 l) - x' < List.length (List.take 40 l) - x ∧
  ofN x + 1 = ofN x' ∧
  (pushN (treS n (List.take 30 ps) (List.take 40 l) x).1 = (treS n (List.take 30 ps) (List.take 40 l) x').1 ∧
  pushP (treS n (List.take 30 ps) (List.take 40 l) x).1 (treS n (List.take 30 ps) (List.take 40 l) x).2
  (List.getD (List.take (Int.toNat 40) l) (Int.toNat (ofN x)) (T.dflt (T.arr 32 T.u8))) =
  (treS n (List.take 30 ps) (List.take 40 l) x').2 ∧
  true = true) ∧
  pushN (treS n (List.take 30 ps) (List.take 40 l) x).1 = (treS n (List.take 30 ps) (List.take 40 l) x').1 ∧
  pushP (treS n (List.take 30 ps) (List.take 40 l) x).1 (treS n (List.take 30 ps) (List.take 40 l) x).2
  (List.getD (List.take (Int.toNat 40) l) (Int.toNat (ofN x)) (T.dflt (T.arr 32 T.u8))) =
  (treS n (List.take 30 ps) (List.take 40 l) x').2)) ∧
  (decide (ofN x < ofN (List.length (List.take (Int.toNat 40) l))) = false →
  ((true = true ∧ okT' (treS n (List.take 30 ps) (List.take 40 l) x).1 (treS n (List.take 30 ps) (List.take 40 l) x).2) ∧
  SObj.cells
  [SC.run (Run.one (DV.i64 (treS n (List.take 30 ps) (List.take 40 l) x).1)),
  SC.run (Run.one (DV.imm (T.arr 32 T.u8) (treS n (List.take 30 ps) (List.take 40 l) x).2)), SC.run (Run.one (DV.bool true))]
  false =
  SObj.cells
  [SC.run (Run.one (DV.i64 (treS n (List.take 30 ps) (List.take 40 l) x).1)),
  SC.run (Run.one (DV.imm (T.arr 32 T.u8) (treS n (List.take 30 ps) (List.take 40 l) x).2)), SC.run (Run.one (DV.bool true))]
  false) ∧
  (true = true ∧
  List.length (treS n (List.take 30 ps) (List.take 40 l) x).2 ≤ 100 ∧
  SObj.cells
  [SC.run (Run.one (DV.i64 (treS n (List.take 30 ps) (List.take 40 l) x).1)),
  SC.run (Run.one (DV.imm (T.arr 32 T.u8) (treS n (List.take 30 ps) (List.take 40 l) x).2))]
  false =
  SObj.cells
  [SC.run (Run.one (DV.i64 (treS n (List.take 30 ps) (List.take 40 l) x).1)),
  SC.run (Run.one (DV.imm (T.arr 32 T.u8) (treS n (List.take 30 ps) (List.take 40 l) x).2))]
  false) ∧
  ((true && eqL T.u8 (rootR (treS n (List.take 30 ps) (List.take 40 l) x).2) (rootR (treS n (List.take 30 ps) (List.take 40 l) x).2)) = true ∧
  true = true ∧
  SObj.cells
  [SC.run (Run.one (DV.i64 (treS n (List.take 30 ps) (List.take 40 l) x).1)),
  SC.run (Run.one (DV.imm (T.arr 32 T.u8) (treS n (List.take 30 ps) (List.take 40 l) x).2)), SC.run (Run.one (DV.bool true))]
  false =
  SObj.cells
  [SC.run (Run.one (DV.i64 (treS n (List.take 30 ps) (List.take 40 l) x).1)),
  SC.run (Run.one (DV.imm (T.arr 32 T.u8) (treS n (List.take 30 ps) (List.take 40 l) x).2)), SC.run (Run.one (DV.bool true))]
  false) ∧
  (true && eqL T.u8 (rootR (treS n (List.take 30 ps) (List.take 40 l) x).2) (rootR (treS n (List.take 30 ps) (List.take 40 l) x).2) &&
  (treS n (List.take 30 ps) (List.take 40 l) x).1 == (treS n (List.take 30 ps) (List.take 40 l) x).1 &&
  true) =
  true)))) := by
 have h3 : (ps.take 30).length ≤ 100 := by rw [List.length_take]; omega
 have e30 : Int.toNat 30 = 30 := rfl
 rw [e30]
 have hk := fun k => treS_ok (n := n) (ps := ps.take 30) (l := l.take 40) h k
 have hl := fun k => okT_len (hk k)
 have e40 : Int.toNat 40 = 40 := rfl
 have hb : (l.take 40).length ≤ 40 := by rw [List.length_take]; omega
 rw [e40]
 refine ⟨by decide, by decide, ⟨h, h3⟩, ⟨h, h3⟩, fun q => q, fun _ => ⟨fun q => absurd q Bool.false_ne_true, fun _ => ⟨fun q => q, fun _ => ⟨⟨0, Nat.zero_le _, rfl, ⟨rfl, rfl, rfl⟩, rfl, rfl⟩, fun k _ => ⟨fun c => ?_, fun _ => ?_⟩⟩⟩⟩⟩
 · have c : k < (l.take 40).length := by
     have c : (k : Int) < ((l.take 40).length : Int) := of_decide_eq_true c
     omega
   have w : within (ofN k) (l.take 40).length := ⟨by show (0 : Int) ≤ (k : Int); omega, by show (k : Int) < _; omega⟩
   rw [eqL_self, same_self, bne_self_eq_false, bne_self_eq_false]
   exact ⟨⟨⟨rfl, hk k⟩, rfl⟩, ⟨rfl, hl k, rfl⟩, ⟨rfl, rfl, rfl⟩, ⟨rfl, ⟨rfl, hl k⟩, rfl⟩, fun _ => w, ⟨rfl, rfl, hk k⟩, fun _ => w, ⟨rfl, hk k⟩, fun q => q, fun _ => ⟨by show inI64 ((k : Int) + 1); unfold inI64; omega, k + 1, by omega, by omega, rfl, ⟨rfl, rfl, rfl⟩, rfl, rfl⟩⟩
 · rw [eqL_self, beq_self_eq_true]
   exact ⟨⟨⟨rfl, hk k⟩, rfl⟩, ⟨rfl, hl k, rfl⟩, ⟨rfl, rfl, rfl⟩, rfl⟩

theorem law27_MerkleTreesN_vc (n : Int) (ps l : List Dig) (h : ¬ okLd n (ps.take 30)) :
 ofN 0 ≤ 30 ∧
  ofN 0 ≤ 40 ∧
  ¬okLd n (List.take (Int.toNat 30) ps) ∧
  ¬okLd n (List.take (Int.toNat 30) ps) ∧
  (false = true → false = true) ∧
  (false = false →
  (true = true →
  (false = true → false = true) ∧
  (false = false →
  (∃ (x : Nat),
  x ≤ List.length (List.take 40 l) ∧
  0 = ofN x ∧
  (0 = (treS 0 (nilOf (List (BitVec 8))) (List.take 40 l) x).1 ∧ nilOf (List (BitVec 8)) = (treS 0 (nilOf (List (BitVec 8))) (List.take 40 l) x).2 ∧ true = true) ∧
  ofN 0 = (treS 0 (nilOf (List (BitVec 8))) (List.take 40 l) x).1 ∧ (treS 0 (nilOf (List (BitVec 8))) (List.take 40 l) x).2 = nilOf (List (BitVec 8))) ∧
  ∀ (x : Nat),
  x ≤ List.length (List.take 40 l) →
  (decide (ofN x < ofN (List.length (List.take (Int.toNat 40) l))) = true →
  ((true = true ∧ okT' (treS 0 (nilOf (List (BitVec 8))) (List.take 40 l) x).1 (treS 0 (nilOf (List (BitVec 8))) (List.take 40 l) x).2) ∧
  SObj.cells
  [SC.run (Run.one (DV.i64 (treS 0 (nilOf (List (BitVec 8))) (List.take 40 l) x).1)),
  SC.run (Run.one (DV.imm (T.arr 32 T.u8) (treS 0 (nilOf (List (BitVec 8))) (List.take 40 l) x).2)), SC.run (Run.one (DV.bool true))]
  false =
  SObj.cells
  [SC.run (Run.one (DV.i64 (treS 0 (nilOf (List (BitVec 8))) (List.take 40 l) x).1)),
  SC.run (Run.one (DV.imm (T.arr 32 T.u8) (treS 0 (nilOf (List (BitVec 8))) (List.take 40 l) x).2)), SC.run (Run.one (DV.bool true))]
  false) ∧
  (false = false ∧
  List.length (treS 0 (nilOf (List (BitVec 8))) (List.take 40 l) x).2 ≤ 100 ∧
  SObj.cells
  [SC.run (Run.one (DV.i64 (treS 0 (nilOf (List (BitVec 8))) (List.take 40 l) x).1)),
  SC.run (Run.one (DV.imm (T.arr 32 T.u8) (treS 0 (nilOf (List (BitVec 8))) (List.take 40 l) x).2))]
  false =
  SObj.cells
  [SC.run (Run.one (DV.i64 (treS 0 (nilOf (List (BitVec 8))) (List.take 40 l) x).1)),
  SC.run (Run.one (DV.imm (T.arr 32 T.u8) (treS 0 (nilOf (List (BitVec 8))) (List.take 40 l) x).2))]
  false) ∧
  ((false || !eqL T.u8 (rootR (treS 0 (nilOf (List (BitVec 8))) (List.take 40 l) x).2) (rootR (treS 0 (nilOf (List (BitVec 8))) (List.take 40 l) x).2)) = false ∧
  true = true ∧
  SObj.cells
  [SC.run (Run.one (DV.i64 (treS 0 (nilOf (List (BitVec 8))) (List.take 40 l) x).1)),
  SC.run (Run.one (DV.imm (T.arr 32 T.u8) (treS 0 (nilOf (List (BitVec 8))) (List.take 40 l) x).2)), SC.run (Run.one (DV.bool true))]
  false =
  SObj.cells
  [SC.run (Run.one (DV.i64 (treS 0 (nilOf (List (BitVec 8))) (List.take 40 l) x).1)),
  SC.run (Run.one (DV.imm (T.arr 32 T.u8) (treS 0 (nilOf (List (BitVec 8))) (List.take 40 l) x).2)), SC.run (Run.one (DV.bool true))]
  false) ∧
  ((false || !eqL T.u8 (rootR (treS 0 (nilOf (List (BitVec 8))) (List.take 40 l) x).2) (rootR (treS 0 (nilOf (List (BitVec 8))) (List.take 40 l) x).2) ||
  (treS 0 (nilOf (List (BitVec 8))) (List.take 40 l) x).1 != (treS 0 (nilOf (List (BitVec 8))) (List.take 40 l) x).1) =
  false ∧
  (true = true ∧ List.length (treS 0 (nilOf (List (BitVec 8))) (List.take 40 l) x).2 ≤ 100) ∧
  SObj.cells
  [SC.run (Run.one (DV.i64 (treS 0 (nilOf (List (BitVec 8))) (List.take 40 l) x).1)),
  SC.run (Run.one (DV.imm (T.arr 32 T.u8) (treS 0 (nilOf (List (BitVec 8))) (List.take 40 l) x).2)), SC.run (Run.one (DV.bool true))]
  false =
  SObj.cells
  [SC.run (Run.one (DV.i64 (treS 0 (nilOf (List (BitVec 8))) (List.take 40 l) x).1)),
  SC.run (Run.one (DV.imm (T.arr 32 T.u8) (treS 0 (nilOf (List (BitVec 8))) (List.take 40 l) x).2)), SC.run (Run.one (DV.bool true))]
  false) ∧
  ((false || !eqL T.u8 (rootR (treS 0 (nilOf (List (BitVec 8))) (List.take 40 l) x).2) (rootR (treS 0 (nilOf (List (BitVec 8))) (List.take 40 l) x).2) ||
  (treS 0 (nilOf (List (BitVec 8))) (List.take 40 l) x).1 != (treS 0 (nilOf (List (BitVec 8))) (List.take 40 l) x).1 ||
  !sameDs (treS 0 (nilOf (List (BitVec 8))) (List.take 40 l) x).2 (treS 0 (nilOf (List (BitVec 8))) (List.take 40 l) x).2) =
  false →
  within (ofN x) (List.length (List.take (Int.toNat 40) l))) ∧
  ((false || !eqL T.u8 (rootR (treS 0 (nilOf (List (BitVec 8))) (List.take 40 l) x).2) (rootR (treS 0 (nilOf (List (BitVec 8))) (List.take 40 l) x).2) ||
  (treS 0 (nilOf (List (BitVec 8))) (List.take 40 l) x).1 != (treS 0 (nilOf (List (BitVec 8))) (List.take 40 l) x).1 ||
  !sameDs (treS 0 (nilOf (List (BitVec 8))) (List.take 40 l) x).2 (treS 0 (nilOf (List (BitVec 8))) (List.take 40 l) x).2) =
  false ∧
  true = true ∧ okT' (treS 0 (nilOf (List (BitVec 8))) (List.take 40 l) x).1 (treS 0 (nilOf (List (BitVec 8))) (List.take 40 l) x).2) ∧
  ((false || !eqL T.u8 (rootR (treS 0 (nilOf (List (BitVec 8))) (List.take 40 l) x).2) (rootR (treS 0 (nilOf (List (BitVec 8))) (List.take 40 l) x).2) ||
  (treS 0 (nilOf (List (BitVec 8))) (List.take 40 l) x).1 != (treS 0 (nilOf (List (BitVec 8))) (List.take 40 l) x).1 ||
  !sameDs (treS 0 (nilOf (List (BitVec 8))) (List.take 40 l) x).2 (treS 0 (nilOf (List (BitVec 8))) (List.take 40 l) x).2) =
  false →
  within (ofN x) (List.length (List.take (Int.toNat 40) l))) ∧
  ((false || !eqL T.u8 (rootR (treS 0 (nilOf (List (BitVec 8))) (List.take 40 l) x).2) (rootR (treS 0 (nilOf (List (BitVec 8))) (List.take 40 l) x).2) ||
  (treS 0 (nilOf (List (BitVec 8))) (List.take 40 l) x).1 != (treS 0 (nilOf (List (BitVec 8))) (List.take 40 l) x).1 ||
  !sameDs (treS 0 (nilOf (List (BitVec 8))) (List.take 40 l) x).2 (treS 0 (nilOf (List (BitVec 8))) (List.take 40 l) x).2) =
  false ∧
  okT' (treS 0 (nilOf (List (BitVec 8))) (List.take 40 l) x).1 (treS 0 (nilOf (List (BitVec 8))) (List.take 40 l) x).2) ∧
  ((false || !eqL T.u8 (rootR (treS 0 (nilOf (List (BitVec 8))) (List.take 40 l) x).2) (rootR (treS 0 (nilOf (List (BitVec 8))) (List.take 40 l) x).2) ||
  (treS 0 (nilOf (List (BitVec 8))) (List.take 40 l) x).1 != (treS 0 (nilOf (List (BitVec 8))) (List.take 40 l) x).1 ||
  !sameDs (treS 0 (nilOf (List (BitVec 8))) (List.take 40 l) x).2 (treS 0 (nilOf (List (BitVec 8))) (List.take 40 l) x).2 ||
  pushE (treS 0 (nilOf (List (BitVec 8))) (List.take 40 l) x).1 != pushE (treS 0 (nilOf (List (BitVec 8))) (List.take 40 l) x).1) =
  true →
  false = true) ∧
  ((false || !eqL T.u8 (rootR (treS 0 (nilOf (List (BitVec 8))) (List.take 40 l) x).2) (rootR (treS 0 (nilOf (List (BitVec 8))) (List.take 40 l) x).2) ||
  (treS 0 (nilOf (List (BitVec 8))) (List.take 40 l) x).1 != (treS 0 (nilOf (List (BitVec 8))) (List.take 40 l) x).1 ||
  !sameDs (treS 0 (nilOf (List (BitVec 8))) (List.take 40 l) x).2 (treS 0 (nilOf (List (BitVec 8))) (List.take 40 l) x).2 ||
  pushE (treS 0 (nilOf (List (BitVec 8))) (List.take 40 l) x).1 != pushE (treS 0 (nilOf (List (BitVec 8))) (List.take 40 l) x).1) =
  false →
  inI64 (ofN x + 1) ∧
  ∃ (x' : Nat),
  x' ≤ List.length (List.take 40 l) ∧
  List.length (List.take 40 l) - x' < List.length (List.take 40 l) - x ∧
  ofN x + 1 = ofN x' ∧
  (pushN (treS 0 (nilOf (List (BitVec 8))) (List.take 40 l) x).1 = (treS 0 (nilOf (List (BitVec 8))) (List.take 40 l) x').1 ∧
  pushP (treS 0 (nilOf (List (BitVec 8))) (List.take 40 l) x).1 (treS 0 (nilOf (List (BitVec 8))) (List.take 40 l) x).2
  (List.getD (List.take (Int.toNat 40) l) (Int.toNat (ofN x)) (T.dflt (T.arr 32 T.u8))) =
  (treS 0 (nilOf (List (BitVec 8))) (List.take 40 l) x').2 ∧
  true = true) ∧
  pushN (treS 0 (nilOf (List (BitVec 8))) (List.take 40 l) x).1 = (treS 0 (nilOf (List (BitVec 8))) (List.take 40 l) x').1 ∧
  pushP (treS 0 (nilOf (List (BitVec 8))) (List.take 40 l) x).1 (treS 0 (nilOf (List (BitVec 8))) (List.take 40 l) x).2
  (List.getD (List.take (Int.toNat 40) l) (Int.toNat (ofN x)) (T.dflt (T.arr 32 T.u8))) =
  (treS 0 (nilOf (List (BitVec 8))) (List.take 40 l) x').2)) ∧
  (decide (ofN x < ofN (List.length (List.take (Int.toNat 40) l))) = false →
  ((true = true ∧ okT' (treS 0 (nilOf (List (BitVec 8))) (List.take 40 l) x).1 (treS 0 (nilOf (List (BitVec 8))) (List.take 40 l) x).2) ∧
  SObj.cells
  [SC.run (Run.one (DV.i64 (treS 0 (nilOf (List (BitVec 8))) (List.take 40 l) x).1)),
  SC.run (Run.one (DV.imm (T.arr 32 T.u8) (treS 0 (nilOf (List (BitVec 8))) (List.take 40 l) x).2)), SC.run (Run.one (DV.bool true))]
  false =
  SObj.cells
  [SC.run (Run.one (DV.i64 (treS 0 (nilOf (List (BitVec 8))) (List.take 40 l) x).1)),
  SC.run (Run.one (DV.imm (T.arr 32 T.u8) (treS 0 (nilOf (List (BitVec 8))) (List.take 40 l) x).2)), SC.run (Run.one (DV.bool true))]
  false) ∧
  (true = true ∧
  List.length (treS 0 (nilOf (List (BitVec 8))) (List.take 40 l) x).2 ≤ 100 ∧
  SObj.cells
  [SC.run (Run.one (DV.i64 (treS 0 (nilOf (List (BitVec 8))) (List.take 40 l) x).1)),
  SC.run (Run.one (DV.imm (T.arr 32 T.u8) (treS 0 (nilOf (List (BitVec 8))) (List.take 40 l) x).2))]
  false =
  SObj.cells
  [SC.run (Run.one (DV.i64 (treS 0 (nilOf (List (BitVec 8))) (List.take 40 l) x).1)),
  SC.run (Run.one (DV.imm (T.arr 32 T.u8) (treS 0 (nilOf (List (BitVec 8))) (List.take 40 l) x).2))]
  false) ∧
  ((true && eqL T.u8 (rootR (treS 0 (nilOf (List (BitVec 8))) (List.take 40 l) x).2) (rootR (treS 0 (nilOf (List (BitVec 8))) (List.take 40 l) x).2)) = true ∧
  true = true ∧
  SObj.cells
  [SC.run (Run.one (DV.i64 (treS 0 (nilOf (List (BitVec 8))) (List.take 40 l) x).1)),
  SC.run (Run.one (DV.imm (T.arr 32 T.u8) (treS 0 (nilOf (List (BitVec 8))) (List.take 40 l) x).2)), SC.run (Run.one (DV.bool true))]
  false =
  SObj.cells
  [SC.run (Run.one (DV.i64 (treS 0 (nilOf (List (BitVec 8))) (List.take 40 l) x).1)),
  SC.run (Run.one (DV.imm (T.arr 32 T.u8) (treS 0 (nilOf (List (BitVec 8))) (List.take 40 l) x).2)), SC.run (Run.one (DV.bool true))]
  false) ∧
  (true && eqL T.u8 (rootR (treS 0 (nilOf (List (BitVec 8))) (List.take 40 l) x).2) (rootR (treS 0 (nilOf (List (BitVec 8))) (List.take 40 l) x).2) &&
  (treS 0 (nilOf (List (BitVec 8))) (List.take 40 l) x).1 == (treS 0 (nilOf (List (BitVec 8))) (List.take 40 l) x).1 &&
  true) =
  true))) ∧
  (true = false →
  (true = true → false = true) ∧
  (true = false →
  (∃ (x : Nat), x ≤ List.length (List.take 40 l) ∧ False) ∧
  ∀ (x : Nat),
  x ≤ List.length (List.take 40 l) →
  (decide (ofN x < ofN (List.length (List.take (Int.toNat 40) l))) = true → False) ∧ (decide (ofN x < ofN (List.length (List.take (Int.toNat 40) l))) = false → False)))) := by
 have e30 : Int.toNat 30 = 30 := rfl
 rw [e30]
 have hk := fun k => treS_ok (n := 0) (ps := []) (l := l.take 40) okT_zero k
 have hl := fun k => okT_len (hk k)
 have e40 : Int.toNat 40 = 40 := rfl
 have hb : (l.take 40).length ≤ 40 := by rw [List.length_take]; omega
 rw [e40]
 refine ⟨by decide, by decide, h, h, fun q => q, fun _ => ⟨fun _ => ⟨fun q => q, fun _ => ⟨⟨0, Nat.zero_le _, rfl, ⟨rfl, rfl, rfl⟩, rfl, rfl⟩, fun k _ => ⟨fun c => ?_, fun _ => ?_⟩⟩⟩, fun q => absurd q (by decide)⟩⟩
 · have c : k < (l.take 40).length := by
     have c : (k : Int) < ((l.take 40).length : Int) := of_decide_eq_true c
     omega
   have w : within (ofN k) (l.take 40).length := ⟨by show (0 : Int) ≤ (k : Int); omega, by show (k : Int) < _; omega⟩
   rw [eqL_self, same_self, bne_self_eq_false, bne_self_eq_false]
   exact ⟨⟨⟨rfl, hk k⟩, rfl⟩, ⟨rfl, hl k, rfl⟩, ⟨rfl, rfl, rfl⟩, ⟨rfl, ⟨rfl, hl k⟩, rfl⟩, fun _ => w, ⟨rfl, rfl, hk k⟩, fun _ => w, ⟨rfl, hk k⟩, fun q => q, fun _ => ⟨by show inI64 ((k : Int) + 1); unfold inI64; omega, k + 1, by omega, by omega, rfl, ⟨rfl, rfl, rfl⟩, rfl, rfl⟩⟩
 · rw [eqL_self, beq_self_eq_true]
   exact ⟨⟨⟨rfl, hk k⟩, rfl⟩, ⟨rfl, hl k, rfl⟩, ⟨rfl, rfl, rfl⟩, rfl⟩

theorem law27_MerklePeaks_spec : Vse.Spec P f_law27_MerklePeaks (D [.slc T_Dig, .i64] [.bool] (fun _ => none) (fun _ => (true, ()))) :=
 spec_fn (l := [(f_law27_cut, c_cut27), (f_merkle_New, c_NewT), (f_merkle_Load, c_LoadT), (f_merkle_Tree_Root, c_RootT), (f_merkle_Tree_Len, c_LenT), (f_merkle_Tree_Peaks, c_PeaksT), (f_merkle_Tree_Push, c_PushT), (f_merkle_Root, c_Root), (f_law27_alive, c_true27)])
  ⟨law27_cut_spec, merkle_NewT_spec, merkle_LoadT_spec, merkle_RootT_spec, merkle_LenT_spec, merkle_PeaksT_spec, merkle_PushT_spec, merkle_Root_spec, law27_alive_spec, trivial⟩ h_law27_MerklePeaks rfl rfl
  fun x _ _ => body_ok (an_Peaks27 (x.1.take 40)) (law27_MerklePeaks_vc x.1 x.2.1) (by kernel_rfl)

def c_lawB (b : Bool) : PC := D [.i64, .slc T_Dig, .slc T_Dig] [.bool] (fun x => some (if b then okLd x.1 (x.2.1.take 30) else ¬ okLd x.1 (x.2.1.take 30))) (fun _ => (true, ()))

theorem law27_MerkleTreesB_spec : ∀ b, Vse.Spec P f_law27_MerkleTrees (c_lawB b)
 | true => spec_fn (l := [(f_law27_cut, c_cut27), (f_merkle_Load, c_LoadT), (f_ref27_Load, c_LoadR), (f_merkle_Tree_Root, c_RootT), (f_ref27_Tree_Root, c_RootR), (f_merkle_Tree_Len, c_LenT), (f_merkle_Tree_Peaks, c_PeaksT), (f_ref27_Same, c_Same27), (f_merkle_Tree_Push, c_PushT), (f_ref27_Tree_Push, c_PushR), (f_law27_alive, c_true27)])
   ⟨law27_cut_spec, merkle_LoadT_spec, ref27_LoadR_spec, merkle_RootT_spec, ref27_RootR_spec, merkle_LenT_spec, merkle_PeaksT_spec, ref27_Same_spec, merkle_PushT_spec, ref27_PushR_spec, law27_alive_spec, trivial⟩ h_law27_MerkleTrees rfl rfl
   fun x h _ => body_ok (an_TreesY x.1 (x.2.1.take 30) (x.2.2.1.take 40)) (law27_MerkleTreesY_vc x.1 x.2.1 x.2.2.1 (got h)) (by kernel_rfl)
 | false => spec_fn (l := [(f_law27_cut, c_cut27), (f_merkle_New, c_NewT), (f_merkle_Load, c_LoadTn), (f_ref27_Load, c_LoadRn), (f_merkle_Tree_Root, c_RootT), (f_ref27_Tree_Root, c_RootR), (f_merkle_Tree_Len, c_LenT), (f_merkle_Tree_Peaks, c_PeaksT), (f_ref27_Same, c_Same27), (f_merkle_Tree_Push, c_PushT), (f_ref27_Tree_Push, c_PushR), (f_law27_alive, c_true27)])
   ⟨law27_cut_spec, merkle_NewT_spec, merkle_LoadTn_spec, ref27_LoadRn_spec, merkle_RootT_spec, ref27_RootR_spec, merkle_LenT_spec, merkle_PeaksT_spec, ref27_Same_spec, merkle_PushT_spec, ref27_PushR_spec, law27_alive_spec, trivial⟩ h_law27_MerkleTrees rfl rfl
   fun x h _ => body_ok (an_TreesN (x.2.2.1.take 40)) (law27_MerkleTreesN_vc x.1 x.2.1 x.2.2.1 (got h)) (by kernel_rfl)

theorem law27_MerkleTrees_spec : Vse.Spec P f_law27_MerkleTrees (D [.i64, .slc T_Dig, .slc T_Dig] [.bool] (fun _ => none) (fun _ => (true, ()))) :=
 spec_parts true law27_MerkleTreesB_spec fun x _ => by
  by_cases h : okLd x.1 (x.2.1.take 30)
  · exact ⟨true, h, rfl, rfl⟩
  · exact ⟨false, h, rfl, rfl⟩

end Go.Sal
