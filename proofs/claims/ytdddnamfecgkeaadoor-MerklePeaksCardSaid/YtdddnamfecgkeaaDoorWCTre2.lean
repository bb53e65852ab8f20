/- Contracts of the document's trees. -/
import Derived.Test.YtdddnamfecgkeaaDoorWCTre
set_option maxRecDepth 100000
namespace Go.Sal
open Go.Vse Go.Sal.Nm

def c_RootR : PC := keepG [1] (gM OFr [] fun s _ => ⟨some (s.2.1.length ≤ 100), .sv (svOfT T_Dig (rootR s.2.1)), oObj OFr 2 s⟩)
def an_RootRL (ps : List Dig) : Nat → SState → Option LoopAnn
 | 5, S => some { X := Nat, slots := fun k => [(4, .sv (.dv (.i64 (ofN k - 1))))], objs := fun k => [(x_labAt S 3, .cells [.run (.many .u8 32 (rootR (ps.drop k)))] false)], inv := fun k => k + 1 ≤ ps.length, meas := fun k => k }
 | _, _ => none
def an_RootR (ps : List Dig) : Ann := { at_ := an_RootRL ps, pins := [1], prune := 1 }
def c_PushR : PC := gM OFr [T_Dig] fun s x => ⟨some (okT' s.1 s.2.1), .sv (.dv (.i64 (pushE s.1))), oObj OFr 2 (pushN s.1, pushP s.1 s.2.1 x.1, ())⟩
def an_PushRL (n : Int) (ps : List Dig) (leaf : Dig) : Nat → SState → Option LoopAnn
 | 5, _ => some { X := Nat, slots := fun j => [(5, .sv (.dv (.i64 (ofN (n.toNat / 2 ^ j)))))], objs := fun j => [(1, .cells [.run (.one (.i64 n)), .run (.one (.imm T_Dig (pushV ps leaf j)))] false)], inv := fun j => j + tones (n.toNat / 2 ^ j) = tones n.toNat, meas := fun j => tones n.toNat - j }
 | _, _ => none
def an_PushR (n : Int) (ps : List Dig) (leaf : Dig) : Ann := { at_ := an_PushRL n ps leaf, pins := [1], prune := 1 }

theorem ref27_RootR_vc (n : Int) (ps : List Dig) (h : ps.length ≤ 100) :
 ((ofN (List.length ps) == 0) = true →
  (List.length (nilOf (List (BitVec 8))) < 1048577 ∧ List.length (nilOf (List (BitVec 8))) ≤ 1048576) ∧ rootV (nilOf (List (BitVec 8))) = rootR ps ∧ n = n ∧ ps = ps) ∧
  ((ofN (List.length ps) == 0) = false →
  inI64 (ofN (List.length ps) - 1) ∧
  within (ofN (List.length ps) - 1) (List.length ps) ∧
  inI64 (ofN (List.length ps) - 2) ∧
  (∃ (x : Nat), x + 1 ≤ List.length ps ∧ ofN (List.length ps) - 2 = ofN x - 1 ∧ List.getD ps (Int.toNat (ofN (List.length ps) - 1)) (T.dflt (T.arr 32 T.u8)) = rootR (List.drop x ps)) ∧
  ∀ (x : Nat),
  x + 1 ≤ List.length ps →
  (decide (0 ≤ ofN x - 1) = true →
  within (ofN x - 1) (List.length ps) ∧
  inI64 (ofN x - 1 - 1) ∧
  ∃ (x' : Nat),
  x' + 1 ≤ List.length ps ∧
  x' < x ∧ ofN x - 1 - 1 = ofN x' - 1 ∧ nodeV (List.getD ps (Int.toNat (ofN x - 1)) (T.dflt (T.arr 32 T.u8))) (rootR (List.drop x ps)) = rootR (List.drop x' ps)) ∧
  (decide (0 ≤ ofN x - 1) = false → rootR (List.drop x ps) = rootR ps ∧ n = n ∧ ps = ps)) := by
 refine ⟨fun c => ?_, fun c => ?_⟩
 · have c : (ps.length : Int) = 0 := by simpa [ofN] using c
   have : ps = [] := List.eq_nil_of_length_eq_zero (by omega)
   subst this
   exact ⟨⟨by decide, by decide⟩, rootV_zero rfl, rfl, rfl⟩
 · have c : ¬ (ps.length : Int) = 0 := by simpa [ofN] using c
   refine ⟨by show inI64 ((ps.length : Int) - 1); unfold inI64; omega, by show within ((ps.length : Int) - 1) ps.length; unfold within; omega, by show inI64 ((ps.length : Int) - 2); unfold inI64; omega, ⟨ps.length - 1, by omega, by show (ps.length : Int) - 2 = ((ps.length - 1 : Nat) : Int) - 1; omega, ?_⟩, fun k hk => ⟨fun c2 => ?_, fun c2 => ?_⟩⟩
   · have e : Int.toNat (ofN ps.length - 1) = ps.length - 1 := by show Int.toNat ((ps.length : Int) - 1) = _; omega
     rw [e, rootR_last (by omega)]
   · have c2 : (0 : Int) ≤ (k : Int) - 1 := of_decide_eq_true c2
     refine ⟨by show within ((k : Int) - 1) ps.length; unfold within; omega, by show inI64 ((k : Int) - 1 - 1); unfold inI64; omega, k - 1, by omega, by omega, by show (k : Int) - 1 - 1 = ((k - 1 : Nat) : Int) - 1; omega, ?_⟩
     have e : Int.toNat (ofN k - 1) = k - 1 := by show Int.toNat ((k : Int) - 1) = _; omega
     have := rootR_at (ps := ps) (i := k - 1) (by omega)
     rw [show k - 1 + 1 = k by omega] at this
     rw [e, this]
   · have c2 : ¬ (0 : Int) ≤ (k : Int) - 1 := of_decide_eq_false c2
     have : k = 0 := by omega
     subst this
     exact ⟨by rw [List.drop_zero], rfl, rfl⟩

theorem ref27_PushR_vc (n : Int) (ps : List Dig) (leaf : Dig) (hd : leaf.length = 32) (h : okT' n ps) :
 (decide (1048576 ≤ n) = true → 3 = pushE n ∧ n = pushN n ∧ ps = pushP n ps leaf) ∧
  (decide (1048576 ≤ n) = false →
  List.length (nilOf (List (BitVec 8))) + List.length ps ≤ ROOM ∧
  List.length (nilOf (List (BitVec 8)) ++ ps) + List.length [leaf] ≤ ROOM ∧
  (∃ (x : Nat), x + tones (Int.toNat n / 2 ^ x) = tones (Int.toNat n) ∧ n = ofN (Int.toNat n / 2 ^ x) ∧ n = n ∧ nilOf (List (BitVec 8)) ++ ps ++ [leaf] = pushV ps leaf x) ∧
  ∀ (x : Nat),
  x + tones (Int.toNat n / 2 ^ x) = tones (Int.toNat n) →
  ofN 2 ≠ 0 ∧
  ((Int.tmod (ofN (Int.toNat n / 2 ^ x)) 2 == 1) = true →
  inI64 (ofN (List.length (pushV ps leaf x)) - 2) ∧
  inI64 (ofN (List.length (pushV ps leaf x)) - 2) ∧
  ((0 ≤ ofN (List.length (pushV ps leaf x)) - 2 ∧ ofN (List.length (pushV ps leaf x)) - 2 ≤ ofN (List.length (pushV ps leaf x))) ∧
  ofN (List.length (pushV ps leaf x)) - 2 = ofN (Int.toNat (ofN (List.length (pushV ps leaf x)) - 2))) ∧
  inI64 (ofN (List.length (pushV ps leaf x)) - 2) ∧
  within (ofN (List.length (pushV ps leaf x)) - 2) (List.length (pushV ps leaf x)) ∧
  inI64 (ofN (List.length (pushV ps leaf x)) - 1) ∧
  within (ofN (List.length (pushV ps leaf x)) - 1) (List.length (pushV ps leaf x)) ∧
  (0 <
  List.length
  [nodeV (List.getD (pushV ps leaf x) (Int.toNat (ofN (List.length (pushV ps leaf x)) - 2)) (T.dflt (T.arr 32 T.u8)))
  (List.getD (pushV ps leaf x) (Int.toNat (ofN (List.length (pushV ps leaf x)) - 1)) (T.dflt (T.arr 32 T.u8)))] ∧
  List.length (List.drop 0 (List.take (Int.toNat (ofN (List.length (pushV ps leaf x)) - 2)) (pushV ps leaf x))) +
  List.length
  [nodeV (List.getD (pushV ps leaf x) (Int.toNat (ofN (List.length (pushV ps leaf x)) - 2)) (T.dflt (T.arr 32 T.u8)))
  (List.getD (pushV ps leaf x) (Int.toNat (ofN (List.length (pushV ps leaf x)) - 1)) (T.dflt (T.arr 32 T.u8)))] ≤
  ROOM) ∧
  (ofN 2 ≠ 0 ∧ inI64 (Int.tdiv (ofN (Int.toNat n / 2 ^ x)) 2)) ∧
  ∃ (x' : Nat),
  x' + tones (Int.toNat n / 2 ^ x') = tones (Int.toNat n) ∧
  tones (Int.toNat n) - x' < tones (Int.toNat n) - x ∧
  Int.tdiv (ofN (Int.toNat n / 2 ^ x)) 2 = ofN (Int.toNat n / 2 ^ x') ∧
  n = n ∧
  List.drop 0 (List.take (Int.toNat (ofN (List.length (pushV ps leaf x)) - 2)) (pushV ps leaf x)) ++
  [nodeV (List.getD (pushV ps leaf x) (Int.toNat (ofN (List.length (pushV ps leaf x)) - 2)) (T.dflt (T.arr 32 T.u8)))
  (List.getD (pushV ps leaf x) (Int.toNat (ofN (List.length (pushV ps leaf x)) - 1)) (T.dflt (T.arr 32 T.u8)))] =
  pushV ps leaf x') ∧
  ((Int.tmod (ofN (Int.toNat n / 2 ^ x)) 2 == 1) = false → inI64 (n + 1) ∧ 0 = pushE n ∧ n + 1 = pushN n ∧ pushV ps leaf x = pushP n ps leaf)) := by
 obtain ⟨h0, h1, h2⟩ := h
 have hl := popc_le n.toNat
 have ht := tones_le n.toNat
 refine ⟨fun c => ?_, fun c => ?_⟩
 · have c : ¬ n < 1048576 := by have := of_decide_eq_true c; omega
   exact ⟨(if_neg c).symm, (if_neg c).symm, (if_neg c).symm⟩
 · have c : n < 1048576 := by have := of_decide_eq_false c; omega
   refine ⟨by show 0 + ps.length ≤ 4294967296; omega, by show ps.length + 1 ≤ 4294967296; omega, ⟨0, by simp, by simp [ofN]; omega, rfl, (push_zero ps leaf).symm⟩, fun j hj => ⟨by decide, fun c2 => ?_, fun c2 => ?_⟩⟩
   · generalize hm : n.toNat / 2 ^ j = m at *
     have hmb : m ≤ 1048576 := by rw [← hm]; exact Nat.le_trans (Nat.div_le_self _ _) (by omega)
     have e1 : Int.tmod (ofN m) 2 = ((m % 2 : Nat) : Int) := by
      show Int.tmod (m : Int) 2 = ((m % 2 : Nat) : Int)
      rw [Int.tmod_eq_emod_of_nonneg (by omega)]; omega
     have c2 : m % 2 = 1 := by
      rw [e1] at c2
      have : ((m % 2 : Nat) : Int) = 1 := by simpa using c2
      omega
     have e2 : Int.tdiv (ofN m) 2 = ofN (m / 2) := by
      show Int.tdiv (m : Int) 2 = ((m / 2 : Nat) : Int)
      rw [Int.tdiv_eq_ediv_of_nonneg (by omega)]; omega
     have ho := tones_odd c2
     have hlen := push_len (ps := ps) (leaf := leaf) (j := j) (by omega)
     have hs := push_step (ps := ps) (leaf := leaf) (j := j) (by omega)
     have g1 := push_get1 (ps := ps) (leaf := leaf) (d := T_Dig.dflt) (j := j)
     have g2 := push_get2 (ps := ps) (leaf := leaf) (d := T_Dig.dflt) (j := j) (by omega)
     generalize pushV ps leaf j = q at *
     rw [hlen]
     have k2 : Int.toNat (ofN (ps.length - j + 1) - 2) = ps.length - j - 1 := by show Int.toNat (((ps.length - j + 1 : Nat) : Int) - 2) = _; omega
     have k1 : Int.toNat (ofN (ps.length - j + 1) - 1) = ps.length - j := by show Int.toNat (((ps.length - j + 1 : Nat) : Int) - 1) = _; omega
     have w2 : inI64 (ofN (ps.length - j + 1) - 2) := by show inI64 (((ps.length - j + 1 : Nat) : Int) - 2); unfold inI64; omega
     have w1 : inI64 (ofN (ps.length - j + 1) - 1) := by show inI64 (((ps.length - j + 1 : Nat) : Int) - 1); unfold inI64; omega
     have v2 : within (ofN (ps.length - j + 1) - 2) (ps.length - j + 1) := by show within (((ps.length - j + 1 : Nat) : Int) - 2) _; unfold within; omega
     have v1 : within (ofN (ps.length - j + 1) - 1) (ps.length - j + 1) := by show within (((ps.length - j + 1 : Nat) : Int) - 1) _; unfold within; omega
     rw [k2, k1, e2, List.drop_zero]
     refine ⟨w2, w2, ⟨⟨by show (0 : Int) ≤ ((ps.length - j + 1 : Nat) : Int) - 2; omega, by show ((ps.length - j + 1 : Nat) : Int) - 2 ≤ ((ps.length - j + 1 : Nat) : Int); omega⟩, by show ((ps.length - j + 1 : Nat) : Int) - 2 = ((ps.length - j - 1 : Nat) : Int); omega⟩, w2, v2, w1, v1, ⟨Nat.zero_lt_succ _, ?_⟩, ⟨by decide, by show inI64 ((m / 2 : Nat) : Int); unfold inI64; omega⟩, j + 1, ?_, by omega, ?_, rfl, ?_⟩
     · rw [List.length_take, List.length_cons, List.length_nil]
       show _ ≤ 4294967296
       omega
     · rw [Nat.pow_succ, ← Nat.div_div_eq_div_mul, hm]; omega
     · rw [Nat.pow_succ, ← Nat.div_div_eq_div_mul, hm]
     · rw [← hs, g1, g2]
   · generalize hm : n.toNat / 2 ^ j = m at *
     have e1 : Int.tmod (ofN m) 2 = ((m % 2 : Nat) : Int) := by
      show Int.tmod (m : Int) 2 = ((m % 2 : Nat) : Int)
      rw [Int.tmod_eq_emod_of_nonneg (by omega)]; omega
     have c2 : ¬ m % 2 = 1 := by
      rw [e1] at c2
      have : ¬ ((m % 2 : Nat) : Int) = 1 := by simpa using c2
      omega
     rw [tones_even c2] at hj
     have hj : j = tones n.toNat := by omega
     refine ⟨by unfold inI64; omega, (if_pos c).symm, (if_pos c).symm, ?_⟩
     rw [hj]
     exact (if_pos c).symm

theorem ref27_RootR_spec : Vse.Spec P f_ref27_Tree_Root c_RootR := spec_keep [1] <| spec_gm (l := [(f_ref27_root, c_root 1048577), (f_ref27_Node, c_Node)]) ⟨ref27_root_spec 1048577, ref27_Node_spec, trivial⟩ h_ref27_Tree_Root rfl rfl fun s x h _ _ => by
 obtain ⟨n, ps, _⟩ := s
 exact bodyG_ok (an_RootR ps) (ref27_RootR_vc n ps (got h)) (by kernel_rfl)

theorem ref27_PushR_spec : Vse.Spec P f_ref27_Tree_Push c_PushR := spec_gm (l := [(f_ref27_Node, c_Node)]) ⟨ref27_Node_spec, trivial⟩ h_ref27_Tree_Push rfl rfl fun s x h _ ok => by
 obtain ⟨n, ps, _⟩ := s
 exact bodyG_ok (an_PushR n ps x.1) (ref27_PushR_vc n ps x.1 ok.1.1 (got h)) (by kernel_rfl)

end Go.Sal
