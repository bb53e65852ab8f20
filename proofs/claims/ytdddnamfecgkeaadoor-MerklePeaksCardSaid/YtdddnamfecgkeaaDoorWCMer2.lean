/- Contracts of merkle and of ref27: roots of rows, paths, growths; the laws' helpers. -/
import Derived.Test.YtdddnamfecgkeaaDoorWCMer
import Derived.Test.YtdddnamfecgkeaaDoorWSalMer
set_option maxRecDepth 100000
namespace Go.Sal
open Go.Vse Go.Sal.Nm

def c_Root : PC := D [.slc T_Dig] [T_Dig, .i64] (fun _ => none) (fun x => ((rootA x.1).1, (rootA x.1).2, ()))

theorem merkle_Root_vc (l : List Dig) :
 (decide (1048576 < ofN (List.length l)) = true → List.replicate 32 0#8 = (rootA l).1 ∧ 3 = (rootA l).2) ∧
  (decide (1048576 < ofN (List.length l)) = false → (List.length l < 1048577 ∧ List.length l ≤ 1048576) ∧ rootV l = (rootA l).1 ∧ 0 = (rootA l).2) := by
 refine ⟨fun h => ?_, fun h => ?_⟩
 · simp only [ofN, decide_eq_true_eq] at h
   unfold rootA
   rw [if_neg (by omega)]
   exact ⟨rfl, rfl⟩
 · simp only [ofN, decide_eq_false_iff_not] at h
   unfold rootA
   rw [if_pos (by omega)]
   exact ⟨⟨by omega, by omega⟩, rfl, rfl⟩

def c_path (n : Nat) : PC := O [.slc T_Dig, .i64] T_Dig t_api_Digest 32 [] (fun x => some ((1 ≤ x.1.length ∧ x.1.length < n ∧ x.1.length ≤ 1048576) ∧ leP 0 x.2.1 ∧ leP x.2.1 x.1.length)) (fun x => (pathV x.1 x.2.1, ()))

theorem pathF_len : ∀ (k : Nat) (l : List Dig) (i : Int), (pathF k l i).length ≤ k
 | 0, _, _ => by simp [pathF]
 | k + 1, l, i => by
   rw [pathF]
   split
   · simp
   · split
     · have := pathF_len k (l.take (partN l.length)) i
       simp; omega
     · have := pathF_len k (l.drop (partN l.length)) (i - (partN l.length : Int))
       simp; omega
theorem pathV_len (l : List Dig) (i : Int) : (pathV l i).length ≤ l.length := pathF_len _ _ _

theorem merkle_path_vc (n : Nat) (l : List Dig) (i : Int) (h : 1 ≤ l.length ∧ l.length < n + 1 ∧ l.length ≤ 1048576) (h0 : (0 : Int) ≤ i) (h1 : i ≤ (l.length : Int)) :
 ((ofN (List.length l) == 1) = true → pathV l i = nilOf (T.den (T.arr 32 T.u8))) ∧
  ((ofN (List.length l) == 1) = false →
  (2 ≤ List.length l ∧ List.length l ≤ 1048576) ∧
  (decide (i < ofN (List.length (List.take (partN (List.length l)) l))) = true →
  ((1 ≤ List.length (List.take (partN (List.length l)) l) ∧ List.length (List.take (partN (List.length l)) l) < n ∧ List.length (List.take (partN (List.length l)) l) ≤ 1048576) ∧
  0 ≤ i ∧ i ≤ ofN (List.length (List.take (partN (List.length l)) l))) ∧
  (List.length (List.drop (partN (List.length l)) l) < 1048577 ∧ List.length (List.drop (partN (List.length l)) l) ≤ 1048576) ∧
  List.length (pathV (List.take (partN (List.length l)) l) i) + List.length [rootV (List.drop (partN (List.length l)) l)] ≤ ROOM ∧
  pathV (List.take (partN (List.length l)) l) i ++ [rootV (List.drop (partN (List.length l)) l)] = pathV l i) ∧
  (decide (i < ofN (List.length (List.take (partN (List.length l)) l))) = false →
  inI64 (i - ofN (List.length (List.take (partN (List.length l)) l))) ∧
  ((1 ≤ List.length (List.drop (partN (List.length l)) l) ∧ List.length (List.drop (partN (List.length l)) l) < n ∧ List.length (List.drop (partN (List.length l)) l) ≤ 1048576) ∧
  0 ≤ i - ofN (List.length (List.take (partN (List.length l)) l)) ∧
  i - ofN (List.length (List.take (partN (List.length l)) l)) ≤ ofN (List.length (List.drop (partN (List.length l)) l))) ∧
  (List.length (List.take (partN (List.length l)) l) < 1048577 ∧ List.length (List.take (partN (List.length l)) l) ≤ 1048576) ∧
  List.length (pathV (List.drop (partN (List.length l)) l) (i - ofN (List.length (List.take (partN (List.length l)) l)))) + List.length [rootV (List.take (partN (List.length l)) l)] ≤
  ROOM ∧
  pathV (List.drop (partN (List.length l)) l) (i - ofN (List.length (List.take (partN (List.length l)) l))) ++ [rootV (List.take (partN (List.length l)) l)] = pathV l i)) := by
 have hp := pathV_len l i
 refine ⟨fun g => ?_, fun g => ?_⟩
 · exact pathV_one (by simp only [ofN, beq_iff_eq] at g; omega)
 have h2 : 2 ≤ l.length := by
  simp only [ofN, beq_eq_false_iff_ne, ne_eq] at g; omega
 have h3 := partN_lt h2
 have h4 := partN_pos l.length
 have ht : (l.take (partN l.length)).length = partN l.length := by rw [List.length_take]; omega
 have hd : (l.drop (partN l.length)).length = l.length - partN l.length := List.length_drop
 have q1 := pathV_len (l.take (partN l.length)) i
 have q2 := pathV_len (l.drop (partN l.length)) (i - ofN (partN l.length))
 rw [ht, hd]
 rw [ht] at q1
 rw [hd] at q2
 have hs := pathV_step (i := i) h2
 refine ⟨⟨h2, h.2.2⟩, fun c => ⟨⟨⟨h4, by omega, by omega⟩, h0, ?_⟩, ⟨by omega, by omega⟩, by unfold ROOM; simp; omega, ?_⟩, fun c => ⟨?_, ⟨⟨by omega, by omega, by omega⟩, ?_, ?_⟩, ⟨by omega, by omega⟩, by unfold ROOM; simp; omega, ?_⟩⟩
 · have c := of_decide_eq_true c
   unfold ofN at *; omega
 · have c := of_decide_eq_true c
   rw [hs, if_pos c]
 · have c := of_decide_eq_false c
   unfold inI64; unfold ofN at *; omega
 · have c := of_decide_eq_false c
   unfold ofN at *; omega
 · have c := of_decide_eq_false c
   unfold ofN at *; omega
 · have c := of_decide_eq_false c
   rw [hs, if_neg c]

def c_cut27 : PC := D [.slc T_Dig, .i64] [.slc T_Dig] (fun x => some (leP 0 x.2.1)) (fun x => (x.1.take x.2.1.toNat, ()))

theorem law27_cut_vc (l : List Dig) (n : Int) (h : (0 : Int) ≤ n) :
 (decide (n < ofN (List.length l)) = true → (0 ≤ n ∧ n ≤ ofN (List.length l)) ∧ List.drop 0 (List.take (Int.toNat n) l) = List.take (Int.toNat n) l) ∧
  (decide (n < ofN (List.length l)) = false → l = List.take (Int.toNat n) l) := by
 refine ⟨fun g => ⟨⟨h, ?_⟩, List.drop_zero⟩, fun g => ?_⟩
 · simp only [ofN, decide_eq_true_eq] at g
   unfold ofN; omega
 · simp only [ofN, decide_eq_false_iff_not] at g
   exact (List.take_of_length_le (by omega)).symm

theorem merkle_Root_spec : Vse.Spec P f_merkle_Root c_Root :=
 spec_fn (l := [(f_merkle_root, c_root 1048577)]) ⟨merkle_root_spec _, trivial⟩ h_merkle_Root rfl rfl fun x _ _ => body_ok an_none (merkle_Root_vc x.1) (by kernel_rfl)

theorem law27_cut_spec : Vse.Spec P f_law27_cut c_cut27 :=
 spec_fn (l := []) trivial h_law27_cut rfl rfl fun x h _ => body_ok an_none (law27_cut_vc x.1 x.2.1 (got h)) (by kernel_rfl)

theorem merkle_path_spec : ∀ n, Vse.Spec P f_merkle_path (c_path n)
 | 0 => spec_fn (l := []) trivial h_merkle_path rfl rfl fun x h _ => absurd (got h).1.2.1 (Nat.not_lt_zero _)
 | n + 1 => spec_fn (l := [(f_merkle_parts, c_parts), (f_merkle_root, c_root 1048577), (f_merkle_path, c_path n)]) ⟨merkle_parts_spec, merkle_root_spec _, merkle_path_spec n, trivial⟩
     h_merkle_path rfl rfl fun x h _ => body_ok an_none (merkle_path_vc n x.1 x.2.1 (got h).1 (got h).2.1 (got h).2.2) (by kernel_rfl)

end Go.Sal
