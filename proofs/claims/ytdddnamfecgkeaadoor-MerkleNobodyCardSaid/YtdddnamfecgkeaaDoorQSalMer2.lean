/- Proofs in trees of hashes, as plain data. No program in sight. -/
import Derived.Test.YtdddnamfecgkeaaDoorQSalMer
namespace Go.Sal
open Go.Vse
def pathF : Nat → List Dig → Int → List Dig
  | 0, _, _ => []
  | k + 1, l, i => if l.length = 1 then [] else
    if i < (partN l.length : Int) then pathF k (l.take (partN l.length)) i ++ [rootV (l.drop (partN l.length))]
    else pathF k (l.drop (partN l.length)) (i - (partN l.length : Int)) ++ [rootV (l.take (partN l.length))]
def pathV (l : List Dig) (i : Int) : List Dig := pathF l.length l i
def growF : Nat → List Dig → Int → Bool → List Dig
  | 0, _, _, _ => []
  | k + 1, l, m, whole => if m = (l.length : Int) then (if whole = true then [] else [rootV l]) else
    if m ≤ (partN l.length : Int) then growF k (l.take (partN l.length)) m whole ++ [rootV (l.drop (partN l.length))]
    else growF k (l.drop (partN l.length)) (m - (partN l.length : Int)) false ++ [rootV (l.take (partN l.length))]
def growV (l : List Dig) (m : Int) (whole : Bool) : List Dig := growF l.length l m whole
def rootA (l : List Dig) : Dig × Int := if l.length ≤ 1048576 then (rootV l, 0) else (zero32, 3)
def pathA (l : List Dig) (i : Int) : List Dig × Int := if l.length ≤ 1048576 then (if 0 ≤ i ∧ i < (l.length : Int) then (pathV l i, 0) else ([], 270)) else ([], 3)
def growA (l : List Dig) (m : Int) : List Dig × Int := if l.length ≤ 1048576 then (if 0 ≤ m ∧ m ≤ (l.length : Int) then (if m = 0 then ([], 0) else (growV l m true, 0)) else ([], 270)) else ([], 3)

theorem pathF_eq : ∀ (k : Nat) (l : List Dig) (i : Int), 1 ≤ l.length → l.length ≤ k → pathF k l i = pathV l i := by
  intro k
  induction k using Nat.strongRecOn with
  | _ k ih =>
    intro l i h1 h
    unfold pathV
    obtain ⟨j, rfl⟩ : ∃ j, k = j + 1 := ⟨k - 1, by omega⟩
    obtain ⟨m, hm⟩ : ∃ m, l.length = m + 1 := ⟨l.length - 1, by omega⟩
    by_cases h2 : l.length = 1
    · rw [hm, pathF, pathF, if_pos h2, if_pos h2]
    · have h3 := partN_lt (n := l.length) (by omega)
      have h4 := partN_pos l.length
      have r : ∀ q, l.length ≤ q + 1 → q < j + 1 → pathF (q + 1) l i = if i < (partN l.length : Int) then pathV (l.take (partN l.length)) i ++ [rootV (l.drop (partN l.length))]
          else pathV (l.drop (partN l.length)) (i - (partN l.length : Int)) ++ [rootV (l.take (partN l.length))] := fun q hq hqj => by
        rw [pathF, if_neg h2]
        split
        · rw [ih q hqj _ _ (by rw [List.length_take]; omega) (by rw [List.length_take]; omega)]
        · rw [ih q hqj _ _ (by rw [List.length_drop]; omega) (by rw [List.length_drop]; omega)]
      exact ((r j h (by omega)).trans (r m (by omega) (by omega)).symm).trans (by rw [hm])
theorem pathV_one {l : List Dig} {i : Int} (h : l.length = 1) : pathV l i = [] := by
  unfold pathV; rw [h, pathF, if_pos h]
theorem pathV_step {l : List Dig} {i : Int} (h : 2 ≤ l.length) : pathV l i = if i < (partN l.length : Int) then pathV (l.take (partN l.length)) i ++ [rootV (l.drop (partN l.length))]
    else pathV (l.drop (partN l.length)) (i - (partN l.length : Int)) ++ [rootV (l.take (partN l.length))] := by
  have h3 := partN_lt h
  have h4 := partN_pos l.length
  obtain ⟨m, hm⟩ : ∃ m, l.length = m + 1 := ⟨l.length - 1, by omega⟩
  have e : pathV l i = pathF (m + 1) l i := by unfold pathV; rw [hm]
  rw [e, pathF, if_neg (by omega), pathF_eq m _ _ (by rw [List.length_take]; omega) (by rw [List.length_take]; omega), pathF_eq m _ _ (by rw [List.length_drop]; omega) (by rw [List.length_drop]; omega)]
theorem growF_eq : ∀ (k : Nat) (l : List Dig) (i : Int) (w : Bool), 1 ≤ l.length → 1 ≤ i → i ≤ (l.length : Int) → l.length ≤ k → growF k l i w = growV l i w := by
  intro k
  induction k using Nat.strongRecOn with
  | _ k ih =>
    intro l i w h1 i1 i2 h
    unfold growV
    obtain ⟨j, rfl⟩ : ∃ j, k = j + 1 := ⟨k - 1, by omega⟩
    obtain ⟨m, hm⟩ : ∃ m, l.length = m + 1 := ⟨l.length - 1, by omega⟩
    by_cases h2 : i = (l.length : Int)
    · have r : ∀ q, growF (q + 1) l i w = if w = true then [] else [rootV l] := fun q => by rw [growF, if_pos h2]
      exact ((r j).trans (r m).symm).trans (by rw [hm])
    · have h3 := partN_lt (n := l.length) (by omega)
      have h4 := partN_pos l.length
      have r : ∀ q, l.length ≤ q + 1 → q < j + 1 → growF (q + 1) l i w = if i ≤ (partN l.length : Int) then growV (l.take (partN l.length)) i w ++ [rootV (l.drop (partN l.length))]
          else growV (l.drop (partN l.length)) (i - (partN l.length : Int)) false ++ [rootV (l.take (partN l.length))] := fun q hq hqj => by
        rw [growF, if_neg h2]
        split
        · rw [ih q hqj _ _ _ (by rw [List.length_take]; omega) i1 (by rw [List.length_take]; omega) (by rw [List.length_take]; omega)]
        · rw [ih q hqj _ _ _ (by rw [List.length_drop]; omega) (by omega) (by rw [List.length_drop]; omega) (by rw [List.length_drop]; omega)]
      exact ((r j h (by omega)).trans (r m (by omega) (by omega)).symm).trans (by rw [hm])
theorem growV_full {l : List Dig} {i : Int} {w : Bool} (h1 : 1 ≤ l.length) (h : i = (l.length : Int)) : growV l i w = if w = true then [] else [rootV l] := by
  obtain ⟨m, hm⟩ : ∃ m, l.length = m + 1 := ⟨l.length - 1, by omega⟩
  have e : growV l i w = growF (m + 1) l i w := by unfold growV; rw [hm]
  rw [e, growF, if_pos h]
theorem growV_step {l : List Dig} {i : Int} {w : Bool} (h : 2 ≤ l.length) (i1 : 1 ≤ i) (i2 : i ≤ (l.length : Int)) (hne : ¬ i = (l.length : Int)) : growV l i w = if i ≤ (partN l.length : Int) then growV (l.take (partN l.length)) i w ++ [rootV (l.drop (partN l.length))]
    else growV (l.drop (partN l.length)) (i - (partN l.length : Int)) false ++ [rootV (l.take (partN l.length))] := by
  have h3 := partN_lt h
  have h4 := partN_pos l.length
  obtain ⟨m, hm⟩ : ∃ m, l.length = m + 1 := ⟨l.length - 1, by omega⟩
  have e : growV l i w = growF (m + 1) l i w := by unfold growV; rw [hm]
  rw [e, growF, if_neg hne]
  split
  · rw [growF_eq m _ _ _ (by rw [List.length_take]; omega) i1 (by rw [List.length_take]; omega) (by rw [List.length_take]; omega)]
  · rw [growF_eq m _ _ _ (by rw [List.length_drop]; omega) (by omega) (by rw [List.length_drop]; omega) (by rw [List.length_drop]; omega)]
theorem growF_len : ∀ (k : Nat) (l : List Dig) (i : Int) (w : Bool), (growF k l i w).length ≤ k + 1
  | 0, _, _, _ => by simp [growF]
  | k + 1, l, i, w => by
    rw [growF]
    split
    · split <;> simp
    · split
      · have := growF_len k (l.take (partN l.length)) i w
        simp; omega
      · have := growF_len k (l.drop (partN l.length)) (i - (partN l.length : Int)) false
        simp; omega
theorem growV_len (l : List Dig) (i : Int) (w : Bool) : (growV l i w).length ≤ l.length + 1 := growF_len _ _ _ _
/-- what a path makes: of the proof's digests from the last on; bad: what stands where nothing is made -/
def madeR (leaf bad : Dig) : List Dig → Int → Int → Dig × Bool
  | [], _, n => if n = 1 then (leaf, true) else (bad, false)
  | last :: rest, i, n => if n = 1 then (leaf, false) else
    if i < (partN n.toNat : Int) then (nodeV (madeR leaf bad rest i (partN n.toNat)).1 last, (madeR leaf bad rest i (partN n.toNat)).2)
    else (nodeV last (madeR leaf bad rest (i - (partN n.toNat : Int)) (n - (partN n.toNat : Int))).1, (madeR leaf bad rest (i - (partN n.toNat : Int)) (n - (partN n.toNat : Int))).2)
def madeV' (leaf bad : Dig) (i n : Int) (p : List Dig) : Dig × Bool := madeR leaf bad p.reverse i n
theorem madeR_same (leaf b1 b2 : Dig) : ∀ (p : List Dig) (i n : Int), (madeR leaf b1 p i n).2 = (madeR leaf b2 p i n).2 ∧ ((madeR leaf b1 p i n).2 = true → (madeR leaf b1 p i n).1 = (madeR leaf b2 p i n).1)
  | [], i, n => by
    unfold madeR
    split
    · exact ⟨rfl, fun _ => rfl⟩
    · exact ⟨rfl, fun h => by cases h⟩
  | last :: rest, i, n => by
    unfold madeR
    split
    · exact ⟨rfl, fun _ => rfl⟩
    · split
      · have h := madeR_same leaf b1 b2 rest i (partN n.toNat)
        exact ⟨h.1, fun g => by show nodeV _ _ = nodeV _ _; rw [h.2 g]⟩
      · have h := madeR_same leaf b1 b2 rest (i - (partN n.toNat : Int)) (n - (partN n.toNat : Int))
        exact ⟨h.1, fun g => by show nodeV _ _ = nodeV _ _; rw [h.2 g]⟩
def inV (want leaf : Dig) (i n : Int) (p : List Dig) : Bool :=
  if 1 ≤ n ∧ n ≤ 1048576 ∧ 0 ≤ i ∧ i < n then (madeV' leaf leaf i n p).2 && ((madeV' leaf leaf i n p).1 == want) else false
end Go.Sal
