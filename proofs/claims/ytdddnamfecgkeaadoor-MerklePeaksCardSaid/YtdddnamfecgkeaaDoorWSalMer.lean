/- Trees of hashes, as plain data. No program in sight. -/
import Derived.Test.YtdddnamfecgkeaaDoorWSalWord
namespace Go.Sal
open Go.Vse
abbrev Dig := T_Dig.den
def nodeV (l r : Dig) : Dig := sha ([1#8] ++ l ++ r)
def len8 : Bytes := List.map UInt8.toBitVec (List.append (List.append [0, 1, 2, 2, 3, 3, 3, 3, 4, 4, 4, 4, 4, 4, 4, 4, 5, 5, 5, 5, 5, 5, 5, 5, 5, 5, 5, 5, 5, 5, 5, 5, 6, 6, 6, 6, 6, 6, 6, 6, 6, 6, 6, 6, 6, 6, 6, 6, 6, 6, 6, 6, 6, 6, 6, 6, 6, 6, 6, 6, 6, 6, 6, 6] [7, 7, 7, 7, 7, 7, 7, 7, 7, 7, 7, 7, 7, 7, 7, 7, 7, 7, 7, 7, 7, 7, 7, 7, 7, 7, 7, 7, 7, 7, 7, 7, 7, 7, 7, 7, 7, 7, 7, 7, 7, 7, 7, 7, 7, 7, 7, 7, 7, 7, 7, 7, 7, 7, 7, 7, 7, 7, 7, 7, 7, 7, 7, 7]) (List.append [8, 8, 8, 8, 8, 8, 8, 8, 8, 8, 8, 8, 8, 8, 8, 8, 8, 8, 8, 8, 8, 8, 8, 8, 8, 8, 8, 8, 8, 8, 8, 8, 8, 8, 8, 8, 8, 8, 8, 8, 8, 8, 8, 8, 8, 8, 8, 8, 8, 8, 8, 8, 8, 8, 8, 8, 8, 8, 8, 8, 8, 8, 8, 8] [8, 8, 8, 8, 8, 8, 8, 8, 8, 8, 8, 8, 8, 8, 8, 8, 8, 8, 8, 8, 8, 8, 8, 8, 8, 8, 8, 8, 8, 8, 8, 8, 8, 8, 8, 8, 8, 8, 8, 8, 8, 8, 8, 8, 8, 8, 8, 8, 8, 8, 8, 8, 8, 8, 8, 8, 8, 8, 8, 8, 8, 8, 8, 8]))
def bitlen (n : Nat) : Nat := if n = 0 then 0 else n.log2 + 1
def partN (n : Nat) : Nat := 2 ^ (n - 1).log2
def rootF : Nat → List Dig → Dig
 | 0, _ => sha []
 | k + 1, l => if l.length = 0 then sha [] else if l.length = 1 then l.getD 0 T_Dig.dflt else nodeV (rootF k (l.take (partN l.length))) (rootF k (l.drop (partN l.length)))
def rootV (l : List Dig) : Dig := rootF l.length l

theorem len8_at : ∀ n : Fin 256, (len8.getD n.val 0#8).toNat = bitlen n.val := by decide +kernel
theorem len8_len : len8.length = 256 := by decide +kernel
theorem partN_lt {n : Nat} (h : 2 ≤ n) : partN n < n := by
 have := Nat.log2_self_le (n := n - 1) (by omega)
 unfold partN
 omega
theorem partN_pos (n : Nat) : 1 ≤ partN n := Nat.one_le_two_pow
theorem rootF_eq : ∀ (k : Nat) (l : List Dig), l.length ≤ k → rootF k l = rootF l.length l := by
 intro k
 induction k using Nat.strongRecOn with
 | _ k ih =>
   intro l h
   by_cases h2 : 2 ≤ l.length
   · have h3 := partN_lt h2
     have h4 := partN_pos l.length
     obtain ⟨j, rfl⟩ : ∃ j, k = j + 1 := ⟨k - 1, by omega⟩
     obtain ⟨m, hm⟩ : ∃ m, l.length = m + 1 := ⟨l.length - 1, by omega⟩
     have ht : (l.take (partN l.length)).length = partN l.length := by rw [List.length_take]; omega
     have hd : (l.drop (partN l.length)).length = l.length - partN l.length := List.length_drop
     have e1 := ih j (by omega) (l.take (partN l.length)) (by rw [ht]; omega)
     have e2 := ih j (by omega) (l.drop (partN l.length)) (by rw [hd]; omega)
     have r : ∀ q, rootF (q + 1) l = nodeV (rootF q (l.take (partN l.length))) (rootF q (l.drop (partN l.length))) := fun q => by
      rw [rootF, if_neg (by omega), if_neg (by omega)]
     rw [hm, r j, r m, e1, e2]
     by_cases hjm : m = j
     · subst hjm; rw [e1, e2]
     · have f1 := ih m (by omega) (l.take (partN l.length)) (by rw [ht]; omega)
       have f2 := ih m (by omega) (l.drop (partN l.length)) (by rw [hd]; omega)
       rw [f1, f2]
   · cases k with
     | zero => rw [show l.length = 0 by omega]
     | succ k =>
       by_cases h0 : l.length = 0
       · rw [h0]
         show rootF (k + 1) l = sha []
         unfold rootF
         exact if_pos h0
       · have h1 : l.length = 1 := by omega
         rw [h1, rootF, rootF, if_neg h0, if_pos h1, if_neg h0, if_pos h1]
theorem rootV_zero {l : List Dig} (h : l.length = 0) : rootV l = sha [] := by
 rw [rootV, h]; rfl
theorem rootV_one {l : List Dig} (h : l.length = 1) : rootV l = l.getD 0 T_Dig.dflt := by
 rw [rootV, h, rootF, if_neg (by omega), if_pos h]
theorem rootV_step {l : List Dig} (h : 2 ≤ l.length) : rootV l = nodeV (rootV (l.take (partN l.length))) (rootV (l.drop (partN l.length))) := by
 have h3 := partN_lt h
 have h4 := partN_pos l.length
 obtain ⟨m, hm⟩ : ∃ m, l.length = m + 1 := ⟨l.length - 1, by omega⟩
 have r : rootF (m + 1) l = nodeV (rootF m (l.take (partN l.length))) (rootF m (l.drop (partN l.length))) := by
  rw [rootF, if_neg (by omega), if_neg (by omega)]
 unfold rootV
 rw [hm, r, rootF_eq m _ (by rw [List.length_take]; omega), rootF_eq m _ (by rw [List.length_drop]; omega), hm]
end Go.Sal

namespace Go.Sal
open Go.Vse
def pathF : Nat → List Dig → Int → List Dig
 | 0, _, _ => []
 | k + 1, l, i => if l.length = 1 then [] else
   if i < (partN l.length : Int) then pathF k (l.take (partN l.length)) i ++ [rootV (l.drop (partN l.length))]
   else pathF k (l.drop (partN l.length)) (i - (partN l.length : Int)) ++ [rootV (l.take (partN l.length))]
def pathV (l : List Dig) (i : Int) : List Dig := pathF l.length l i
def rootA (l : List Dig) : Dig × Int := if l.length ≤ 1048576 then (rootV l, 0) else (zero32, 3)
def pathA (l : List Dig) (i : Int) : List Dig × Int := if l.length ≤ 1048576 then (if 0 ≤ i ∧ i < (l.length : Int) then (pathV l i, 0) else ([], 270)) else ([], 3)
theorem pathF_eq : ∀ (k : Nat) (l : List Dig) (i : Int), 1 ≤ l.length → l.length ≤ k → pathF k l i = pathV l i := by
 intro k
 induction k using Nat.strongRecOn with
 | _ k ih =>
   intro l i h1 h
   unfold pathV
   obtain ⟨j, rfl⟩ : ∃ j, k = j + 1 := ⟨k - 1, by omega⟩
   obtain ⟨m, hm⟩ : ∃ m, l.length = m + 1 := ⟨l.length - 1, by omega⟩
   by_cases h2 : l.length = 1
   · rw [hm, pathF, pathF, if_pos h2, if_pos h2]
   · have h3 := partN_lt (n := l.length) (by omega)
     have h4 := partN_pos l.length
     have r : ∀ q, l.length ≤ q + 1 → q < j + 1 → pathF (q + 1) l i = if i < (partN l.length : Int) then pathV (l.take (partN l.length)) i ++ [rootV (l.drop (partN l.length))]
      else pathV (l.drop (partN l.length)) (i - (partN l.length : Int)) ++ [rootV (l.take (partN l.length))] := fun q hq hqj => by
      rw [pathF, if_neg h2]
      split
      · rw [ih q hqj _ _ (by rw [List.length_take]; omega) (by rw [List.length_take]; omega)]
      · rw [ih q hqj _ _ (by rw [List.length_drop]; omega) (by rw [List.length_drop]; omega)]
     exact ((r j h (by omega)).trans (r m (by omega) (by omega)).symm).trans (by rw [hm])
theorem pathV_one {l : List Dig} {i : Int} (h : l.length = 1) : pathV l i = [] := by
 unfold pathV; rw [h, pathF, if_pos h]
theorem pathV_step {l : List Dig} {i : Int} (h : 2 ≤ l.length) : pathV l i = if i < (partN l.length : Int) then pathV (l.take (partN l.length)) i ++ [rootV (l.drop (partN l.length))]
 else pathV (l.drop (partN l.length)) (i - (partN l.length : Int)) ++ [rootV (l.take (partN l.length))] := by
 have h3 := partN_lt h
 have h4 := partN_pos l.length
 obtain ⟨m, hm⟩ : ∃ m, l.length = m + 1 := ⟨l.length - 1, by omega⟩
 have e : pathV l i = pathF (m + 1) l i := by unfold pathV; rw [hm]
 rw [e, pathF, if_neg (by omega), pathF_eq m _ _ (by rw [List.length_take]; omega) (by rw [List.length_take]; omega), pathF_eq m _ _ (by rw [List.length_drop]; omega) (by rw [List.length_drop]; omega)]
def madeR (leaf bad : Dig) : List Dig → Int → Int → Dig × Bool
 | [], _, n => if n = 1 then (leaf, true) else (bad, false)
 | last :: rest, i, n => if n = 1 then (leaf, false) else
   if i < (partN n.toNat : Int) then (nodeV (madeR leaf bad rest i (partN n.toNat)).1 last, (madeR leaf bad rest i (partN n.toNat)).2)
   else (nodeV last (madeR leaf bad rest (i - (partN n.toNat : Int)) (n - (partN n.toNat : Int))).1, (madeR leaf bad rest (i - (partN n.toNat : Int)) (n - (partN n.toNat : Int))).2)
def madeV' (leaf bad : Dig) (i n : Int) (p : List Dig) : Dig × Bool := madeR leaf bad p.reverse i n
def inV (want leaf : Dig) (i n : Int) (p : List Dig) : Bool :=
 if 1 ≤ n ∧ n ≤ 1048576 ∧ 0 ≤ i ∧ i < n then (madeV' leaf leaf i n p).2 && ((madeV' leaf leaf i n p).1 == want) else false
end Go.Sal
