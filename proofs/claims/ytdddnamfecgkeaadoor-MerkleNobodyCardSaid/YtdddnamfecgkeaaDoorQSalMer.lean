/- Trees of hashes, as plain data. No program in sight. -/
import Derived.Test.YtdddnamfecgkeaaDoorQSalRec
namespace Go.Sal
open Go.Vse
abbrev Dig := T_Dig.den
def leafV (b : Bytes) : Dig := sha ([0#8] ++ b)
def nodeV (l r : Dig) : Dig := sha ([1#8] ++ l ++ r)
def len8 : Bytes := List.map UInt8.toBitVec (List.append (List.append [0, 1, 2, 2, 3, 3, 3, 3, 4, 4, 4, 4, 4, 4, 4, 4, 5, 5, 5, 5, 5, 5, 5, 5, 5, 5, 5, 5, 5, 5, 5, 5, 6, 6, 6, 6, 6, 6, 6, 6, 6, 6, 6, 6, 6, 6, 6, 6, 6, 6, 6, 6, 6, 6, 6, 6, 6, 6, 6, 6, 6, 6, 6, 6] [7, 7, 7, 7, 7, 7, 7, 7, 7, 7, 7, 7, 7, 7, 7, 7, 7, 7, 7, 7, 7, 7, 7, 7, 7, 7, 7, 7, 7, 7, 7, 7, 7, 7, 7, 7, 7, 7, 7, 7, 7, 7, 7, 7, 7, 7, 7, 7, 7, 7, 7, 7, 7, 7, 7, 7, 7, 7, 7, 7, 7, 7, 7, 7]) (List.append [8, 8, 8, 8, 8, 8, 8, 8, 8, 8, 8, 8, 8, 8, 8, 8, 8, 8, 8, 8, 8, 8, 8, 8, 8, 8, 8, 8, 8, 8, 8, 8, 8, 8, 8, 8, 8, 8, 8, 8, 8, 8, 8, 8, 8, 8, 8, 8, 8, 8, 8, 8, 8, 8, 8, 8, 8, 8, 8, 8, 8, 8, 8, 8] [8, 8, 8, 8, 8, 8, 8, 8, 8, 8, 8, 8, 8, 8, 8, 8, 8, 8, 8, 8, 8, 8, 8, 8, 8, 8, 8, 8, 8, 8, 8, 8, 8, 8, 8, 8, 8, 8, 8, 8, 8, 8, 8, 8, 8, 8, 8, 8, 8, 8, 8, 8, 8, 8, 8, 8, 8, 8, 8, 8, 8, 8, 8, 8]))
def bitlen (n : Nat) : Nat := if n = 0 then 0 else n.log2 + 1
def partN (n : Nat) : Nat := 2 ^ (n - 1).log2
def rootF : Nat → List Dig → Dig
  | 0, _ => sha []
  | k + 1, l => if l.length = 0 then sha [] else if l.length = 1 then l.getD 0 T_Dig.dflt else nodeV (rootF k (l.take (partN l.length))) (rootF k (l.drop (partN l.length)))
def rootV (l : List Dig) : Dig := rootF l.length l

theorem len8_at : ∀ n : Fin 256, (len8.getD n.val 0#8).toNat = bitlen n.val := by decide +kernel
theorem len8_len : len8.length = 256 := by decide +kernel
theorem partN_lt {n : Nat} (h : 2 ≤ n) : partN n < n := by
  have := Nat.log2_self_le (n := n - 1) (by omega)
  unfold partN
  omega
theorem partN_pos (n : Nat) : 1 ≤ partN n := Nat.one_le_two_pow
theorem rootF_eq : ∀ (k : Nat) (l : List Dig), l.length ≤ k → rootF k l = rootF l.length l := by
  intro k
  induction k using Nat.strongRecOn with
  | _ k ih =>
    intro l h
    by_cases h2 : 2 ≤ l.length
    · have h3 := partN_lt h2
      have h4 := partN_pos l.length
      obtain ⟨j, rfl⟩ : ∃ j, k = j + 1 := ⟨k - 1, by omega⟩
      obtain ⟨m, hm⟩ : ∃ m, l.length = m + 1 := ⟨l.length - 1, by omega⟩
      have ht : (l.take (partN l.length)).length = partN l.length := by rw [List.length_take]; omega
      have hd : (l.drop (partN l.length)).length = l.length - partN l.length := List.length_drop
      have e1 := ih j (by omega) (l.take (partN l.length)) (by rw [ht]; omega)
      have e2 := ih j (by omega) (l.drop (partN l.length)) (by rw [hd]; omega)
      have r : ∀ q, rootF (q + 1) l = nodeV (rootF q (l.take (partN l.length))) (rootF q (l.drop (partN l.length))) := fun q => by
        rw [rootF, if_neg (by omega), if_neg (by omega)]
      rw [hm, r j, r m, e1, e2]
      by_cases hjm : m = j
      · subst hjm; rw [e1, e2]
      · have f1 := ih m (by omega) (l.take (partN l.length)) (by rw [ht]; omega)
        have f2 := ih m (by omega) (l.drop (partN l.length)) (by rw [hd]; omega)
        rw [f1, f2]
    · cases k with
      | zero => rw [show l.length = 0 by omega]
      | succ k =>
        by_cases h0 : l.length = 0
        · rw [h0]
          show rootF (k + 1) l = sha []
          unfold rootF
          exact if_pos h0
        · have h1 : l.length = 1 := by omega
          rw [h1, rootF, rootF, if_neg h0, if_pos h1, if_neg h0, if_pos h1]
theorem rootV_zero {l : List Dig} (h : l.length = 0) : rootV l = sha [] := by
  rw [rootV, h]; rfl
theorem rootV_one {l : List Dig} (h : l.length = 1) : rootV l = l.getD 0 T_Dig.dflt := by
  rw [rootV, h, rootF, if_neg (by omega), if_pos h]
theorem rootV_step {l : List Dig} (h : 2 ≤ l.length) : rootV l = nodeV (rootV (l.take (partN l.length))) (rootV (l.drop (partN l.length))) := by
  have h3 := partN_lt h
  have h4 := partN_pos l.length
  obtain ⟨m, hm⟩ : ∃ m, l.length = m + 1 := ⟨l.length - 1, by omega⟩
  have r : rootF (m + 1) l = nodeV (rootF m (l.take (partN l.length))) (rootF m (l.drop (partN l.length))) := by
    rw [rootF, if_neg (by omega), if_neg (by omega)]
  unfold rootV
  rw [hm, r, rootF_eq m _ (by rw [List.length_take]; omega), rootF_eq m _ (by rw [List.length_drop]; omega), hm]
end Go.Sal
