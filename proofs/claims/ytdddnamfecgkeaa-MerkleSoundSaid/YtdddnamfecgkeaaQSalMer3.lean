/- Proofs in trees of hashes: what is told is taken. No program in sight. -/
import Derived.Test.YtdddnamfecgkeaaQSalMer2
namespace Go.Sal
open Go.Vse
/-- what a growth makes of the elder root, of the proof's digests from the last on; z: what stands where nothing is made -/
def grownR (was z : Dig) : List Dig → Int → Int → Bool → (Dig × Dig) × Bool
  | [], m, n, w => if m = n then (if w = true then ((was, was), true) else ((z, z), false)) else ((z, z), false)
  | last :: rest, m, n, w => if m = n then (if w = true then ((was, was), false) else if rest.length = 0 then ((last, last), true) else ((z, z), false))
    else if m ≤ (partN n.toNat : Int) then (((grownR was z rest m (partN n.toNat) w).1.1, nodeV (grownR was z rest m (partN n.toNat) w).1.2 last), (grownR was z rest m (partN n.toNat) w).2)
    else ((nodeV last (grownR was z rest (m - (partN n.toNat : Int)) (n - (partN n.toNat : Int)) false).1.1, nodeV last (grownR was z rest (m - (partN n.toNat : Int)) (n - (partN n.toNat : Int)) false).1.2), (grownR was z rest (m - (partN n.toNat : Int)) (n - (partN n.toNat : Int)) false).2)
def grownV (was z : Dig) (m n : Int) (w : Bool) (p : List Dig) : (Dig × Dig) × Bool := grownR was z p.reverse m n w
theorem grownR_same (was z1 z2 : Dig) : ∀ (p : List Dig) (m n : Int) (w : Bool), (grownR was z1 p m n w).2 = (grownR was z2 p m n w).2 ∧ ((grownR was z1 p m n w).2 = true → (grownR was z1 p m n w).1 = (grownR was z2 p m n w).1)
  | [], m, n, w => by
    unfold grownR
    split
    · split
      · exact ⟨rfl, fun _ => rfl⟩
      · exact ⟨rfl, fun h => Bool.noConfusion h⟩
    · exact ⟨rfl, fun h => Bool.noConfusion h⟩
  | last :: rest, m, n, w => by
    unfold grownR
    split
    · split
      · exact ⟨rfl, fun _ => rfl⟩
      · split
        · exact ⟨rfl, fun _ => rfl⟩
        · exact ⟨rfl, fun h => Bool.noConfusion h⟩
    · split
      · have h := grownR_same was z1 z2 rest m (partN n.toNat) w
        exact ⟨h.1, fun g => by show (_, nodeV _ _) = (_, nodeV _ _); rw [h.2 g]⟩
      · have h := grownR_same was z1 z2 rest (m - (partN n.toNat : Int)) (n - (partN n.toNat : Int)) false
        exact ⟨h.1, fun g => by show (nodeV _ _, nodeV _ _) = (nodeV _ _, nodeV _ _); rw [h.2 g]⟩
def grownB (was now : Dig) (m n : Int) (p : List Dig) : Bool :=
  if 0 ≤ n ∧ n ≤ 1048576 ∧ 0 ≤ m ∧ m ≤ n then
    (if m = 0 then (decide (p.length = 0) && (was == sha [])) && (decide (0 < n) || (now == sha []))
     else (grownV was was m n true p).2 && ((grownV was was m n true p).1.1 == was && (grownV was was m n true p).1.2 == now))
  else false

theorem made_snoc {leaf bad : Dig} {i n : Int} {q : List Dig} {x : Dig} (h : ¬ n = 1) : madeV' leaf bad i n (q ++ [x]) =
    if i < (partN n.toNat : Int) then (nodeV (madeV' leaf bad i (partN n.toNat) q).1 x, (madeV' leaf bad i (partN n.toNat) q).2)
    else (nodeV x (madeV' leaf bad (i - (partN n.toNat : Int)) (n - (partN n.toNat : Int)) q).1, (madeV' leaf bad (i - (partN n.toNat : Int)) (n - (partN n.toNat : Int)) q).2) := by
  have e : madeV' leaf bad i n (q ++ [x]) = madeR leaf bad (x :: q.reverse) i n := by unfold madeV'; rw [List.reverse_append]; rfl
  rw [e, madeR, if_neg h]
  rfl
theorem grown_snoc {was z : Dig} {m n : Int} {w : Bool} {q : List Dig} {x : Dig} (h : ¬ m = n) : grownV was z m n w (q ++ [x]) =
    if m ≤ (partN n.toNat : Int) then (((grownV was z m (partN n.toNat) w q).1.1, nodeV (grownV was z m (partN n.toNat) w q).1.2 x), (grownV was z m (partN n.toNat) w q).2)
    else ((nodeV x (grownV was z (m - (partN n.toNat : Int)) (n - (partN n.toNat : Int)) false q).1.1, nodeV x (grownV was z (m - (partN n.toNat : Int)) (n - (partN n.toNat : Int)) false q).1.2), (grownV was z (m - (partN n.toNat : Int)) (n - (partN n.toNat : Int)) false q).2) := by
  have e : grownV was z m n w (q ++ [x]) = grownR was z (x :: q.reverse) m n w := by unfold grownV; rw [List.reverse_append]; rfl
  rw [e, grownR, if_neg h]
  rfl
theorem path_made : ∀ (k : Nat) (l : List Dig) (i : Nat) (leaf bad : Dig), l.length ≤ k → i < l.length → leaf = l.getD i T_Dig.dflt → madeV' leaf bad (i : Int) (l.length : Int) (pathV l (i : Int)) = (rootV l, true)
  | 0, l, i, _, _, h, hi, _ => by omega
  | k + 1, l, i, leaf, bad, h, hi, hl => by
    by_cases h1 : l.length = 1
    · have : i = 0 := by omega
      subst this
      rw [pathV_one h1, rootV_one h1, hl, h1]
      rfl
    · have h2 : 2 ≤ l.length := by omega
      have h3 := partN_lt h2
      have h4 := partN_pos l.length
      have ht : (l.take (partN l.length)).length = partN l.length := by rw [List.length_take]; omega
      have hd : (l.drop (partN l.length)).length = l.length - partN l.length := List.length_drop
      have en : ((l.length : Int)).toNat = l.length := by omega
      rw [pathV_step h2, rootV_step h2]
      split
      · rename_i c
        rw [made_snoc (by omega), en, if_pos c]
        have ih := path_made k (l.take (partN l.length)) i leaf bad (by omega) (by omega) (by rw [hl, List.getD_eq_getElem?_getD, List.getD_eq_getElem?_getD, List.getElem?_take, if_pos (by omega)])
        rw [ht] at ih
        rw [ih]
      · rename_i c
        rw [made_snoc (by omega), en, if_neg c]
        have e1 : (i : Int) - (partN l.length : Int) = ((i - partN l.length : Nat) : Int) := by omega
        have e2 : (l.length : Int) - (partN l.length : Int) = ((l.length - partN l.length : Nat) : Int) := by omega
        have ih := path_made k (l.drop (partN l.length)) (i - partN l.length) leaf bad (by omega) (by omega) (by
          rw [hl, List.getD_eq_getElem?_getD, List.getD_eq_getElem?_getD, List.getElem?_drop]
          congr 2; omega)
        rw [hd] at ih
        rw [e1, e2, ih]
theorem partN_same {m n : Nat} (h1 : partN n < m) (h2 : m ≤ n) : partN m = partN n := by
  unfold partN at h1 ⊢
  have hn : n - 1 ≠ 0 := by
    intro e
    rw [e] at h1; simp at h1; omega
  have hlt : n - 1 < 2 ^ ((n - 1).log2 + 1) := Nat.lt_log2_self
  have e := (Nat.log2_eq_iff (n := m - 1) (k := (n - 1).log2) (by have := Nat.one_le_two_pow (n := (n - 1).log2); omega)).2 ⟨by omega, by omega⟩
  rw [e]
theorem grow_made : ∀ (k : Nat) (l : List Dig) (m : Nat) (was z : Dig) (w : Bool), l.length ≤ k → 1 ≤ m → m ≤ l.length → (w = true → was = rootV (l.take m)) →
    grownV was z (m : Int) (l.length : Int) w (growV l (m : Int) w) = ((rootV (l.take m), rootV l), true)
  | 0, l, m, _, _, _, h, h1, h2, _ => by omega
  | k + 1, l, m, was, z, w, h, h1, h2, hw => by
    by_cases hm : m = l.length
    · have e1 : l.take m = l := by rw [hm]; exact List.take_of_length_le (Nat.le_refl _)
      rw [growV_full (by omega) (by omega), e1]
      rw [e1] at hw
      rw [hm]
      cases w with
      | true =>
        rw [if_pos rfl, hw rfl]
        show grownR _ _ [] _ _ _ = _
        rw [grownR, if_pos rfl, if_pos rfl]
      | false =>
        rw [if_neg (by decide)]
        show grownR _ _ [rootV l] _ _ _ = _
        rw [grownR, if_pos rfl, if_neg (by decide), if_pos (by rfl)]
    · have hl : 2 ≤ l.length := by omega
      have h3 := partN_lt hl
      have h4 := partN_pos l.length
      have ht : (l.take (partN l.length)).length = partN l.length := by rw [List.length_take]; omega
      have hd : (l.drop (partN l.length)).length = l.length - partN l.length := List.length_drop
      have en : ((l.length : Int)).toNat = l.length := by omega
      rw [growV_step hl (by omega) (by omega) (by omega), rootV_step hl]
      split
      · rename_i c
        rw [grown_snoc (by omega), en, if_pos c]
        have e1 : (l.take (partN l.length)).take m = l.take m := by rw [List.take_take]; congr 1; omega
        have ih := grow_made k (l.take (partN l.length)) m was z w (by omega) h1 (by omega) (by rw [e1]; exact hw)
        rw [ht, e1] at ih
        rw [ih]
      · rename_i c
        rw [grown_snoc (by omega), en, if_neg c]
        have e1 : (m : Int) - (partN l.length : Int) = ((m - partN l.length : Nat) : Int) := by omega
        have e2 : (l.length : Int) - (partN l.length : Int) = ((l.length - partN l.length : Nat) : Int) := by omega
        have ih := grow_made k (l.drop (partN l.length)) (m - partN l.length) was z false (by omega) (by omega) (by omega) (fun h => Bool.noConfusion h)
        rw [hd] at ih
        have htm : (l.take m).length = m := by rw [List.length_take]; omega
        have hp : partN m = partN l.length := partN_same (by omega) h2
        have e3 : rootV (l.take m) = nodeV (rootV (l.take (partN l.length))) (rootV ((l.drop (partN l.length)).take (m - partN l.length))) := by
          rw [rootV_step (l := l.take m) (by omega), htm, hp, List.take_take, List.drop_take]
          congr 3; omega
        rw [e1, e2, ih, e3]
theorem in_path {l : List Dig} {i : Int} (h : l.length ≤ 1048576) (h0 : 0 ≤ i) (h1 : i < (l.length : Int)) : inV (rootV l) (l.getD i.toNat T_Dig.dflt) i (l.length : Int) (pathV l i) = true := by
  have e := path_made l.length l i.toNat (l.getD i.toNat T_Dig.dflt) (l.getD i.toNat T_Dig.dflt) (Nat.le_refl _) (by omega) rfl
  rw [show ((i.toNat : Nat) : Int) = i by omega] at e
  unfold inV
  rw [if_pos (by omega), e]
  simp
theorem grown_growth {l : List Dig} {m : Int} (h : l.length ≤ 1048576) (h0 : 0 ≤ m) (h1 : m ≤ (l.length : Int)) : grownB (rootV (l.take m.toNat)) (rootV l) m (l.length : Int) (growA l m).1 = true := by
  have ga : (growA l m).1 = if m = 0 then [] else growV l m true := by
    unfold growA
    rw [if_pos h, if_pos (show 0 ≤ m ∧ m ≤ (l.length : Int) from ⟨h0, h1⟩)]
    split <;> rfl
  rw [ga]
  unfold grownB
  rw [if_pos (by omega)]
  by_cases hm : m = 0
  · rw [if_pos hm, if_pos hm]
    subst hm
    have e1 : rootV (l.take (0 : Int).toNat) = sha [] := rootV_zero rfl
    rw [e1]
    by_cases hl : l.length = 0
    · have e2 : rootV l = sha [] := rootV_zero hl
      rw [e2]; simp
    · have hp : (0 : Int) < (l.length : Int) := by omega
      rw [decide_eq_true hp]
      simp
  · rw [if_neg hm, if_neg hm]
    have e := grow_made l.length l m.toNat (rootV (l.take m.toNat)) (rootV (l.take m.toNat)) true (Nat.le_refl _) (by omega) (by omega) (fun _ => rfl)
    rw [show ((m.toNat : Nat) : Int) = m by omega] at e
    rw [e]
    simp
end Go.Sal
