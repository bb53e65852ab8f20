/- Trees that grow, as plain data: peaks, joins. No program in sight. -/
import Derived.Test.YtdddnamfecgkeaaDoorWSalMer
import Derived.Lib.TrailingZeros
namespace Go.Sal
open Go.Vse
def popc (n : Nat) : Nat := if n = 0 then 0 else n % 2 + popc (n / 2)
def tones (n : Nat) : Nat := if n % 2 = 1 then 1 + tones (n / 2) else 0
termination_by n
decreasing_by omega
theorem popc_zero : popc 0 = 0 := by unfold popc; rfl
theorem popc_step (n : Nat) : popc n = n % 2 + popc (n / 2) := by
 by_cases h : n = 0
 · subst h; rw [show (0 : Nat) / 2 = 0 from rfl, popc_zero]
 · rw [popc, if_neg h]
theorem tones_odd {n : Nat} (h : n % 2 = 1) : tones n = 1 + tones (n / 2) := by rw [tones, if_pos h]
theorem tones_even {n : Nat} (h : ¬ n % 2 = 1) : tones n = 0 := by rw [tones, if_neg h]
theorem tones_le : ∀ n, tones n ≤ popc n := by
 intro n
 induction n using Nat.strongRecOn with
 | _ n ih =>
   by_cases h : n % 2 = 1
   · rw [tones_odd h, popc_step n, h]
     have := ih (n / 2) (by omega)
     omega
   · rw [tones_even h]; omega
theorem popc_succ : ∀ n, popc (n + 1) + tones n = popc n + 1 := by
 intro n
 induction n using Nat.strongRecOn with
 | _ n ih =>
   by_cases h : n % 2 = 1
   · rw [tones_odd h, popc_step (n + 1), popc_step n, show (n + 1) % 2 = 0 by omega, h, show (n + 1) / 2 = n / 2 + 1 by omega]
     have := ih (n / 2) (by omega)
     omega
   · rw [tones_even h, popc_step (n + 1), popc_step n, show (n + 1) % 2 = 1 by omega, show n % 2 = 0 by omega, show (n + 1) / 2 = n / 2 by omega]
     omega
theorem popc_pos {n : Nat} (h : 0 < n) : 0 < popc n := by
 induction n using Nat.strongRecOn with
 | _ n ih =>
   rw [popc_step]
   by_cases h2 : n % 2 = 1
   · omega
   · have := ih (n / 2) (by omega) (by omega)
     omega
theorem popc_add : ∀ (a n : Nat), n < 2 ^ a → popc (2 ^ a + n) = popc n + 1
 | 0, n, h => by
   have : n = 0 := by simpa using h
   subst this
   rw [show 2 ^ 0 + 0 = 1 from rfl, popc_step 1, show (1 : Nat) / 2 = 0 from rfl, popc_zero]
 | a + 1, n, h => by
   rw [Nat.pow_succ] at h
   have e1 : (2 ^ (a + 1) + n) % 2 = n % 2 := by rw [Nat.pow_succ]; omega
   have e2 : (2 ^ (a + 1) + n) / 2 = 2 ^ a + n / 2 := by rw [Nat.pow_succ]; omega
   rw [popc_step (2 ^ (a + 1) + n), e1, e2, popc_add a (n / 2) (by omega), popc_step n]
   omega
theorem tones_add : ∀ (a n : Nat), n + 1 < 2 ^ a → tones (2 ^ a + n) = tones n
 | 0, n, h => by simp at h
 | a + 1, n, h => by
   rw [Nat.pow_succ] at h
   have e1 : (2 ^ (a + 1) + n) % 2 = n % 2 := by rw [Nat.pow_succ]; omega
   have e2 : (2 ^ (a + 1) + n) / 2 = 2 ^ a + n / 2 := by rw [Nat.pow_succ]; omega
   by_cases hm : n % 2 = 1
   · rw [tones_odd (n := 2 ^ (a + 1) + n) (by omega), tones_odd hm, e2, tones_add a (n / 2) (by omega)]
   · rw [tones_even (n := 2 ^ (a + 1) + n) (by omega), tones_even hm]
theorem tones_all : ∀ a, tones (2 ^ a - 1) = a ∧ popc (2 ^ a - 1) = a
 | 0 => ⟨tones_even (by decide), popc_zero⟩
 | a + 1 => by
   have h : 1 ≤ 2 ^ a := Nat.one_le_two_pow
   have e1 : (2 ^ (a + 1) - 1) % 2 = 1 := by rw [Nat.pow_succ]; omega
   have e2 : (2 ^ (a + 1) - 1) / 2 = 2 ^ a - 1 := by rw [Nat.pow_succ]; omega
   have ih := tones_all a
   rw [tones_odd e1, popc_step, e1, e2, ih.1, ih.2]
   omega
def joinL (ps : List Dig) (leaf : Dig) : Dig := ps.foldr nodeV leaf
def pushV (ps : List Dig) (leaf : Dig) (j : Nat) : List Dig := ps.take (ps.length - j) ++ [joinL (ps.drop (ps.length - j)) leaf]
def rootR : List Dig → Dig
 | [] => sha []
 | [p] => p
 | p :: q :: r => nodeV p (rootR (q :: r))
theorem drop_at {ps : List Dig} {i : Nat} (h : i < ps.length) : ps.drop i = ps.getD i T_Dig.dflt :: ps.drop (i + 1) := by
 rw [List.drop_eq_getElem_cons h, List.getD_eq_getElem?_getD, List.getElem?_eq_getElem h]; rfl
theorem joinL_at {ps : List Dig} {leaf : Dig} {i : Nat} (h : i < ps.length) : joinL (ps.drop i) leaf = nodeV (ps.getD i T_Dig.dflt) (joinL (ps.drop (i + 1)) leaf) := by
 rw [drop_at h]; rfl
theorem joinL_end {ps : List Dig} {leaf : Dig} : joinL (ps.drop ps.length) leaf = leaf := by rw [List.drop_length]; rfl
theorem rootR_last {ps : List Dig} {i : Nat} (h : i + 1 = ps.length) : rootR (ps.drop i) = ps.getD i T_Dig.dflt := by
 rw [drop_at (by omega), h, List.drop_length]; rfl
theorem rootR_at {ps : List Dig} {i : Nat} (h : i + 1 < ps.length) : rootR (ps.drop i) = nodeV (ps.getD i T_Dig.dflt) (rootR (ps.drop (i + 1))) := by
 rw [drop_at (by omega), drop_at h]; rfl
theorem push_len {ps : List Dig} {leaf : Dig} {j : Nat} (h : j ≤ ps.length) : (pushV ps leaf j).length = ps.length - j + 1 := by
 unfold pushV
 rw [List.length_append, List.length_take, List.length_cons, List.length_nil]; omega
theorem push_zero (ps : List Dig) (leaf : Dig) : pushV ps leaf 0 = ps ++ [leaf] := by
 unfold pushV
 rw [Nat.sub_zero, List.take_length, joinL_end]
theorem push_get1 {ps : List Dig} {leaf d : Dig} {j : Nat} : (pushV ps leaf j).getD (ps.length - j) d = joinL (ps.drop (ps.length - j)) leaf := by
 unfold pushV
 have e : (ps.take (ps.length - j)).length = ps.length - j := by rw [List.length_take]; omega
 rw [List.getD_eq_getElem?_getD, List.getElem?_append_right (by omega), e, Nat.sub_self]; rfl
theorem push_get2 {ps : List Dig} {leaf d : Dig} {j : Nat} (h : j < ps.length) : (pushV ps leaf j).getD (ps.length - j - 1) d = ps.getD (ps.length - (j + 1)) d := by
 unfold pushV
 have e : (ps.take (ps.length - j)).length = ps.length - j := by rw [List.length_take]; omega
 rw [List.getD_eq_getElem?_getD, List.getElem?_append_left (by omega), List.getElem?_take, if_pos (by omega), List.getD_eq_getElem?_getD]
 congr 2
theorem push_step {ps : List Dig} {leaf : Dig} {j : Nat} (h : j < ps.length) :
 (pushV ps leaf j).take (ps.length - j - 1) ++ [nodeV (ps.getD (ps.length - (j + 1)) T_Dig.dflt) (joinL (ps.drop (ps.length - j)) leaf)] = pushV ps leaf (j + 1) := by
 have e : (ps.take (ps.length - j)).length = ps.length - j := by rw [List.length_take]; omega
 have e2 := joinL_at (ps := ps) (leaf := leaf) (i := ps.length - (j + 1)) (by omega)
 rw [show ps.length - (j + 1) + 1 = ps.length - j by omega] at e2
 rw [← e2]
 unfold pushV
 rw [List.take_append_of_le_length (by omega), List.take_take, show min (ps.length - j - 1) (ps.length - j) = ps.length - (j + 1) by omega]
def peaksF : Nat → List Dig → List Dig
 | 0, _ => []
 | k + 1, l => if l.length = 0 then [] else rootV (l.take (2 ^ l.length.log2)) :: peaksF k (l.drop (2 ^ l.length.log2))
def peaksV (l : List Dig) : List Dig := peaksF l.length l
theorem log_le {n : Nat} (h : 0 < n) : 2 ^ n.log2 ≤ n := Nat.log2_self_le (by omega)
theorem log_lt {n : Nat} : n < 2 * 2 ^ n.log2 := by
 have := Nat.lt_log2_self (n := n)
 rw [Nat.pow_succ] at this; omega
theorem log_is {n a : Nat} (h1 : 2 ^ a ≤ n) (h2 : n < 2 * 2 ^ a) : n.log2 = a := (Nat.log2_eq_iff (by have : 1 ≤ 2 ^ a := Nat.one_le_two_pow; omega)).2 ⟨h1, by rw [Nat.pow_succ]; omega⟩
theorem peaksF_nil {k : Nat} {l : List Dig} (h : l.length = 0) : peaksF k l = [] := by
 cases k with
 | zero => rfl
 | succ k =>
   unfold peaksF
   exact if_pos h
theorem peaksF_cons {k : Nat} {l : List Dig} (h : ¬ l.length = 0) : peaksF (k + 1) l = rootV (l.take (2 ^ l.length.log2)) :: peaksF k (l.drop (2 ^ l.length.log2)) := by
 rw [peaksF]
 exact if_neg h
theorem peaksF_same : ∀ (k k2 : Nat) (l : List Dig), l.length ≤ k → l.length ≤ k2 → peaksF k l = peaksF k2 l
 | 0, k2, l, h, _ => by rw [peaksF_nil (k := k2) (by omega)]; rfl
 | k + 1, 0, l, _, h => by rw [peaksF_nil (k := k + 1) (by omega)]; rfl
 | k + 1, k2 + 1, l, h1, h2 => by
   by_cases h0 : l.length = 0
   · rw [peaksF_nil h0, peaksF_nil h0]
   · have hp : 1 ≤ 2 ^ l.length.log2 := Nat.one_le_two_pow
     have hd : (l.drop (2 ^ l.length.log2)).length = l.length - 2 ^ l.length.log2 := List.length_drop
     rw [peaksF_cons h0, peaksF_cons h0, peaksF_same k k2 _ (by omega) (by omega)]
theorem peaksF_eq (k : Nat) (l : List Dig) (h : l.length ≤ k) : peaksF k l = peaksV l := peaksF_same k l.length l h (Nat.le_refl _)
theorem peaks_nil : peaksV [] = [] := rfl
theorem peaks_step {l : List Dig} (h : 0 < l.length) : peaksV l = rootV (l.take (2 ^ l.length.log2)) :: peaksV (l.drop (2 ^ l.length.log2)) := by
 obtain ⟨m, hm⟩ : ∃ m, l.length = m + 1 := ⟨l.length - 1, by omega⟩
 have hp : 1 ≤ 2 ^ l.length.log2 := Nat.one_le_two_pow
 have hd : (l.drop (2 ^ l.length.log2)).length = l.length - 2 ^ l.length.log2 := List.length_drop
 rw [← peaksF_eq m (l.drop (2 ^ l.length.log2)) (by omega), ← peaksF_eq (m + 1) l (by omega), peaksF_cons (by omega)]
theorem peaks_len (l : List Dig) : (peaksV l).length = popc l.length := by
 induction h : l.length using Nat.strongRecOn generalizing l with
 | _ n ih =>
   by_cases h0 : n = 0
   · have : l = [] := List.eq_nil_of_length_eq_zero (by omega)
     subst this; subst h0; rw [peaks_nil, popc_zero]; rfl
   · have h1 := log_le (n := l.length) (by omega)
     have h2 := log_lt (n := l.length)
     have hp : 1 ≤ 2 ^ l.length.log2 := Nat.one_le_two_pow
     have hd : (l.drop (2 ^ l.length.log2)).length = l.length - 2 ^ l.length.log2 := List.length_drop
     rw [peaks_step (by omega), List.length_cons, ih _ (by omega) _ rfl, hd]
     have := popc_add l.length.log2 (l.length - 2 ^ l.length.log2) (by omega)
     rw [show 2 ^ l.length.log2 + (l.length - 2 ^ l.length.log2) = n by omega] at this
     omega
theorem part_pow {a : Nat} : partN (2 * 2 ^ a) = 2 ^ a := by
 have h : 1 ≤ 2 ^ a := Nat.one_le_two_pow
 unfold partN
 rw [log_is (a := a) (by omega) (by omega)]
theorem part_mid {a n : Nat} (h1 : 2 ^ a < n) (h2 : n < 2 * 2 ^ a) : partN n = 2 ^ a := by
 unfold partN
 rw [log_is (a := a) (by omega) (by omega)]
theorem peaks_root (l : List Dig) : rootR (peaksV l) = rootV l := by
 induction h : l.length using Nat.strongRecOn generalizing l with
 | _ n ih =>
   by_cases h0 : n = 0
   · have : l = [] := List.eq_nil_of_length_eq_zero (by omega)
     subst this; rw [peaks_nil, rootV_zero rfl]; rfl
   · have h1 := log_le (n := l.length) (by omega)
     have h2 := log_lt (n := l.length)
     have hp : 1 ≤ 2 ^ l.length.log2 := Nat.one_le_two_pow
     have hd : (l.drop (2 ^ l.length.log2)).length = l.length - 2 ^ l.length.log2 := List.length_drop
     rw [peaks_step (by omega)]
     by_cases he : l.length = 2 ^ l.length.log2
     · have : l.drop (2 ^ l.length.log2) = [] := List.eq_nil_of_length_eq_zero (by omega)
       rw [this, peaks_nil]
       show rootV _ = _
       rw [← he, List.take_length]
     · have e := ih _ (by omega) (l.drop (2 ^ l.length.log2)) rfl
       rw [rootV_step (l := l) (by omega), part_mid (a := l.length.log2) (by omega) h2, ← e, peaks_step (l := l.drop (2 ^ l.length.log2)) (by omega)]
       rfl
theorem join_all : ∀ (a : Nat) (m : List Dig) (leaf : Dig), m.length = 2 ^ a - 1 → rootV (m ++ [leaf]) = joinL (peaksV m) leaf
 | 0, m, leaf, h => by
   have : m = [] := List.eq_nil_of_length_eq_zero (by simpa using h)
   subst this
   rw [peaks_nil, rootV_one rfl]; rfl
 | a + 1, m, leaf, h => by
   have hp : 1 ≤ 2 ^ a := Nat.one_le_two_pow
   rw [Nat.pow_succ] at h
   have hl : m.length.log2 = a := log_is (by omega) (by omega)
   have ht : (m ++ [leaf]).length = 2 * 2 ^ a := by rw [List.length_append, List.length_cons, List.length_nil]; omega
   have hd : (m.drop (2 ^ a)).length = 2 ^ a - 1 := by rw [List.length_drop]; omega
   rw [rootV_step (by omega), ht, part_pow, List.take_append_of_le_length (by omega), List.drop_append_of_le_length (by omega), join_all a _ leaf hd, peaks_step (l := m) (by omega), hl]
   rfl
theorem push_cons {p : Dig} {ps : List Dig} {leaf : Dig} {j : Nat} (h : j ≤ ps.length) : pushV (p :: ps) leaf j = p :: pushV ps leaf j := by
 unfold pushV
 rw [List.length_cons, show ps.length + 1 - j = ps.length - j + 1 by omega]
 rfl
theorem peaks_push (m : List Dig) (leaf : Dig) : peaksV (m ++ [leaf]) = pushV (peaksV m) leaf (tones m.length) := by
 induction h : m.length using Nat.strongRecOn generalizing m with
 | _ n ih =>
   have hL : (m ++ [leaf]).length = n + 1 := by rw [List.length_append, List.length_cons, List.length_nil]; omega
   by_cases h0 : n = 0
   · have : m = [] := List.eq_nil_of_length_eq_zero (by omega)
     subst this; subst h0
     rw [tones_even (by decide), peaks_nil, push_zero, List.nil_append, peaks_step (l := [leaf]) (Nat.zero_lt_succ _)]
     show rootV [leaf] :: peaksV [] = _
     rw [rootV_one rfl, peaks_nil]; rfl
   · have h1 := log_le (n := m.length) (by omega)
     have h2 := log_lt (n := m.length)
     have hp : 1 ≤ 2 ^ m.length.log2 := Nat.one_le_two_pow
     have hd : (m.drop (2 ^ m.length.log2)).length = m.length - 2 ^ m.length.log2 := List.length_drop
     by_cases hc : n + 1 = 2 * 2 ^ m.length.log2
     · have ha : n = 2 ^ (m.length.log2 + 1) - 1 := by rw [Nat.pow_succ]; omega
       have hl : (m ++ [leaf]).length.log2 = m.length.log2 + 1 := by rw [hL]; exact log_is (by rw [Nat.pow_succ]; omega) (by rw [Nat.pow_succ]; omega)
       have hall := join_all (m.length.log2 + 1) m leaf (by omega)
       have ht := tones_all (m.length.log2 + 1)
       rw [← ha] at ht
       have hpk := peaks_len m
       rw [peaks_step (by omega), hl, List.take_of_length_le (by rw [hL, Nat.pow_succ]; omega), List.drop_eq_nil_of_le (by rw [hL, Nat.pow_succ]; omega), hall, peaks_nil, ht.1]
       unfold pushV
       rw [hpk, show popc m.length = m.length.log2 + 1 from (congrArg popc h).trans ht.2, Nat.sub_self]
       rfl
     · have hl : (m ++ [leaf]).length.log2 = m.length.log2 := by rw [hL]; exact log_is (by omega) (by omega)
       have ht := tones_add m.length.log2 (m.length - 2 ^ m.length.log2) (by omega)
       rw [show 2 ^ m.length.log2 + (m.length - 2 ^ m.length.log2) = n by omega] at ht
       have hle := tones_le (m.length - 2 ^ m.length.log2)
       have hpk := peaks_len (m.drop (2 ^ m.length.log2))
       rw [hd] at hpk
       rw [peaks_step (by omega), hl, List.take_append_of_le_length (by omega), List.drop_append_of_le_length (by omega), ih _ (by omega) _ rfl, hd, peaks_step (l := m) (by omega), push_cons (by omega), ht]
end Go.Sal

namespace Go.Sal
open Go.Vse
theorem and_split {i a b c d : Nat} (hb : b < 2 ^ i) (hd : d < 2 ^ i) : (2 ^ i * a + b) &&& (2 ^ i * c + d) = 2 ^ i * (a &&& c) + (b &&& d) := by
 refine Nat.eq_of_testBit_eq fun j => ?_
 rw [Nat.testBit_and, Nat.testBit_two_pow_mul_add _ hb, Nat.testBit_two_pow_mul_add _ hd, Nat.testBit_two_pow_mul_add _ (Nat.lt_of_le_of_lt Nat.and_le_left hb)]
 split
 · rw [Nat.testBit_and]
 · rw [Nat.testBit_and]
theorem and_bytes {a b c k m : Nat} (ha : a < 256) (hb : b < 256) (hc : c < 256) (hk : k < 256) : (a + 256 * b + 65536 * c) &&& (k + 256 * k + 65536 * k + 16777216 * m) = (a &&& k) + 256 * (b &&& k) + 65536 * (c &&& k) := by
 have e1 : a + 256 * b + 65536 * c = 2 ^ 8 * (2 ^ 8 * (2 ^ 8 * 0 + c) + b) + a := by omega
 have e2 : k + 256 * k + 65536 * k + 16777216 * m = 2 ^ 8 * (2 ^ 8 * (2 ^ 8 * m + k) + k) + k := by omega
 rw [e1, e2, and_split (by omega) (by omega), and_split (by omega) (by omega), and_split (by omega) (by omega), Nat.zero_and]
 omega
theorem b1 : ∀ (a : Fin 256) (q : Fin 2), ((a.val / 2 + q.val * 128) &&& 85) = (a.val / 2 &&& 85) := by decide +kernel
theorem b2 : ∀ (a : Fin 256) (q : Fin 4), ((a.val / 4 + q.val * 64) &&& 51) = (a.val / 4 &&& 51) := by decide +kernel
def t1 (a : Nat) : Nat := (a / 2 &&& 85) + (a &&& 85)
def t2 (a : Nat) : Nat := (a / 4 &&& 51) + (a &&& 51)
theorem t1_lt : ∀ a : Fin 256, t1 a.val < 256 := by decide +kernel
theorem t2_lt : ∀ a : Fin 256, t2 (t1 a.val) < 256 ∧ t2 (t1 a.val) % 16 ≤ 4 ∧ t2 (t1 a.val) / 16 ≤ 4 := by decide +kernel
def popK : Nat → Nat → Nat
 | 0, _ => 0
 | k + 1, n => n % 2 + popK k (n / 2)
theorem popc_lt : ∀ (k n : Nat), n < 2 ^ k → popc n = popK k n
 | 0, n, h => by
   have : n = 0 := by simpa using h
   subst this; exact popc_zero
 | k + 1, n, h => by
   rw [Nat.pow_succ] at h
   rw [popc_step, popc_lt k (n / 2) (by omega)]; rfl
theorem t3_is : ∀ a : Fin 256, t2 (t1 a.val) / 16 + t2 (t1 a.val) % 16 = popK 8 a.val := by decide +kernel
theorem popc_split : ∀ (k a b : Nat), a < 2 ^ k → popc (a + 2 ^ k * b) = popc a + popc b
 | 0, a, b, h => by
   have : a = 0 := by simpa using h
   subst this; rw [popc_zero]; simp
 | k + 1, a, b, h => by
   rw [Nat.pow_succ] at h
   have e1 : (a + 2 ^ (k + 1) * b) % 2 = a % 2 := by rw [Nat.pow_succ, Nat.mul_assoc, Nat.mul_left_comm]; omega
   have e2 : (a + 2 ^ (k + 1) * b) / 2 = a / 2 + 2 ^ k * b := by rw [Nat.pow_succ, Nat.mul_assoc, Nat.mul_left_comm]; omega
   rw [popc_step, e1, e2, popc_split k (a / 2) b (by omega), popc_step a]
   omega
def s1 (x : Nat) : Nat := (x / 2 &&& 6148914691236517205) + (x &&& 6148914691236517205)
def s2 (x : Nat) : Nat := (x / 4 &&& 3689348814741910323) + (x &&& 3689348814741910323)
def s3 (x : Nat) : Nat := (x / 16 + x) &&& 1085102592571150095
theorem s1_is {a b c : Nat} (ha : a < 256) (hb : b < 256) (hc : c < 256) : s1 (a + 256 * b + 65536 * c) = t1 a + 256 * t1 b + 65536 * t1 c := by
 unfold s1
 have e : (a + 256 * b + 65536 * c) / 2 = (a / 2 + b % 2 * 128) + 256 * (b / 2 + c % 2 * 128) + 65536 * (c / 2) := by omega
 have m : 6148914691236517205 = 85 + 256 * 85 + 65536 * 85 + 16777216 * 366503875925 := by decide
 rw [e, m, and_bytes (by omega) (by omega) (by omega) (by omega), and_bytes ha hb hc (by omega), b1 ⟨a, ha⟩ ⟨b % 2, by omega⟩, b1 ⟨b, hb⟩ ⟨c % 2, by omega⟩]
 unfold t1
 simp only
 omega
theorem s2_is {a b c : Nat} (ha : a < 256) (hb : b < 256) (hc : c < 256) : s2 (a + 256 * b + 65536 * c) = t2 a + 256 * t2 b + 65536 * t2 c := by
 unfold s2
 have e : (a + 256 * b + 65536 * c) / 4 = (a / 4 + b % 4 * 64) + 256 * (b / 4 + c % 4 * 64) + 65536 * (c / 4) := by omega
 have m : 3689348814741910323 = 51 + 256 * 51 + 65536 * 51 + 16777216 * 219902325555 := by decide
 rw [e, m, and_bytes (by omega) (by omega) (by omega) (by omega), and_bytes ha hb hc (by omega), b2 ⟨a, ha⟩ ⟨b % 4, by omega⟩, b2 ⟨b, hb⟩ ⟨c % 4, by omega⟩]
 unfold t2
 simp only
 omega
theorem m15 : ∀ (x y : Fin 16), ((x.val * 16 + y.val) &&& 15) = y.val := by decide +kernel
theorem s3_is {a b c : Nat} (ha : a < 256) (hb : b < 256) (hc : c < 256) (a1 : a % 16 ≤ 4) (a2 : a / 16 ≤ 4) (b1 : b % 16 ≤ 4) (b2 : b / 16 ≤ 4) (c1 : c % 16 ≤ 4) (c2 : c / 16 ≤ 4) :
 s3 (a + 256 * b + 65536 * c) = (a / 16 + a % 16) + 256 * (b / 16 + b % 16) + 65536 * (c / 16 + c % 16) := by
 unfold s3
 have e : (a + 256 * b + 65536 * c) / 16 + (a + 256 * b + 65536 * c) = ((a / 16 + b % 16) * 16 + (a / 16 + a % 16)) + 256 * ((b / 16 + c % 16) * 16 + (b / 16 + b % 16)) + 65536 * ((c / 16) * 16 + (c / 16 + c % 16)) := by omega
 have m : 1085102592571150095 = 15 + 256 * 15 + 65536 * 15 + 16777216 * 64677154575 := by decide
 rw [e, m, and_bytes (by omega) (by omega) (by omega) (by omega), m15 ⟨a / 16 + b % 16, by omega⟩ ⟨a / 16 + a % 16, by omega⟩, m15 ⟨b / 16 + c % 16, by omega⟩ ⟨b / 16 + b % 16, by omega⟩, m15 ⟨c / 16, by omega⟩ ⟨c / 16 + c % 16, by omega⟩]
def sAdd (k x : Nat) : Nat := x + x / k
theorem ones_end9 : ∀ a b c : Fin 9, sAdd 4294967296 (sAdd 65536 (sAdd 256 (a.val + 256 * b.val + 65536 * c.val))) % 128 = a.val + b.val + c.val := by decide +kernel
theorem ones_end {a b c : Nat} (ha : a ≤ 8) (hb : b ≤ 8) (hc : c ≤ 8) : sAdd 4294967296 (sAdd 65536 (sAdd 256 (a + 256 * b + 65536 * c))) % 128 = a + b + c :=
 ones_end9 ⟨a, by omega⟩ ⟨b, by omega⟩ ⟨c, by omega⟩
theorem ones_is {x : Nat} (h : x ≤ 1048576) : s1 x ≤ 16777215 ∧ s2 (s1 x) ≤ 16777215 ∧ s3 (s2 (s1 x)) ≤ 16777215 ∧ sAdd 4294967296 (sAdd 65536 (sAdd 256 (s3 (s2 (s1 x))))) % 128 = popc x := by
 have hx : x = x % 256 + 256 * (x / 256 % 256) + 65536 * (x / 65536) := by omega
 have ha : x % 256 < 256 := by omega
 have hb : x / 256 % 256 < 256 := by omega
 have hc : x / 65536 < 256 := by omega
 have hp : popc x = popK 8 (x % 256) + popK 8 (x / 256 % 256) + popK 8 (x / 65536) := by
  rw [← popc_lt 8 _ ha, ← popc_lt 8 _ hb, ← popc_lt 8 _ hc]
  rw [show x = x % 256 + 2 ^ 8 * (x / 256 % 256 + 2 ^ 8 * (x / 65536)) by omega]
  rw [popc_split 8 _ _ (by omega), popc_split 8 _ _ (by omega), show (x % 256 + 2 ^ 8 * (x / 256 % 256 + 2 ^ 8 * (x / 65536))) = x by omega, Nat.add_assoc]
 rw [hp]
 generalize x % 256 = a at *
 generalize x / 256 % 256 = b at *
 generalize x / 65536 = c at *
 subst hx
 have ga := t1_lt ⟨a, ha⟩; have gb := t1_lt ⟨b, hb⟩; have gc := t1_lt ⟨c, hc⟩
 obtain ⟨fa1, fa2, fa3⟩ := t2_lt ⟨a, ha⟩; obtain ⟨fb1, fb2, fb3⟩ := t2_lt ⟨b, hb⟩; obtain ⟨fc1, fc2, fc3⟩ := t2_lt ⟨c, hc⟩
 have ka := t3_is ⟨a, ha⟩; have kb := t3_is ⟨b, hb⟩; have kc := t3_is ⟨c, hc⟩
 simp only at ga gb gc fa1 fa2 fa3 fb1 fb2 fb3 fc1 fc2 fc3 ka kb kc
 rw [s1_is ha hb hc, s2_is ga gb gc, s3_is fa1 fb1 fc1 fa2 fa3 fb2 fb3 fc2 fc3, ones_end (by omega) (by omega) (by omega), ka, kb, kc]
 exact ⟨by omega, by omega, by omega, rfl⟩
end Go.Sal

namespace Go.Sal
open Go.Vse
def v1 (x : BitVec 64) : BitVec 64 := (x >>> BitVec.toNat 1#64 &&& 6148914691236517205#64) + (x &&& 6148914691236517205#64)
def v2 (x : BitVec 64) : BitVec 64 := (x >>> BitVec.toNat 2#64 &&& 3689348814741910323#64) + (x &&& 3689348814741910323#64)
def v3 (x : BitVec 64) : BitVec 64 := (x >>> BitVec.toNat 4#64 + x) &&& 1085102592571150095#64
def vA (k x : BitVec 64) : BitVec 64 := x + x >>> BitVec.toNat k
theorem shN (x k : BitVec 64) : (x >>> k.toNat).toNat = x.toNat / 2 ^ k.toNat := by
 rw [BitVec.toNat_ushiftRight, Nat.shiftRight_eq_div_pow]
theorem v1_is {x : BitVec 64} (h : s1 x.toNat ≤ 16777215) : (v1 x).toNat = s1 x.toNat := by
 unfold v1
 rw [BitVec.toNat_add, BitVec.toNat_and, BitVec.toNat_and, shN]
 have e : (x.toNat / 2 ^ (1#64).toNat &&& (6148914691236517205#64).toNat) + (x.toNat &&& (6148914691236517205#64).toNat) = s1 x.toNat := rfl
 rw [e]
 omega
theorem v2_is {x : BitVec 64} (h : s2 x.toNat ≤ 16777215) : (v2 x).toNat = s2 x.toNat := by
 unfold v2
 rw [BitVec.toNat_add, BitVec.toNat_and, BitVec.toNat_and, shN]
 have e : (x.toNat / 2 ^ (2#64).toNat &&& (3689348814741910323#64).toNat) + (x.toNat &&& (3689348814741910323#64).toNat) = s2 x.toNat := rfl
 rw [e]
 omega
theorem v3_is {x : BitVec 64} (h : x.toNat ≤ 16777215) : (v3 x).toNat = s3 x.toNat := by
 unfold v3
 rw [BitVec.toNat_and, BitVec.toNat_add, shN]
 have e : (x.toNat / 2 ^ (4#64).toNat + x.toNat) % 2 ^ 64 = x.toNat / 16 + x.toNat := by
  have : x.toNat / 2 ^ (4#64).toNat = x.toNat / 16 := rfl
  rw [this]; omega
 rw [e]
 rfl
theorem vA_is {x k : BitVec 64} {d : Nat} (hd : 2 ^ k.toNat = d) (hk : 1 ≤ d) (h : x.toNat ≤ 1000000000) : (vA k x).toNat = sAdd d x.toNat := by
 unfold vA sAdd
 rw [BitVec.toNat_add, shN, hd]
 have := Nat.div_le_self x.toNat d
 generalize x.toNat / d = q at *
 exact Nat.mod_eq_of_lt (by omega)
theorem sAdd_le {d x : Nat} : sAdd d x ≤ 2 * x := by
 unfold sAdd
 have := Nat.div_le_self x d
 omega
theorem ones_bv {x : BitVec 64} (h : x.toNat ≤ 1048576) : BitVec.toInt (BitVec.ofInt 64 (BitVec.toInt (BitVec.setWidth 64 (vA 32#64 (vA 16#64 (vA 8#64 (v3 (v2 (v1 x)))))))) &&& 127#64) = ofN (popc x.toNat) := by
 obtain ⟨h1, h2, h3, h4⟩ := ones_is h
 have e1 := v1_is h1
 have e2 : (v2 (v1 x)).toNat = s2 (s1 x.toNat) := by rw [v2_is (by rw [e1]; exact h2), e1]
 have e3 : (v3 (v2 (v1 x))).toNat = s3 (s2 (s1 x.toNat)) := by rw [v3_is (by rw [e2]; exact h2), e2]
 have e4 : (vA 8#64 (v3 (v2 (v1 x)))).toNat = sAdd 256 (s3 (s2 (s1 x.toNat))) := by rw [vA_is (d := 256) (by decide) (by decide) (by rw [e3]; omega), e3]
 have l4 := @sAdd_le 256 (s3 (s2 (s1 x.toNat)))
 have e5 : (vA 16#64 (vA 8#64 (v3 (v2 (v1 x))))).toNat = sAdd 65536 (sAdd 256 (s3 (s2 (s1 x.toNat)))) := by rw [vA_is (d := 65536) (by decide) (by decide) (by rw [e4]; omega), e4]
 have l5 := @sAdd_le 65536 (sAdd 256 (s3 (s2 (s1 x.toNat))))
 have e6 : (vA 32#64 (vA 16#64 (vA 8#64 (v3 (v2 (v1 x)))))).toNat = sAdd 4294967296 (sAdd 65536 (sAdd 256 (s3 (s2 (s1 x.toNat))))) := by rw [vA_is (d := 4294967296) (by decide) (by decide) (by rw [e5]; omega), e5]
 rw [← e6] at h4
 generalize vA 32#64 (vA 16#64 (vA 8#64 (v3 (v2 (v1 x))))) = z at *
 rw [BitVec.setWidth_eq, BitVec.ofInt_toInt]
 have ea : (z &&& 127#64).toNat = z.toNat % 128 := by
  rw [BitVec.toNat_and]
  exact Nat.and_two_pow_sub_one_eq_mod z.toNat 7
 rw [BitVec.toInt_eq_toNat_of_lt (by rw [ea]; omega), ea, h4]
theorem ctz_tones : ∀ f m, m < 2 ^ f - 1 → Lib.ctzFrom f (2 ^ f - 1 - m) = tones m
 | 0, m, h => by simp at h
 | f + 1, m, h => by
   have hp : 1 ≤ 2 ^ f := Nat.one_le_two_pow
   unfold Lib.ctzFrom
   by_cases hm : m % 2 = 1
   · rw [Nat.pow_succ] at h ⊢
     rw [if_neg (by omega), tones_odd hm, show (2 ^ f * 2 - 1 - m) / 2 = 2 ^ f - 1 - m / 2 by omega, ctz_tones f (m / 2) (by omega)]
   · rw [Nat.pow_succ] at h ⊢
     rw [if_pos (by omega), tones_even hm]
def tzN (n : Nat) : Nat := Lib.ctz 64 n
theorem tz_not {x : BitVec 64} (h : x.toNat ≤ 1048576) : tzN (~~~x).toNat = tones x.toNat := by
 unfold tzN Lib.ctz
 rw [BitVec.toNat_not, if_neg (by omega)]
 exact ctz_tones 64 x.toNat (by omega)
end Go.Sal
