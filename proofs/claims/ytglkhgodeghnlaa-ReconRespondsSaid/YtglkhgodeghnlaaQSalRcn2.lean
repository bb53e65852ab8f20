/- Prefixes of digests: bits, masks, order, what is below one. No program in sight. -/
import Derived.Test.YtglkhgodeghnlaaQSalRcn
set_option maxRecDepth 100000
namespace Go.Sal
open Go.Vse

theorem checkS_zero {l : List DigP} : checkS l = 0 ↔ l.length ≤ 65536 ∧ ascV l = true := by
 unfold checkS
 cases h : (decide (65536 < l.length) || !ascV l) with
 | true =>
   simp only [cond_true]
   simp only [Bool.or_eq_true, decide_eq_true_eq, Bool.not_eq_true'] at h
   constructor
   · intro h; cases h
   · rintro ⟨h1, h2⟩
     rcases h with h | h
     · omega
     · rw [h2] at h; cases h
 | false =>
   simp only [cond_false]
   simp only [Bool.or_eq_false_iff, decide_eq_false_iff_not, Bool.not_eq_false'] at h
   exact ⟨fun _ => ⟨by omega, h.2⟩, fun _ => trivial⟩
theorem rightV_zero {p : Pre} : rightV p = 0 ↔ rightB p = true := by
 unfold rightV
 cases rightB p <;> simp

theorem getD_set {α : Type} {l : List α} {i j : Nat} {x d : α} (h : i < l.length) : (l.set i x).getD j d = if i = j then x else l.getD j d := by
 rw [List.getD_eq_getElem?_getD, List.getD_eq_getElem?_getD, List.getElem?_set]
 split
 · rename_i e; subst e; simp [h]
 · rfl
theorem maskI_len {d : DigP} {n : Int} {ones : Bool} : ∀ k, (maskI d n ones k).length = d.length
 | 0 => rfl
 | k + 1 => by simp only [maskI, List.length_set]; exact maskI_len k
theorem maskV_len {d : DigP} {n : Int} {ones : Bool} : (maskV d n ones).length = d.length := maskI_len 32
theorem maskI_get {d : DigP} {n : Int} {ones : Bool} (hd : d.length = 32) : ∀ k, k ≤ 32 → ∀ i, (maskI d n ones k).getD i 0#8 = if i < k then maskB n ones i (d.getD i 0#8) else d.getD i 0#8
 | 0, _, i => by simp [maskI]
 | k + 1, hk, i => by
   have ih := maskI_get (n := n) (ones := ones) hd k (by omega)
   simp only [maskI]
   rw [getD_set (by rw [maskI_len, hd]; omega)]
   by_cases h : k = i
   · subst h
     rw [if_pos rfl, ih k, if_neg (by omega), if_pos (by omega)]
   · rw [if_neg h, ih i]
     by_cases h2 : i < k
     · rw [if_pos h2, if_pos (by omega)]
     · rw [if_neg h2, if_neg (by omega)]
theorem maskV_get {d : DigP} {n : Int} {ones : Bool} (hd : d.length = 32) {i : Nat} (hi : i < 32) : (maskV d n ones).getD i 0#8 = maskB n ones i (d.getD i 0#8) := by
 unfold maskV
 rw [maskI_get hd 32 (Nat.le_refl _), if_pos hi]
theorem low_bit (m t : Nat) : (255#8 >>> m).getLsbD t = decide (m + t < 8) := by
 rw [BitVec.getLsbD_ushiftRight, show (255#8) = BitVec.allOnes 8 from by decide, BitVec.getLsbD_allOnes]
theorem maskB_bit {n : Int} {ones : Bool} {k : Nat} {b : B8} {j : Nat} (hj : j < 8) :
 (maskB n ones k b).getLsbD (7 - j) = if ((8 * k + j : Nat) : Int) < n then b.getLsbD (7 - j) else ones := by
 have key : (255#8 >>> (min 8 (max 0 (n - 8 * (k : Int)))).toNat).getLsbD (7 - j) = !decide (((8 * k + j : Nat) : Int) < n) := by
  rw [low_bit, Bool.eq_iff_iff, decide_eq_true_eq, Bool.not_eq_true', decide_eq_false_iff_not]
  omega
 unfold maskB
 cases ones with
 | true =>
   simp only [cond_true, BitVec.getLsbD_or, BitVec.getLsbD_and, BitVec.getLsbD_not, key]
   by_cases h : ((8 * k + j : Nat) : Int) < n
   · simp only [h, decide_true, Bool.not_true, Bool.not_false, if_true, Bool.or_false]
     rw [show decide (7 - j < 8) = true from by simp; omega]; simp
   · simp only [h, decide_false, Bool.not_false, Bool.not_true, Bool.and_false, Bool.or_true, if_false]
 | false =>
   simp only [cond_false, BitVec.getLsbD_and, BitVec.getLsbD_not, key]
   by_cases h : ((8 * k + j : Nat) : Int) < n
   · simp only [h, decide_true, Bool.not_true, Bool.not_false, if_true]
     rw [show decide (7 - j < 8) = true from by simp; omega]; simp
   · simp only [h, decide_false, Bool.not_false, Bool.not_true, Bool.and_false, if_false]
theorem mask_bit {d : DigP} {n : Int} {ones : Bool} (hd : d.length = 32) {i : Nat} (hi : i < 256) : bitV (maskV d n ones) i = if (i : Int) < n then bitV d i else ones := by
 unfold bitV
 rw [maskV_get hd (by omega), maskB_bit (by omega)]
 rw [show 8 * (i / 8) + i % 8 = i by omega]
theorem byte_ext {x y : B8} (h : ∀ j, j < 8 → x.getLsbD (7 - j) = y.getLsbD (7 - j)) : x = y := by
 apply BitVec.eq_of_getLsbD_eq
 intro i hi
 have := h (7 - i) (by omega)
 rwa [show 7 - (7 - i) = i by omega] at this
theorem dig_ext {a b : DigP} (ha : a.length = 32) (hb : b.length = 32) (h : ∀ i, i < 256 → bitV a i = bitV b i) : a = b := by
 apply List.ext_getElem (by omega)
 intro k h1 h2
 have e : a.getD k 0#8 = b.getD k 0#8 := byte_ext fun j hj => by
  have := h (8 * k + j) (by omega)
  unfold bitV at this
  rwa [show (8 * k + j) / 8 = k by omega, show (8 * k + j) % 8 = j by omega] at this
 rwa [getD_lt h1, getD_lt h2] at e
theorem masked_iff {d : DigP} (hd : d.length = 32) {n : Int} : maskV d n false = d ↔ ∀ i : Nat, i < 256 → n ≤ (i : Int) → bitV d i = false := by
 constructor
 · intro h i hi hn
   have := mask_bit (n := n) (ones := false) hd hi
   rw [h, if_neg (by omega)] at this
   exact this
 · intro h
   refine dig_ext (by rw [maskV_len, hd]) hd fun i hi => ?_
   rw [mask_bit hd hi]
   split
   · rfl
   · rw [h i hi (by omega)]
theorem right_iff {p : Pre} (hd : p.2.length = 32) : rightB p = true ↔ (0 : Int) ≤ p.1 ∧ (256 : Int) ≥ p.1 ∧ ∀ i : Nat, i < 256 → (i : Int) ≥ p.1 → bitV p.2 i = false := by
 unfold rightB
 simp only [Bool.and_eq_true, decide_eq_true_eq, and_assoc]
 rw [masked_iff hd]
theorem under_iff {d : DigP} {p : Pre} : underV d p = true ↔ ∀ i, i < p.1.toNat → bitV d i = bitV p.2 i := by
 unfold underV
 rw [List.all_eq_true]
 constructor
 · intro h i hi
   simpa using h i (List.mem_range.2 hi)
 · intro h i hi
   rw [List.mem_range] at hi
   simpa using h i hi

theorem lessAt : ∀ {a b : Bytes} (x : Nat), a.take x = b.take x → x < a.length → x < b.length → a.getD x 0#8 ≠ b.getD x 0#8 → decide (a.getD x 0#8 < b.getD x 0#8) = lessL a b
 | c :: a, d :: b, 0, _, _, _, hne => by
   simp only [List.getD_cons_zero] at hne ⊢
   unfold lessL
   simp [hne]
 | c :: a, d :: b, x + 1, h, ha, hb, hne => by
   simp only [List.take_succ_cons, List.cons.injEq] at h
   simp only [List.getD_cons_succ] at hne ⊢
   have ih := lessAt x h.2 (by simpa using ha) (by simpa using hb) hne
   rw [ih]
   have e : lessL (c :: a) (d :: b) = (decide (c < d) || (c == d && lessL a b)) := rfl
   rw [e, h.1]
   simp
 | [], _, _, _, h, _, _ => by simp at h
 | _ :: _, [], _, _, _, h, _ => by simp at h
theorem byte_lt {x y : B8} {j : Nat} (hj : j < 8) (h : ∀ k, k < j → x.getLsbD (7 - k) = y.getLsbD (7 - k)) (hx : x.getLsbD (7 - j) = false) (hy : y.getLsbD (7 - j) = true) : x < y := by
 rw [BitVec.lt_def]
 have key : ∀ i, 7 - j < i → x.toNat.testBit i = y.toNat.testBit i := fun i hi => ?_
 · have e1 : x.toNat / 2 ^ (7 - j + 1) = y.toNat / 2 ^ (7 - j + 1) := Nat.eq_of_testBit_eq fun i => by
     rw [Nat.testBit_div_two_pow, Nat.testBit_div_two_pow]; exact key _ (by omega)
   have hx : x.toNat.testBit (7 - j) = false := hx
   have hy : y.toNat.testBit (7 - j) = true := hy
   rw [Nat.testBit_eq_decide_div_mod_eq] at hx hy
   simp only [decide_eq_false_iff_not, decide_eq_true_eq] at hx hy
   rw [Nat.pow_succ, ← Nat.div_div_eq_div_mul, ← Nat.div_div_eq_div_mul] at e1
   have h3 : x.toNat / 2 ^ (7 - j) < y.toNat / 2 ^ (7 - j) := by omega
   rcases Nat.lt_or_ge x.toNat y.toNat with h | h
   · exact h
   · exact absurd (Nat.div_le_div_right (c := 2 ^ (7 - j)) h) (by omega)
 by_cases h8 : i < 8
 · have := h (7 - i) (by omega)
   rwa [show 7 - (7 - i) = i by omega] at this
 · rw [Nat.testBit_lt_two_pow (Nat.lt_of_lt_of_le x.isLt (Nat.pow_le_pow_right (by omega) (by omega))), Nat.testBit_lt_two_pow (Nat.lt_of_lt_of_le y.isLt (Nat.pow_le_pow_right (by omega) (by omega)))]
theorem bit_less {a b : DigP} (ha : a.length = 32) (hb : b.length = 32) {i : Nat} (hi : i < 256) (h : ∀ j, j < i → bitV a j = bitV b j) (h1 : bitV a i = false) (h2 : bitV b i = true) : lessL a b = true := by
 have hbyte : ∀ k, k < i / 8 → a.getD k 0#8 = b.getD k 0#8 := fun k hk => byte_ext fun j hj => by
  have := h (8 * k + j) (by omega)
  unfold bitV at this
  rwa [show (8 * k + j) / 8 = k by omega, show (8 * k + j) % 8 = j by omega] at this
 have hlt : a.getD (i / 8) 0#8 < b.getD (i / 8) 0#8 := by
  refine byte_lt (j := i % 8) (by omega) (fun k hk => ?_) h1 h2
  have := h (8 * (i / 8) + k) (by omega)
  unfold bitV at this
  rwa [show (8 * (i / 8) + k) / 8 = i / 8 by omega, show (8 * (i / 8) + k) % 8 = k by omega] at this
 have htake : a.take (i / 8) = b.take (i / 8) := by
  apply List.ext_getElem (by simp [ha, hb])
  intro k k1 k2
  simp only [List.length_take] at k1
  have := hbyte k (by omega)
  rw [getD_lt (by omega), getD_lt (by omega)] at this
  simpa using this
 rw [← lessAt (i / 8) htake (by omega) (by omega) (fun e => by rw [e] at hlt; exact absurd hlt (by simp))]
 simpa using hlt
theorem first_diff {f g : Nat → Bool} : ∀ n : Nat, (∀ i, i < n → f i = g i) ∨ ∃ i, i < n ∧ (∀ j, j < i → f j = g j) ∧ f i ≠ g i
 | 0 => .inl fun i hi => by omega
 | n + 1 => by
   rcases first_diff (f := f) (g := g) n with h | ⟨i, h1, h2, h3⟩
   · by_cases he : f n = g n
     · exact .inl fun i hi => by
         by_cases e : i = n
         · rw [e]; exact he
         · exact h i (by omega)
     · exact .inr ⟨n, by omega, h, he⟩
   · exact .inr ⟨i, by omega, h2, h3⟩
theorem under_between {e : DigP} {p : Pre} (he : e.length = 32) (hd : p.2.length = 32) (hr : rightB p = true) : underV e p = (!lessL e p.2 && !lessL (maskV p.2 p.1 true) e) := by
 obtain ⟨r1, r2, r3⟩ := (right_iff hd).1 hr
 have hlast : ∀ i : Nat, i < 256 → bitV (maskV p.2 p.1 true) i = if (i : Int) < p.1 then bitV p.2 i else true := fun i hi => mask_bit hd hi
 have hll : (maskV p.2 p.1 true).length = 32 := by rw [maskV_len, hd]
 cases hu : underV e p with
 | true =>
   have hu := under_iff.1 hu
   have n1 : lessL e p.2 = false := by
    rcases first_diff (f := bitV e) (g := bitV p.2) 256 with h | ⟨i, h1, h2, h3⟩
    · rw [dig_ext he hd h, lessL_irr]
    · have hi : (i : Int) ≥ p.1 := by
        rcases (by omega : (i : Int) < p.1 ∨ (i : Int) ≥ p.1) with h | h
        · exact absurd (hu i (by omega)) h3
        · exact h
      have hp := r3 i h1 hi
      have he1 : bitV e i = true := by
       rw [hp] at h3; simpa using h3
      exact lessL_asym (bit_less hd he h1 (fun j hj => (h2 j hj).symm) hp he1)
   have n2 : lessL (maskV p.2 p.1 true) e = false := by
    rcases first_diff (f := bitV e) (g := bitV (maskV p.2 p.1 true)) 256 with h | ⟨i, h1, h2, h3⟩
    · rw [dig_ext he hll h, lessL_irr]
    · have hb := hlast i h1
      have hi : ¬ (i : Int) < p.1 := fun h => by
       rw [if_pos h] at hb
       exact h3 (by rw [hb]; exact hu i (by omega))
      rw [if_neg hi] at hb
      have he0 : bitV e i = false := by rw [hb] at h3; simpa using h3
      exact lessL_asym (bit_less he hll h1 h2 he0 hb)
   rw [n1, n2]; rfl
 | false =>
   rcases first_diff (f := bitV e) (g := bitV p.2) p.1.toNat with h | ⟨i, h1, h2, h3⟩
   · rw [under_iff.2 h] at hu; cases hu
   · cases hb : bitV e i with
     | false =>
       have : bitV p.2 i = true := by rw [hb] at h3; simpa using h3
       rw [bit_less he hd (by omega) h2 hb this]; rfl
     | true =>
       have hp : bitV p.2 i = false := by rw [hb] at h3; simpa using h3
       have h4 : lessL (maskV p.2 p.1 true) e = true := bit_less hll he (i := i) (by omega) (fun j hj => by
        rw [hlast j (by omega), if_pos (by omega)]; exact (h2 j hj).symm) (by rw [hlast i (by omega), if_pos (by omega)]; exact hp) hb
       rw [h4]; simp

def lowV (xs : List DigP) (d : DigP) : Nat := (xs.takeWhile fun e => lessL e d).length
theorem low_le (xs : List DigP) (d : DigP) : lowV xs d ≤ xs.length := (List.takeWhile_sublist _).length_le
theorem low_cons_lt {x : DigP} {r : List DigP} {d : DigP} (h : lessL x d = true) : lowV (x :: r) d = lowV r d + 1 := by
 unfold lowV; rw [List.takeWhile_cons_of_pos (p := fun e => lessL e d) h]; rfl
theorem low_cons_ge {x : DigP} {r : List DigP} {d : DigP} (h : lessL x d = false) : lowV (x :: r) d = 0 := by
 unfold lowV; rw [List.takeWhile_cons_of_neg (p := fun e => lessL e d) (by rw [h]; decide)]; rfl
theorem low_iff : ∀ {xs : List DigP} {d : DigP}, xs.Pairwise risesB → ∀ i, i < xs.length → lessL (xs.getD i dig0) d = decide (i < lowV xs d)
 | x :: r, d, h, i, hi => by
   rw [List.pairwise_cons] at h
   cases hx : lessL x d with
   | true =>
     rw [low_cons_lt hx]
     cases i with
     | zero => rw [List.getD_cons_zero, hx]; simp
     | succ i =>
       rw [List.getD_cons_succ, low_iff h.2 i (by simpa using hi)]
       simp
   | false =>
     rw [low_cons_ge hx]
     cases i with
     | zero => rw [List.getD_cons_zero, hx]; simp
     | succ i =>
       have hm : r.getD i dig0 ∈ r := by rw [getD_lt (by simpa using hi)]; exact List.getElem_mem _
       rw [List.getD_cons_succ]
       cases hq : lessL (r.getD i dig0) d with
       | true => rw [lessL_trans (h.1 _ hm) hq] at hx; cases hx
       | false => simp
theorem hasD_iff {xs : List DigP} {d : DigP} : hasD xs d = true ↔ d ∈ xs := by unfold hasD; simp
theorem hasD_cons {x : DigP} {r : List DigP} {d : DigP} : hasD (x :: r) d = (decide (d = x) || hasD r d) := by
 unfold hasD
 rw [List.contains_cons]
 congr 1
 rw [Bool.eq_iff_iff]; simp
theorem has_low : ∀ {xs : List DigP} {d : DigP}, xs.Pairwise risesB → (decide (lowV xs d < xs.length) && cmpV (xs.getD (lowV xs d) dig0) d == 0) = hasD xs d
 | [], d, _ => rfl
 | x :: r, d, h => by
   rw [List.pairwise_cons] at h
   cases hx : lessL x d with
   | true =>
     rw [low_cons_lt hx, List.getD_cons_succ, hasD_cons, ← has_low h.2]
     have : ¬ d = x := fun e => by subst e; rw [lessL_irr] at hx; cases hx
     simp [this]
   | false =>
     rw [low_cons_ge hx, List.getD_cons_zero, hasD_cons]
     by_cases e : d = x
     · subst e
       have := (cmp_zero d d).2 rfl
       simp [this]
     · have h1 : (cmpV x d == 0) = false := by
         rw [beq_eq_false_iff_ne]
         exact fun h => e ((cmp_zero x d).1 h).symm
       have h2 : hasD r d = false := by
        cases hq : hasD r d with
        | false => rfl
        | true =>
          have := h.1 d (hasD_iff.1 hq)
          unfold risesB at this
          rw [this] at hx; cases hx
       rw [h1, h2]; simp [e]
theorem filter_ge : ∀ {xs : List DigP} {d : DigP}, xs.Pairwise risesB → xs.filter (fun e => !lessL e d) = xs.drop (lowV xs d)
 | [], _, _ => by simp
 | x :: r, d, h => by
   rw [List.pairwise_cons] at h
   cases hx : lessL x d with
   | true =>
     rw [low_cons_lt hx, List.filter_cons_of_neg (by rw [hx]; decide), List.drop_succ_cons, filter_ge h.2]
   | false =>
     rw [low_cons_ge hx, List.drop_zero]
     refine List.filter_eq_self.2 fun e he => ?_
     rcases List.mem_cons.1 he with rfl | he
     · rw [hx]; rfl
     · cases hq : lessL e d with
       | true => rw [lessL_trans (h.1 e he) hq] at hx; cases hx
       | false => rfl
def oneIf (b : Bool) : Nat := bif b then 1 else 0
theorem filter_le : ∀ {xs : List DigP} {d : DigP}, xs.Pairwise risesB → xs.filter (fun e => !lessL d e) = xs.take (lowV xs d + oneIf (hasD xs d))
 | [], _, _ => by simp
 | x :: r, d, h => by
   rw [List.pairwise_cons] at h
   cases hx : lessL x d with
   | true =>
     have hne : ¬ d = x := fun e => by subst e; rw [lessL_irr] at hx; cases hx
     rw [low_cons_lt hx, List.filter_cons_of_pos (by rw [lessL_asym hx]; rfl), filter_le h.2, hasD_cons]
     simp only [hne, decide_false, Bool.false_or]
     rw [show lowV r d + 1 + oneIf (hasD r d) = (lowV r d + oneIf (hasD r d)) + 1 by omega, List.take_succ_cons]
   | false =>
     have hr : ∀ e ∈ r, lessL d e = true := fun e he => by
      by_cases hd : lessL d x = true
      · exact lessL_trans hd (h.1 e he)
      · have : d = x := lessL_tri (by simpa using hd) hx
        rw [this]; exact h.1 e he
     rw [low_cons_ge hx, hasD_cons]
     have hf : r.filter (fun e => !lessL d e) = [] := List.filter_eq_nil_iff.2 fun e he => by rw [hr e he]; decide
     have hn : hasD r d = false := by
      cases hq : hasD r d with
      | false => rfl
      | true =>
        have := hr d (hasD_iff.1 hq)
        rw [lessL_irr] at this; cases this
     by_cases e : d = x
     · subst e
       rw [List.filter_cons_of_pos (by rw [lessL_irr]; rfl), hf, hn]
       simp [oneIf]
     · have : lessL d x = true := by
         cases hq : lessL d x with
         | true => rfl
         | false => exact absurd (lessL_tri hq hx) e
       rw [List.filter_cons_of_neg (by rw [this]; decide), hf, hn]
       simp [oneIf, e]
theorem low_take : ∀ (xs : List DigP) (d : DigP) (k : Nat), lowV (xs.take k) d = min k (lowV xs d)
 | [], d, k => by simp [lowV]
 | x :: r, d, 0 => by simp [lowV]
 | x :: r, d, k + 1 => by
   rw [List.take_succ_cons]
   cases hx : lessL x d with
   | true => rw [low_cons_lt hx, low_cons_lt hx, low_take r d k]; omega
   | false => rw [low_cons_ge hx, low_cons_ge hx]; simp
theorem below_cut {xs : List DigP} {p : Pre} (h : xs.Pairwise risesB) (h32 : ∀ d ∈ xs, d.length = 32) (hp : p.2.length = 32) (hr : rightB p = true) :
 (xs.take (lowV xs (maskV p.2 p.1 true) + oneIf (hasD xs (maskV p.2 p.1 true)))).drop (lowV xs p.2) = belowV xs p := by
 have e1 : belowV xs p = (xs.filter fun e => !lessL (maskV p.2 p.1 true) e).filter fun e => !lessL e p.2 := by
  unfold belowV
  rw [List.filter_filter]
  exact List.filter_congr fun e he => under_between (h32 e he) hp hr
 rw [e1, filter_le h, filter_ge (h.sublist (List.take_sublist _ _)), low_take]
 generalize lowV xs (maskV p.2 p.1 true) + oneIf (hasD xs (maskV p.2 p.1 true)) = k
 generalize lowV xs p.2 = m
 rcases Nat.le_total m k with h | h
 · rw [Nat.min_eq_right h]
 · rw [Nat.min_eq_left h, List.drop_eq_nil_of_le (by simp; omega), List.drop_eq_nil_of_le (by simp [Nat.min_le_left])]
theorem low_last {xs : List DigP} {p : Pre} (h : xs.Pairwise risesB) (hp : p.2.length = 32) (hr : rightB p = true) : lowV xs p.2 ≤ lowV xs (maskV p.2 p.1 true) := by
 have hu : underV p.2 p = true := under_iff.2 fun i _ => rfl
 rw [under_between hp hp hr] at hu
 simp only [Bool.and_eq_true, Bool.not_eq_true'] at hu
 rcases Nat.lt_or_ge (lowV xs (maskV p.2 p.1 true)) (lowV xs p.2) with hlt | hge
 · have hl := low_le xs p.2
   have h1 := low_iff (d := p.2) h (lowV xs (maskV p.2 p.1 true)) (by omega)
   have h2 := low_iff (d := maskV p.2 p.1 true) h (lowV xs (maskV p.2 p.1 true)) (by omega)
   rw [decide_eq_true hlt] at h1
   rw [decide_eq_false (by omega)] at h2
   have := lessL_lelt h1 hu.2
   rw [this] at h2; cases h2
 · exact hge
theorem lessV_snoc {xs ys : List DigP} {k : Nat} (h : k < xs.length) : lessV (xs.take (k + 1)) ys = lessV (xs.take k) ys ++ (if hasD ys (xs.getD k dig0) = true then [] else [xs.getD k dig0]) := by
 unfold lessV
 rw [take_snoc' (d := dig0) h, List.filter_append]
 congr 1
 cases hq : hasD ys (xs.getD k dig0) with
 | true => rw [if_pos rfl, List.filter_cons_of_neg (by rw [hq]; decide)]; rfl
 | false => rw [if_neg (by decide), List.filter_cons_of_pos (by rw [hq]; rfl)]; rfl
theorem lessV_le (xs ys : List DigP) : (lessV xs ys).length ≤ xs.length := List.length_filter_le ..
theorem belowV_le (xs : List DigP) (p : Pre) : (belowV xs p).length ≤ xs.length := List.length_filter_le ..
theorem below_asc {xs : List DigP} (p : Pre) (h : ascV xs = true) : ascV (belowV xs p) = true := asc_pair.2 ((asc_pair.1 h).sublist List.filter_sublist)
end Go.Sal
