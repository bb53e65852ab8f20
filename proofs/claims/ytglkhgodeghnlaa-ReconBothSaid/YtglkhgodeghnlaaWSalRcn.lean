/- Sets of digests, prefixes, items (recon), as plain data. No program in sight. -/
import Derived.Test.YtglkhgodeghnlaaWSalDig
set_option maxRecDepth 100000
namespace Go.Sal
open Go.Vse
abbrev T_Pre : T := .pair .i64 T_Dig
abbrev T_Item : T := .pair .i64 (.pair .i64 (.pair T_Dig (.pair .i64 (.pair T_Dig (.slc T_Dig)))))
abbrev Pre := T_Pre.den
abbrev Item := T_Item.den
def zeroD : DigP := List.replicate 32 0#8
def checkS (l : List DigP) : Int := bif decide (65536 < l.length) || !ascV l then 281 else 0
def maskB (n : Int) (ones : Bool) (k : Nat) (b : B8) : B8 :=
 bif ones then (b &&& ~~~(255#8 >>> (min 8 (max 0 (n - 8 * (k : Int)))).toNat)) ||| (255#8 >>> (min 8 (max 0 (n - 8 * (k : Int)))).toNat)
 else b &&& ~~~(255#8 >>> (min 8 (max 0 (n - 8 * (k : Int)))).toNat)
def maskI (d : DigP) (n : Int) (ones : Bool) : Nat → DigP
 | 0 => d
 | k + 1 => (maskI d n ones k).set k (maskB n ones k ((maskI d n ones k).getD k 0#8))
def maskV (d : DigP) (n : Int) (ones : Bool) : DigP := maskI d n ones 32
def rightB (p : Pre) : Bool := decide (0 ≤ p.1) && decide (p.1 ≤ 256) && decide (maskV p.2 p.1 false = p.2)
def rightV (p : Pre) : Int := bif rightB p then 0 else 280
def bitV (d : DigP) (i : Nat) : Bool := (d.getD (i / 8) 0#8).getLsbD (7 - i % 8)
def underV (d : DigP) (p : Pre) : Bool := (List.range p.1.toNat).all fun i => bitV d i == bitV p.2 i
def belowV (l : List DigP) (p : Pre) : List DigP := l.filter fun d => underV d p
def sumV (l : List DigP) (p : Pre) : Item := (1, p.1, p.2, ((belowV l p).length : Int), sha (belowV l p).flatten, [])
def setB (d : DigP) (i : Nat) : DigP := d.set (i / 8) (d.getD (i / 8) 0#8 ||| (128#8 >>> (i % 8)))
def partsV (p : Pre) : List Pre :=
 if p.1 = 256 then [] else if p.1 = 255 then [(256, p.2), (256, setB p.2 255)]
 else [(p.1 + 2, p.2), (p.1 + 2, setB p.2 (p.1.toNat + 1)), (p.1 + 2, setB p.2 p.1.toNat), (p.1 + 2, setB (setB p.2 p.1.toNat) (p.1.toNat + 1))]
def iP (x : Item) : Pre := (x.2.1, x.2.2.1)
def iN (x : Item) : Int := x.2.2.2.1
def iH (x : Item) : DigP := x.2.2.2.2.1
def iL (x : Item) : List DigP := x.2.2.2.2.2
def listI (k : Int) (p : Pre) (l : List DigP) : Item := (k, p.1, p.2, 0, zeroD, l)
def goodB (x : Item) : Bool :=
 rightB (iP x) && (bif x.1 == 1 then decide (0 ≤ iN x) && decide (iN x ≤ 65536) && decide ((iL x).length = 0)
  else bif x.1 == 2 then decide (iN x = 0) && decide (iH x = zeroD) && decide ((iL x).length = 0)
  else (x.1 == 3 || x.1 == 4) && decide (iN x = 0) && decide (iH x = zeroD) && decide (checkS (iL x) = 0) && decide ((belowV (iL x) (iP x)).length = (iL x).length))
def goodV (x : Item) : Int := bif goodB x then 0 else 280
def toV (l : List DigP) (x : Item) : Int :=
 bif iN (sumV l (iP x)) == iN x && decide (iH (sumV l (iP x)) = iH x) then 0 else bif decide (iN (sumV l (iP x)) ≤ 8) || x.2.1 == 256 then 1 else bif decide (iN x ≤ 8) then 2 else 3
def outV (l : List DigP) (x : Item) : List Item :=
 if x.1 = 2 then [listI 3 (iP x) (belowV l (iP x))] else if x.1 = 3 then [listI 4 (iP x) (belowV l (iP x))] else if x.1 = 4 then []
 else if toV l x = 0 then [] else if toV l x = 1 then [listI 3 (iP x) (belowV l (iP x))] else if toV l x = 2 then [listI 2 (iP x) []] else (partsV (iP x)).map (sumV l)
def hasD (l : List DigP) (d : DigP) : Bool := l.contains d
def lessV (a b : List DigP) : List DigP := a.filter fun d => !hasD b d
def lackV (l : List DigP) (x : Item) : List DigP := if x.1 = 3 ∨ x.1 = 4 then lessV (iL x) (belowV l (iP x)) else []
def otherV (l : List DigP) (x : Item) : List DigP := if x.1 = 3 ∨ x.1 = 4 then lessV (belowV l (iP x)) (iL x) else []
def respV (l : List DigP) (xs : List Item) : List Item × List DigP × List DigP × Int :=
 bif !(checkS l == 0) then ([], [], [], 281) else bif xs.all goodB then (xs.flatMap (outV l), risV (xs.flatMap (lackV l)), risV (xs.flatMap (otherV l)), 0) else ([], [], [], 280)
abbrev Sd := List DigP × List (Pre × Item) × List Item × List DigP × List DigP × Unit
def sumsP (l : List DigP) (es : List (Pre × Item)) (p : Pre) : List (Pre × Item) := bif (mget T_Pre es p).isSome then es else mput T_Pre es p (sumV l p)
def sumsK (l : List DigP) (es : List (Pre × Item)) (ps : List Pre) : List (Pre × Item) := ps.foldl (sumsP l) es
def sumsX (l : List DigP) (es : List (Pre × Item)) (x : Item) : List (Pre × Item) :=
 if x.1 = 2 ∨ x.1 = 3 ∨ x.1 = 4 then es else if toV l x = 3 then sumsK l (sumsP l es (iP x)) (partsV (iP x)) else sumsP l es (iP x)
def itemS (s : Sd) (x : Item) : Sd := (s.1, sumsX s.1 s.2.1 x, s.2.2.1 ++ outV s.1 x, s.2.2.2.1 ++ lackV s.1 x, s.2.2.2.2.1 ++ otherV s.1 x, ())
def itemsS (s : Sd) (xs : List Item) : Sd := xs.foldl itemS s
def sumsOk (l : List DigP) (es : List (Pre × Item)) : Prop := ∀ q ∈ es, q.2 = sumV l q.1
def smallI (x : Item) : Prop := goodB x = true ∧ (iL x).length ≤ 1000
def okSd (s : Sd) (xs : List Item) : Prop :=
 ascV s.1 = true ∧ s.1.length ≤ 1000 ∧ sumsOk s.1 s.2.1 ∧ xs.length ≤ 100000 ∧ (∀ x ∈ xs, smallI x) ∧ s.2.2.1.length ≤ 1000000 ∧ s.2.2.2.1.length ≤ 1000000 ∧ s.2.2.2.2.1.length ≤ 1000000
def okR (l : List DigP) (xs : List Item) : Prop := (checkS l = 0 → l.length ≤ 1000) ∧ xs.length ≤ 100000 ∧ ∀ x ∈ xs, checkS (iL x) = 0 → (iL x).length ≤ 1000
structure Mt where
 way : List Item
 la : List DigP
 lb : List DigP
 n : Nat
def turnM (a b : List DigP) (s : Mt) : Mt :=
 if s.n % 2 = 0 then ⟨(respV b s.way).1, s.la, s.lb ++ (respV b s.way).2.1, s.n + 1⟩ else ⟨(respV a s.way).1, s.la ++ (respV a s.way).2.1, s.lb, s.n + 1⟩
def runM (a b : List DigP) : Nat → Mt → Mt
 | 0, s => s
 | f + 1, s => if s.way = [] then s else runM a b f (turnM a b s)
def mt0 (a : List DigP) : Mt := ⟨[sumV a (0, zeroD)], [], [], 0⟩
def endM (a b : List DigP) : Mt := runM a b 200 (mt0 a)
def meetV (a b : List DigP) : List DigP × List DigP × Int × Int :=
 bif !(checkS a == 0) || !(checkS b == 0) then ([], [], 0, 281) else (risV (endM a b).la, risV (endM a b).lb, ((endM a b).n : Int), 0)
end Go.Sal

set_option maxRecDepth 100000
namespace Go.Sal
open Go.Vse

theorem checkS_zero {l : List DigP} : checkS l = 0 ↔ l.length ≤ 65536 ∧ ascV l = true := by
 unfold checkS
 cases h : (decide (65536 < l.length) || !ascV l) with
 | true =>
   simp only [cond_true]
   simp only [Bool.or_eq_true, decide_eq_true_eq, Bool.not_eq_true'] at h
   constructor
   · intro h; cases h
   · rintro ⟨h1, h2⟩
     rcases h with h | h
     · omega
     · rw [h2] at h; cases h
 | false =>
   simp only [cond_false]
   simp only [Bool.or_eq_false_iff, decide_eq_false_iff_not, Bool.not_eq_false'] at h
   exact ⟨fun _ => ⟨by omega, h.2⟩, fun _ => trivial⟩
theorem getD_set {α : Type} {l : List α} {i j : Nat} {x d : α} (h : i < l.length) : (l.set i x).getD j d = if i = j then x else l.getD j d := by
 rw [List.getD_eq_getElem?_getD, List.getD_eq_getElem?_getD, List.getElem?_set]
 split
 · rename_i e; subst e; simp [h]
 · rfl
theorem maskI_len {d : DigP} {n : Int} {ones : Bool} : ∀ k, (maskI d n ones k).length = d.length
 | 0 => rfl
 | k + 1 => by simp only [maskI, List.length_set]; exact maskI_len k
theorem maskV_len {d : DigP} {n : Int} {ones : Bool} : (maskV d n ones).length = d.length := maskI_len 32
theorem maskI_get {d : DigP} {n : Int} {ones : Bool} (hd : d.length = 32) : ∀ k, k ≤ 32 → ∀ i, (maskI d n ones k).getD i 0#8 = if i < k then maskB n ones i (d.getD i 0#8) else d.getD i 0#8
 | 0, _, i => by simp [maskI]
 | k + 1, hk, i => by
   have ih := maskI_get (n := n) (ones := ones) hd k (by omega)
   simp only [maskI]
   rw [getD_set (by rw [maskI_len, hd]; omega)]
   by_cases h : k = i
   · subst h
     rw [if_pos rfl, ih k, if_neg (by omega), if_pos (by omega)]
   · rw [if_neg h, ih i]
     by_cases h2 : i < k
     · rw [if_pos h2, if_pos (by omega)]
     · rw [if_neg h2, if_neg (by omega)]
theorem maskV_get {d : DigP} {n : Int} {ones : Bool} (hd : d.length = 32) {i : Nat} (hi : i < 32) : (maskV d n ones).getD i 0#8 = maskB n ones i (d.getD i 0#8) := by
 unfold maskV
 rw [maskI_get hd 32 (Nat.le_refl _), if_pos hi]
theorem low_bit (m t : Nat) : (255#8 >>> m).getLsbD t = decide (m + t < 8) := by
 rw [BitVec.getLsbD_ushiftRight, show (255#8) = BitVec.allOnes 8 from by decide, BitVec.getLsbD_allOnes]
theorem maskB_bit {n : Int} {ones : Bool} {k : Nat} {b : B8} {j : Nat} (hj : j < 8) :
 (maskB n ones k b).getLsbD (7 - j) = if ((8 * k + j : Nat) : Int) < n then b.getLsbD (7 - j) else ones := by
 have key : (255#8 >>> (min 8 (max 0 (n - 8 * (k : Int)))).toNat).getLsbD (7 - j) = !decide (((8 * k + j : Nat) : Int) < n) := by
  rw [low_bit, Bool.eq_iff_iff, decide_eq_true_eq, Bool.not_eq_true', decide_eq_false_iff_not]
  omega
 unfold maskB
 cases ones with
 | true =>
   simp only [cond_true, BitVec.getLsbD_or, BitVec.getLsbD_and, BitVec.getLsbD_not, key]
   by_cases h : ((8 * k + j : Nat) : Int) < n
   · simp only [h, decide_true, Bool.not_true, Bool.not_false, if_true, Bool.or_false]
     rw [show decide (7 - j < 8) = true from by simp; omega]; simp
   · simp only [h, decide_false, Bool.not_false, Bool.not_true, Bool.and_false, Bool.or_true, if_false]
 | false =>
   simp only [cond_false, BitVec.getLsbD_and, BitVec.getLsbD_not, key]
   by_cases h : ((8 * k + j : Nat) : Int) < n
   · simp only [h, decide_true, Bool.not_true, Bool.not_false, if_true]
     rw [show decide (7 - j < 8) = true from by simp; omega]; simp
   · simp only [h, decide_false, Bool.not_false, Bool.not_true, Bool.and_false, if_false]
theorem mask_bit {d : DigP} {n : Int} {ones : Bool} (hd : d.length = 32) {i : Nat} (hi : i < 256) : bitV (maskV d n ones) i = if (i : Int) < n then bitV d i else ones := by
 unfold bitV
 rw [maskV_get hd (by omega), maskB_bit (by omega)]
 rw [show 8 * (i / 8) + i % 8 = i by omega]
theorem byte_ext {x y : B8} (h : ∀ j, j < 8 → x.getLsbD (7 - j) = y.getLsbD (7 - j)) : x = y := by
 apply BitVec.eq_of_getLsbD_eq
 intro i hi
 have := h (7 - i) (by omega)
 rwa [show 7 - (7 - i) = i by omega] at this
theorem dig_ext {a b : DigP} (ha : a.length = 32) (hb : b.length = 32) (h : ∀ i, i < 256 → bitV a i = bitV b i) : a = b := by
 apply List.ext_getElem (by omega)
 intro k h1 h2
 have e : a.getD k 0#8 = b.getD k 0#8 := byte_ext fun j hj => by
  have := h (8 * k + j) (by omega)
  unfold bitV at this
  rwa [show (8 * k + j) / 8 = k by omega, show (8 * k + j) % 8 = j by omega] at this
 rwa [getD_lt h1, getD_lt h2] at e
theorem masked_iff {d : DigP} (hd : d.length = 32) {n : Int} : maskV d n false = d ↔ ∀ i : Nat, i < 256 → n ≤ (i : Int) → bitV d i = false := by
 constructor
 · intro h i hi hn
   have := mask_bit (n := n) (ones := false) hd hi
   rw [h, if_neg (by omega)] at this
   exact this
 · intro h
   refine dig_ext (by rw [maskV_len, hd]) hd fun i hi => ?_
   rw [mask_bit hd hi]
   split
   · rfl
   · rw [h i hi (by omega)]
theorem right_iff {p : Pre} (hd : p.2.length = 32) : rightB p = true ↔ (0 : Int) ≤ p.1 ∧ (256 : Int) ≥ p.1 ∧ ∀ i : Nat, i < 256 → (i : Int) ≥ p.1 → bitV p.2 i = false := by
 unfold rightB
 simp only [Bool.and_eq_true, decide_eq_true_eq, and_assoc]
 rw [masked_iff hd]
theorem under_iff {d : DigP} {p : Pre} : underV d p = true ↔ ∀ i, i < p.1.toNat → bitV d i = bitV p.2 i := by
 unfold underV
 rw [List.all_eq_true]
 constructor
 · intro h i hi
   simpa using h i (List.mem_range.2 hi)
 · intro h i hi
   rw [List.mem_range] at hi
   simpa using h i hi

theorem lessAt : ∀ {a b : Bytes} (x : Nat), a.take x = b.take x → x < a.length → x < b.length → a.getD x 0#8 ≠ b.getD x 0#8 → decide (a.getD x 0#8 < b.getD x 0#8) = lessL a b
 | c :: a, d :: b, 0, _, _, _, hne => by
   simp only [List.getD_cons_zero] at hne ⊢
   unfold lessL
   simp [hne]
 | c :: a, d :: b, x + 1, h, ha, hb, hne => by
   simp only [List.take_succ_cons, List.cons.injEq] at h
   simp only [List.getD_cons_succ] at hne ⊢
   have ih := lessAt x h.2 (by simpa using ha) (by simpa using hb) hne
   rw [ih]
   have e : lessL (c :: a) (d :: b) = (decide (c < d) || (c == d && lessL a b)) := rfl
   rw [e, h.1]
   simp
 | [], _, _, _, h, _, _ => by simp at h
 | _ :: _, [], _, _, _, h, _ => by simp at h
theorem byte_lt {x y : B8} {j : Nat} (hj : j < 8) (h : ∀ k, k < j → x.getLsbD (7 - k) = y.getLsbD (7 - k)) (hx : x.getLsbD (7 - j) = false) (hy : y.getLsbD (7 - j) = true) : x < y := by
 rw [BitVec.lt_def]
 have key : ∀ i, 7 - j < i → x.toNat.testBit i = y.toNat.testBit i := fun i hi => ?_
 · have e1 : x.toNat / 2 ^ (7 - j + 1) = y.toNat / 2 ^ (7 - j + 1) := Nat.eq_of_testBit_eq fun i => by
     rw [Nat.testBit_div_two_pow, Nat.testBit_div_two_pow]; exact key _ (by omega)
   have hx : x.toNat.testBit (7 - j) = false := hx
   have hy : y.toNat.testBit (7 - j) = true := hy
   rw [Nat.testBit_eq_decide_div_mod_eq] at hx hy
   simp only [decide_eq_false_iff_not, decide_eq_true_eq] at hx hy
   rw [Nat.pow_succ, ← Nat.div_div_eq_div_mul, ← Nat.div_div_eq_div_mul] at e1
   have h3 : x.toNat / 2 ^ (7 - j) < y.toNat / 2 ^ (7 - j) := by omega
   rcases Nat.lt_or_ge x.toNat y.toNat with h | h
   · exact h
   · exact absurd (Nat.div_le_div_right (c := 2 ^ (7 - j)) h) (by omega)
 by_cases h8 : i < 8
 · have := h (7 - i) (by omega)
   rwa [show 7 - (7 - i) = i by omega] at this
 · rw [Nat.testBit_lt_two_pow (Nat.lt_of_lt_of_le x.isLt (Nat.pow_le_pow_right (by omega) (by omega))), Nat.testBit_lt_two_pow (Nat.lt_of_lt_of_le y.isLt (Nat.pow_le_pow_right (by omega) (by omega)))]
theorem bit_less {a b : DigP} (ha : a.length = 32) (hb : b.length = 32) {i : Nat} (hi : i < 256) (h : ∀ j, j < i → bitV a j = bitV b j) (h1 : bitV a i = false) (h2 : bitV b i = true) : lessL a b = true := by
 have hbyte : ∀ k, k < i / 8 → a.getD k 0#8 = b.getD k 0#8 := fun k hk => byte_ext fun j hj => by
  have := h (8 * k + j) (by omega)
  unfold bitV at this
  rwa [show (8 * k + j) / 8 = k by omega, show (8 * k + j) % 8 = j by omega] at this
 have hlt : a.getD (i / 8) 0#8 < b.getD (i / 8) 0#8 := by
  refine byte_lt (j := i % 8) (by omega) (fun k hk => ?_) h1 h2
  have := h (8 * (i / 8) + k) (by omega)
  unfold bitV at this
  rwa [show (8 * (i / 8) + k) / 8 = i / 8 by omega, show (8 * (i / 8) + k) % 8 = k by omega] at this
 have htake : a.take (i / 8) = b.take (i / 8) := by
  apply List.ext_getElem (by simp [ha, hb])
  intro k k1 k2
  simp only [List.length_take] at k1
  have := hbyte k (by omega)
  rw [getD_lt (by omega), getD_lt (by omega)] at this
  simpa using this
 rw [← lessAt (i / 8) htake (by omega) (by omega) (fun e => by rw [e] at hlt; exact absurd hlt (by simp))]
 simpa using hlt
theorem first_diff {f g : Nat → Bool} : ∀ n : Nat, (∀ i, i < n → f i = g i) ∨ ∃ i, i < n ∧ (∀ j, j < i → f j = g j) ∧ f i ≠ g i
 | 0 => .inl fun i hi => by omega
 | n + 1 => by
   rcases first_diff (f := f) (g := g) n with h | ⟨i, h1, h2, h3⟩
   · by_cases he : f n = g n
     · exact .inl fun i hi => by
         by_cases e : i = n
         · rw [e]; exact he
         · exact h i (by omega)
     · exact .inr ⟨n, by omega, h, he⟩
   · exact .inr ⟨i, by omega, h2, h3⟩
theorem under_between {e : DigP} {p : Pre} (he : e.length = 32) (hd : p.2.length = 32) (hr : rightB p = true) : underV e p = (!lessL e p.2 && !lessL (maskV p.2 p.1 true) e) := by
 obtain ⟨r1, r2, r3⟩ := (right_iff hd).1 hr
 have hlast : ∀ i : Nat, i < 256 → bitV (maskV p.2 p.1 true) i = if (i : Int) < p.1 then bitV p.2 i else true := fun i hi => mask_bit hd hi
 have hll : (maskV p.2 p.1 true).length = 32 := by rw [maskV_len, hd]
 cases hu : underV e p with
 | true =>
   have hu := under_iff.1 hu
   have n1 : lessL e p.2 = false := by
    rcases first_diff (f := bitV e) (g := bitV p.2) 256 with h | ⟨i, h1, h2, h3⟩
    · rw [dig_ext he hd h, lessL_irr]
    · have hi : (i : Int) ≥ p.1 := by
        rcases (by omega : (i : Int) < p.1 ∨ (i : Int) ≥ p.1) with h | h
        · exact absurd (hu i (by omega)) h3
        · exact h
      have hp := r3 i h1 hi
      have he1 : bitV e i = true := by
       rw [hp] at h3; simpa using h3
      exact lessL_asym (bit_less hd he h1 (fun j hj => (h2 j hj).symm) hp he1)
   have n2 : lessL (maskV p.2 p.1 true) e = false := by
    rcases first_diff (f := bitV e) (g := bitV (maskV p.2 p.1 true)) 256 with h | ⟨i, h1, h2, h3⟩
    · rw [dig_ext he hll h, lessL_irr]
    · have hb := hlast i h1
      have hi : ¬ (i : Int) < p.1 := fun h => by
       rw [if_pos h] at hb
       exact h3 (by rw [hb]; exact hu i (by omega))
      rw [if_neg hi] at hb
      have he0 : bitV e i = false := by rw [hb] at h3; simpa using h3
      exact lessL_asym (bit_less he hll h1 h2 he0 hb)
   rw [n1, n2]; rfl
 | false =>
   rcases first_diff (f := bitV e) (g := bitV p.2) p.1.toNat with h | ⟨i, h1, h2, h3⟩
   · rw [under_iff.2 h] at hu; cases hu
   · cases hb : bitV e i with
     | false =>
       have : bitV p.2 i = true := by rw [hb] at h3; simpa using h3
       rw [bit_less he hd (by omega) h2 hb this]; rfl
     | true =>
       have hp : bitV p.2 i = false := by rw [hb] at h3; simpa using h3
       have h4 : lessL (maskV p.2 p.1 true) e = true := bit_less hll he (i := i) (by omega) (fun j hj => by
        rw [hlast j (by omega), if_pos (by omega)]; exact (h2 j hj).symm) (by rw [hlast i (by omega), if_pos (by omega)]; exact hp) hb
       rw [h4]; simp

def lowV (xs : List DigP) (d : DigP) : Nat := (xs.takeWhile fun e => lessL e d).length
theorem low_le (xs : List DigP) (d : DigP) : lowV xs d ≤ xs.length := (List.takeWhile_sublist _).length_le
theorem low_cons_lt {x : DigP} {r : List DigP} {d : DigP} (h : lessL x d = true) : lowV (x :: r) d = lowV r d + 1 := by
 unfold lowV; rw [List.takeWhile_cons_of_pos (p := fun e => lessL e d) h]; rfl
theorem low_cons_ge {x : DigP} {r : List DigP} {d : DigP} (h : lessL x d = false) : lowV (x :: r) d = 0 := by
 unfold lowV; rw [List.takeWhile_cons_of_neg (p := fun e => lessL e d) (by rw [h]; decide)]; rfl
theorem low_iff : ∀ {xs : List DigP} {d : DigP}, xs.Pairwise risesB → ∀ i, i < xs.length → lessL (xs.getD i dig0) d = decide (i < lowV xs d)
 | x :: r, d, h, i, hi => by
   rw [List.pairwise_cons] at h
   cases hx : lessL x d with
   | true =>
     rw [low_cons_lt hx]
     cases i with
     | zero => rw [List.getD_cons_zero, hx]; simp
     | succ i =>
       rw [List.getD_cons_succ, low_iff h.2 i (by simpa using hi)]
       simp
   | false =>
     rw [low_cons_ge hx]
     cases i with
     | zero => rw [List.getD_cons_zero, hx]; simp
     | succ i =>
       have hm : r.getD i dig0 ∈ r := by rw [getD_lt (by simpa using hi)]; exact List.getElem_mem _
       rw [List.getD_cons_succ]
       cases hq : lessL (r.getD i dig0) d with
       | true => rw [lessL_trans (h.1 _ hm) hq] at hx; cases hx
       | false => simp
theorem hasD_iff {xs : List DigP} {d : DigP} : hasD xs d = true ↔ d ∈ xs := by unfold hasD; simp
theorem hasD_cons {x : DigP} {r : List DigP} {d : DigP} : hasD (x :: r) d = (decide (d = x) || hasD r d) := by
 unfold hasD
 rw [List.contains_cons]
 congr 1
 rw [Bool.eq_iff_iff]; simp
theorem has_low : ∀ {xs : List DigP} {d : DigP}, xs.Pairwise risesB → (decide (lowV xs d < xs.length) && cmpV (xs.getD (lowV xs d) dig0) d == 0) = hasD xs d
 | [], d, _ => rfl
 | x :: r, d, h => by
   rw [List.pairwise_cons] at h
   cases hx : lessL x d with
   | true =>
     rw [low_cons_lt hx, List.getD_cons_succ, hasD_cons, ← has_low h.2]
     have : ¬ d = x := fun e => by subst e; rw [lessL_irr] at hx; cases hx
     simp [this]
   | false =>
     rw [low_cons_ge hx, List.getD_cons_zero, hasD_cons]
     by_cases e : d = x
     · subst e
       have := (cmp_zero d d).2 rfl
       simp [this]
     · have h1 : (cmpV x d == 0) = false := by
         rw [beq_eq_false_iff_ne]
         exact fun h => e ((cmp_zero x d).1 h).symm
       have h2 : hasD r d = false := by
        cases hq : hasD r d with
        | false => rfl
        | true =>
          have := h.1 d (hasD_iff.1 hq)
          unfold risesB at this
          rw [this] at hx; cases hx
       rw [h1, h2]; simp [e]
theorem filter_ge : ∀ {xs : List DigP} {d : DigP}, xs.Pairwise risesB → xs.filter (fun e => !lessL e d) = xs.drop (lowV xs d)
 | [], _, _ => by simp
 | x :: r, d, h => by
   rw [List.pairwise_cons] at h
   cases hx : lessL x d with
   | true =>
     rw [low_cons_lt hx, List.filter_cons_of_neg (by rw [hx]; decide), List.drop_succ_cons, filter_ge h.2]
   | false =>
     rw [low_cons_ge hx, List.drop_zero]
     refine List.filter_eq_self.2 fun e he => ?_
     rcases List.mem_cons.1 he with rfl | he
     · rw [hx]; rfl
     · cases hq : lessL e d with
       | true => rw [lessL_trans (h.1 e he) hq] at hx; cases hx
       | false => rfl
def oneIf (b : Bool) : Nat := bif b then 1 else 0
theorem filter_le : ∀ {xs : List DigP} {d : DigP}, xs.Pairwise risesB → xs.filter (fun e => !lessL d e) = xs.take (lowV xs d + oneIf (hasD xs d))
 | [], _, _ => by simp
 | x :: r, d, h => by
   rw [List.pairwise_cons] at h
   cases hx : lessL x d with
   | true =>
     have hne : ¬ d = x := fun e => by subst e; rw [lessL_irr] at hx; cases hx
     rw [low_cons_lt hx, List.filter_cons_of_pos (by rw [lessL_asym hx]; rfl), filter_le h.2, hasD_cons]
     simp only [hne, decide_false, Bool.false_or]
     rw [show lowV r d + 1 + oneIf (hasD r d) = (lowV r d + oneIf (hasD r d)) + 1 by omega, List.take_succ_cons]
   | false =>
     have hr : ∀ e ∈ r, lessL d e = true := fun e he => by
      by_cases hd : lessL d x = true
      · exact lessL_trans hd (h.1 e he)
      · have : d = x := lessL_tri (by simpa using hd) hx
        rw [this]; exact h.1 e he
     rw [low_cons_ge hx, hasD_cons]
     have hf : r.filter (fun e => !lessL d e) = [] := List.filter_eq_nil_iff.2 fun e he => by rw [hr e he]; decide
     have hn : hasD r d = false := by
      cases hq : hasD r d with
      | false => rfl
      | true =>
        have := hr d (hasD_iff.1 hq)
        rw [lessL_irr] at this; cases this
     by_cases e : d = x
     · subst e
       rw [List.filter_cons_of_pos (by rw [lessL_irr]; rfl), hf, hn]
       simp [oneIf]
     · have : lessL d x = true := by
         cases hq : lessL d x with
         | true => rfl
         | false => exact absurd (lessL_tri hq hx) e
       rw [List.filter_cons_of_neg (by rw [this]; decide), hf, hn]
       simp [oneIf, e]
theorem low_take : ∀ (xs : List DigP) (d : DigP) (k : Nat), lowV (xs.take k) d = min k (lowV xs d)
 | [], d, k => by simp [lowV]
 | x :: r, d, 0 => by simp [lowV]
 | x :: r, d, k + 1 => by
   rw [List.take_succ_cons]
   cases hx : lessL x d with
   | true => rw [low_cons_lt hx, low_cons_lt hx, low_take r d k]; omega
   | false => rw [low_cons_ge hx, low_cons_ge hx]; simp
theorem below_cut {xs : List DigP} {p : Pre} (h : xs.Pairwise risesB) (h32 : ∀ d ∈ xs, d.length = 32) (hp : p.2.length = 32) (hr : rightB p = true) :
 (xs.take (lowV xs (maskV p.2 p.1 true) + oneIf (hasD xs (maskV p.2 p.1 true)))).drop (lowV xs p.2) = belowV xs p := by
 have e1 : belowV xs p = (xs.filter fun e => !lessL (maskV p.2 p.1 true) e).filter fun e => !lessL e p.2 := by
  unfold belowV
  rw [List.filter_filter]
  exact List.filter_congr fun e he => under_between (h32 e he) hp hr
 rw [e1, filter_le h, filter_ge (h.sublist (List.take_sublist _ _)), low_take]
 generalize lowV xs (maskV p.2 p.1 true) + oneIf (hasD xs (maskV p.2 p.1 true)) = k
 generalize lowV xs p.2 = m
 rcases Nat.le_total m k with h | h
 · rw [Nat.min_eq_right h]
 · rw [Nat.min_eq_left h, List.drop_eq_nil_of_le (by simp; omega), List.drop_eq_nil_of_le (by simp [Nat.min_le_left])]
theorem low_last {xs : List DigP} {p : Pre} (h : xs.Pairwise risesB) (hp : p.2.length = 32) (hr : rightB p = true) : lowV xs p.2 ≤ lowV xs (maskV p.2 p.1 true) := by
 have hu : underV p.2 p = true := under_iff.2 fun i _ => rfl
 rw [under_between hp hp hr] at hu
 simp only [Bool.and_eq_true, Bool.not_eq_true'] at hu
 rcases Nat.lt_or_ge (lowV xs (maskV p.2 p.1 true)) (lowV xs p.2) with hlt | hge
 · have hl := low_le xs p.2
   have h1 := low_iff (d := p.2) h (lowV xs (maskV p.2 p.1 true)) (by omega)
   have h2 := low_iff (d := maskV p.2 p.1 true) h (lowV xs (maskV p.2 p.1 true)) (by omega)
   rw [decide_eq_true hlt] at h1
   rw [decide_eq_false (by omega)] at h2
   have := lessL_lelt h1 hu.2
   rw [this] at h2; cases h2
 · exact hge
theorem lessV_snoc {xs ys : List DigP} {k : Nat} (h : k < xs.length) : lessV (xs.take (k + 1)) ys = lessV (xs.take k) ys ++ (if hasD ys (xs.getD k dig0) = true then [] else [xs.getD k dig0]) := by
 unfold lessV
 rw [take_snoc' (d := dig0) h, List.filter_append]
 congr 1
 cases hq : hasD ys (xs.getD k dig0) with
 | true => rw [if_pos rfl, List.filter_cons_of_neg (by rw [hq]; decide)]; rfl
 | false => rw [if_neg (by decide), List.filter_cons_of_pos (by rw [hq]; rfl)]; rfl
theorem lessV_le (xs ys : List DigP) : (lessV xs ys).length ≤ xs.length := List.length_filter_le ..
theorem belowV_le (xs : List DigP) (p : Pre) : (belowV xs p).length ≤ xs.length := List.length_filter_le ..
theorem below_asc {xs : List DigP} (p : Pre) (h : ascV xs = true) : ascV (belowV xs p) = true := asc_pair.2 ((asc_pair.1 h).sublist List.filter_sublist)
end Go.Sal

set_option maxRecDepth 100000
namespace Go.Sal
open Go.Vse

theorem mgetP_mem {x : Pre} {y : Item} : ∀ {es : List (Pre × Item)}, mget T_Pre es x = some y → (x, y) ∈ es
 | [], h => by simp [mget] at h
 | p :: r, h => by
   by_cases hq : x = p.1
   · have e1 : mget T_Pre (p :: r) x = some p.2 := by simp only [mget, hq, decide_true, cond_true]
     rw [e1, Option.some.injEq] at h
     rw [hq, ← h]; simp
   · have e1 : mget T_Pre (p :: r) x = mget T_Pre r x := by simp only [mget, hq, decide_false, cond_false]
     rw [e1] at h
     exact List.mem_cons_of_mem _ (mgetP_mem h)
theorem mputP_mem {x : Pre} {y : Item} {q : Pre × Item} : ∀ {es : List (Pre × Item)}, q ∈ mput T_Pre es x y → q ∈ es ∨ q = (x, y)
 | [], h => by simp [mput] at h; exact .inr h
 | p :: r, h => by
   by_cases hq : x = p.1
   · have e1 : mput T_Pre (p :: r) x y = (p.1, y) :: r := by simp only [mput, hq, decide_true, cond_true]
     rw [e1] at h
     rcases List.mem_cons.1 h with h | h
     · exact .inr (by rw [h, hq])
     · exact .inl (List.mem_cons_of_mem _ h)
   · have e1 : mput T_Pre (p :: r) x y = p :: mput T_Pre r x y := by simp only [mput, hq, decide_false, cond_false]
     rw [e1] at h
     rcases List.mem_cons.1 h with h | h
     · exact .inl (by rw [h]; simp)
     · rcases mputP_mem h with h | h
       · exact .inl (List.mem_cons_of_mem _ h)
       · exact .inr h
theorem sums_get {l : List DigP} {es : List (Pre × Item)} {p : Pre} {v : Item} (hs : sumsOk l es) (h : mget T_Pre es p = some v) : v = sumV l p := hs _ (mgetP_mem h)
theorem sumsP_ok {l : List DigP} {es : List (Pre × Item)} (p : Pre) (h : sumsOk l es) : sumsOk l (sumsP l es p) := by
 unfold sumsP
 cases (mget T_Pre es p).isSome with
 | true => exact h
 | false =>
   intro q hq
   rcases mputP_mem hq with hq | rfl
   · exact h q hq
   · rfl
theorem sumsK_ok {l : List DigP} : ∀ {ps : List Pre} {es : List (Pre × Item)}, sumsOk l es → sumsOk l (sumsK l es ps)
 | [], _, h => h
 | p :: r, es, h => sumsK_ok (ps := r) (sumsP_ok p h)
theorem sumsK_snoc {l : List DigP} {es : List (Pre × Item)} {ps : List Pre} {q : Pre} : sumsK l es (ps ++ [q]) = sumsP l (sumsK l es ps) q := by
 unfold sumsK
 rw [List.foldl_append]; rfl
theorem sumsX_ok {l : List DigP} {es : List (Pre × Item)} (x : Item) (h : sumsOk l es) : sumsOk l (sumsX l es x) := by
 unfold sumsX
 split
 · exact h
 · split
   · exact sumsK_ok (sumsP_ok _ h)
   · exact sumsP_ok _ h
theorem parts_le (p : Pre) : (partsV p).length ≤ 4 := by
 unfold partsV
 split
 · exact Nat.zero_le _
 · split <;> simp
theorem toV_four (l : List DigP) (x : Item) : toV l x = 0 ∨ toV l x = 1 ∨ toV l x = 2 ∨ toV l x = 3 := by
 unfold toV
 cases (iN (sumV l (iP x)) == iN x && decide (iH (sumV l (iP x)) = iH x)) <;> cases (decide (iN (sumV l (iP x)) ≤ 8) || x.2.1 == 256) <;> cases decide (iN x ≤ 8) <;> simp
theorem out2 {l : List DigP} {x : Item} (h : x.1 = 2) : outV l x = [listI 3 (iP x) (belowV l (iP x))] ∧ lackV l x = [] ∧ otherV l x = [] ∧ ∀ es, sumsX l es x = es := by
 unfold outV lackV otherV sumsX
 rw [if_pos h, if_neg (by rw [h]; decide), if_neg (by rw [h]; decide)]
 exact ⟨rfl, rfl, rfl, fun es => if_pos (.inl h)⟩
theorem out3 {l : List DigP} {x : Item} (h : x.1 = 3) : outV l x = [listI 4 (iP x) (belowV l (iP x))] ∧ lackV l x = lessV (iL x) (belowV l (iP x)) ∧ otherV l x = lessV (belowV l (iP x)) (iL x) ∧ ∀ es, sumsX l es x = es := by
 unfold outV lackV otherV sumsX
 rw [if_neg (by rw [h]; decide), if_pos h, if_pos (.inl h), if_pos (.inl h)]
 exact ⟨rfl, rfl, rfl, fun es => if_pos (.inr (.inl h))⟩
theorem out4 {l : List DigP} {x : Item} (h : x.1 = 4) : outV l x = [] ∧ lackV l x = lessV (iL x) (belowV l (iP x)) ∧ otherV l x = lessV (belowV l (iP x)) (iL x) ∧ ∀ es, sumsX l es x = es := by
 unfold outV lackV otherV sumsX
 rw [if_neg (by rw [h]; decide), if_neg (by rw [h]; decide), if_pos h, if_pos (.inr h), if_pos (.inr h)]
 exact ⟨rfl, rfl, rfl, fun es => if_pos (.inr (.inr h))⟩
theorem outS {l : List DigP} {x : Item} (h2 : ¬ x.1 = 2) (h3 : ¬ x.1 = 3) (h4 : ¬ x.1 = 4) : lackV l x = [] ∧ otherV l x = [] ∧
 (toV l x = 0 → outV l x = [] ∧ ∀ es, sumsX l es x = sumsP l es (iP x)) ∧ (toV l x = 1 → outV l x = [listI 3 (iP x) (belowV l (iP x))] ∧ ∀ es, sumsX l es x = sumsP l es (iP x)) ∧
 (toV l x = 2 → outV l x = [listI 2 (iP x) []] ∧ ∀ es, sumsX l es x = sumsP l es (iP x)) ∧ (toV l x = 3 → outV l x = (partsV (iP x)).map (sumV l) ∧ ∀ es, sumsX l es x = sumsK l (sumsP l es (iP x)) (partsV (iP x))) := by
 have hn : ¬ (x.1 = 3 ∨ x.1 = 4) := fun h => h.elim h3 h4
 have hm : ¬ (x.1 = 2 ∨ x.1 = 3 ∨ x.1 = 4) := fun h => h.elim h2 hn
 unfold outV lackV otherV sumsX
 rw [if_neg h2, if_neg h3, if_neg h4, if_neg hn, if_neg hn]
 refine ⟨rfl, rfl, fun h => ⟨if_pos h, fun es => ?_⟩, fun h => ⟨?_, fun es => ?_⟩, fun h => ⟨?_, fun es => ?_⟩, fun h => ⟨?_, fun es => ?_⟩⟩
 · rw [if_neg hm, if_neg (by rw [h]; decide)]
 · rw [if_neg (by rw [h]; decide), if_pos h]
 · rw [if_neg hm, if_neg (by rw [h]; decide)]
 · rw [if_neg (by rw [h]; decide), if_neg (by rw [h]; decide), if_pos h]
 · rw [if_neg hm, if_neg (by rw [h]; decide)]
 · rw [if_neg (by rw [h]; decide), if_neg (by rw [h]; decide), if_neg (by rw [h]; decide)]
 · rw [if_neg hm, if_pos h]
theorem out_le (l : List DigP) (x : Item) : (outV l x).length ≤ 4 := by
 have := parts_le (iP x)
 unfold outV
 repeat' split
 all_goals first
  | (rw [List.length_map]; exact this)
  | simp
theorem lack_le {l : List DigP} {x : Item} : (lackV l x).length ≤ (iL x).length := by
 unfold lackV
 split
 · exact lessV_le _ _
 · exact Nat.zero_le _
theorem other_le {l : List DigP} {x : Item} : (otherV l x).length ≤ l.length := by
 unfold otherV
 split
 · exact Nat.le_trans (lessV_le _ _) (belowV_le _ _)
 · exact Nat.zero_le _
theorem take_snocI {xs : List Item} {k : Nat} (h : k < xs.length) : xs.take (k + 1) = xs.take k ++ [xs.getD k T_Item.dflt] := by
 rw [← List.take_append_getElem h, List.getD_eq_getElem?_getD, List.getElem?_eq_getElem h]; rfl
theorem items_succ {s : Sd} {xs : List Item} {k : Nat} (h : k < xs.length) : itemsS s (xs.take (k + 1)) = itemS (itemsS s (xs.take k)) (xs.getD k T_Item.dflt) := by
 unfold itemsS
 rw [take_snocI h, List.foldl_append]; rfl
theorem items_fs {s : Sd} {xs : List Item} (h : okSd s xs) : ∀ k, k ≤ xs.length → (itemsS s (xs.take k)).1 = s.1 ∧ sumsOk s.1 (itemsS s (xs.take k)).2.1 ∧
 (itemsS s (xs.take k)).2.2.1.length ≤ s.2.2.1.length + 4 * k ∧ (itemsS s (xs.take k)).2.2.2.1.length ≤ s.2.2.2.1.length + 1000 * k ∧ (itemsS s (xs.take k)).2.2.2.2.1.length ≤ s.2.2.2.2.1.length + 1000 * k
 | 0, _ => ⟨rfl, h.2.2.1, Nat.le_refl _, Nat.le_refl _, Nat.le_refl _⟩
 | k + 1, hk => by
   obtain ⟨h1, h2, h3, h4, h5⟩ := items_fs h k (by omega)
   obtain ⟨_, g2, _, _, g5, _⟩ := h
   have hx : smallI (xs.getD k T_Item.dflt) := by
    rw [List.getD_eq_getElem?_getD, List.getElem?_eq_getElem (by omega)]
    exact g5 _ (List.getElem_mem _)
   rw [items_succ (by omega)]
   generalize itemsS s (xs.take k) = T at *
   generalize xs.getD k T_Item.dflt = x at *
   unfold itemS
   have o1 := out_le T.1 x
   have o2 := lack_le (l := T.1) (x := x)
   have o3 := other_le (l := T.1) (x := x)
   have hx2 := hx.2
   rw [h1] at o1 o2 o3
   refine ⟨h1, by rw [h1]; exact sumsX_ok x h2, ?_, ?_, ?_⟩
   · dsimp only; rw [List.length_append, h1]; omega
   · dsimp only; rw [List.length_append, h1]; omega
   · dsimp only; rw [List.length_append, h1]; omega
theorem items_all : ∀ (xs : List Item) (s : Sd), (itemsS s xs).1 = s.1 ∧ (itemsS s xs).2.2.1 = s.2.2.1 ++ xs.flatMap (outV s.1) ∧ (itemsS s xs).2.2.2.1 = s.2.2.2.1 ++ xs.flatMap (lackV s.1) ∧ (itemsS s xs).2.2.2.2.1 = s.2.2.2.2.1 ++ xs.flatMap (otherV s.1)
 | [], s => by simp [itemsS]
 | x :: r, s => by
   have e : itemsS s (x :: r) = itemsS (itemS s x) r := rfl
   obtain ⟨h1, h2, h3, h4⟩ := items_all r (itemS s x)
   rw [e, h1, h2, h3, h4]
   refine ⟨rfl, ?_, ?_, ?_⟩
   all_goals rw [List.flatMap_cons, ← List.append_assoc]; rfl

theorem one_bit : ∀ m : Fin 8, ∀ t : Fin 8, (128#8 >>> m.val).getLsbD t.val = decide (t.val = 7 - m.val) := by decide
theorem setB_len (d : DigP) (i : Nat) : (setB d i).length = d.length := by unfold setB; rw [List.length_set]
theorem setB_bit {d : DigP} {i j : Nat} (hd : d.length = 32) (hi : i < 256) : bitV (setB d i) j = (decide (i = j) || bitV d j) := by
 unfold bitV setB
 rw [getD_set (by omega)]
 split
 · rename_i h
   have hb := one_bit ⟨i % 8, by omega⟩ ⟨7 - j % 8, by omega⟩
   dsimp only at hb
   rw [BitVec.getLsbD_or, hb, h, Bool.or_comm]
   congr 1
   rw [decide_eq_decide]
   omega
 · rename_i h
   rw [decide_eq_false (by intro e; exact h (by rw [e])), Bool.false_or]
theorem parts_mem {n : Int} {d : DigP} {q : Pre} (hq : q ∈ partsV (n, d)) (hr : rightB (n, d) = true) (hd : d.length = 32) : ∃ (m : Int) (e : DigP), q = (m, e) ∧ e.length = 32 ∧ rightB (m, e) = true ∧ n < m ∧ m ≤ 256 ∧ (m = n + 2 ∨ m = 256) := by
 obtain ⟨r1, r2, r3⟩ := (right_iff (p := (n, d)) hd).1 hr
 have r1 : (0 : Int) ≤ n := r1
 have r2 : (256 : Int) ≥ n := r2
 have r3 : ∀ i : Nat, i < 256 → (i : Int) ≥ n → bitV d i = false := r3
 have key : ∀ (m : Int) (e : DigP), e.length = 32 → n < m → m ≤ 256 → (m = n + 2 ∨ m = 256) → (∀ i : Nat, i < 256 → (i : Int) ≥ m → bitV e i = false) → ∃ (m' : Int) (e' : DigP), ((m, e) : Pre) = (m', e') ∧ e'.length = 32 ∧ rightB (m', e') = true ∧ n < m' ∧ m' ≤ 256 ∧ (m' = n + 2 ∨ m' = 256) := fun m e h1 h2 h3 h5 h4 =>
  ⟨m, e, rfl, h1, (right_iff (p := (m, e)) h1).2 ⟨(by omega : (0 : Int) ≤ m), h3, h4⟩, h2, h3, h5⟩
 unfold partsV at hq
 split at hq
 · cases hq
 · rename_i hne
   have hne : ¬ n = 256 := hne
   split at hq
   · rename_i h5
     have h5 : n = 255 := h5
     have hl : n < 256 := by omega
     simp only [List.mem_cons, List.not_mem_nil, or_false] at hq
     rcases hq with rfl | rfl
     · exact key 256 d hd hl (Int.le_refl _) (.inr rfl) fun i hi h => by omega
     · exact key 256 _ (by rw [setB_len]; exact hd) hl (Int.le_refl _) (.inr rfl) fun i hi h => by omega
   · rename_i h5
     have h5 : ¬ n = 255 := h5
     obtain ⟨N, rfl⟩ : ∃ N : Nat, n = N := ⟨n.toNat, by omega⟩
     have hlt : N + 1 < 256 := by omega
     have hl : (N : Int) < N + 2 := by omega
     have hm : (N : Int) + 2 ≤ 256 := by omega
     have z : ∀ i : Nat, i < 256 → (i : Int) ≥ N + 2 → bitV d i = false := fun i hi h => r3 i hi (by omega)
     have n0 : ∀ i : Nat, (i : Int) ≥ N + 2 → decide (N = i) = false := fun i h => by rw [decide_eq_false_iff_not]; omega
     have n1 : ∀ i : Nat, (i : Int) ≥ N + 2 → decide (N + 1 = i) = false := fun i h => by rw [decide_eq_false_iff_not]; omega
     simp only [List.mem_cons, List.not_mem_nil, or_false] at hq
     rcases hq with rfl | rfl | rfl | rfl
     · exact key _ _ hd hl hm (.inl rfl) z
     · refine key _ _ (by rw [setB_len]; exact hd) hl hm (.inl rfl) fun i hi h => ?_
       show bitV (setB d (N + 1)) i = false
       rw [setB_bit hd hlt, n1 i h, z i hi h]; rfl
     · refine key _ _ (by rw [setB_len]; exact hd) hl hm (.inl rfl) fun i hi h => ?_
       show bitV (setB d N) i = false
       rw [setB_bit hd (by omega), n0 i h, z i hi h]; rfl
     · refine key _ _ (by rw [setB_len, setB_len]; exact hd) hl hm (.inl rfl) fun i hi h => ?_
       show bitV (setB (setB d N) (N + 1)) i = false
       rw [setB_bit (by rw [setB_len]; exact hd) hlt, setB_bit hd (by omega), n1 i h, n0 i h, z i hi h]; rfl
theorem parts_right {p q : Pre} (hq : q ∈ partsV p) (hr : rightB p = true) (hd : p.2.length = 32) : rightB q = true := by
 obtain ⟨m, e, rfl, _, h, _⟩ := parts_mem (n := p.1) (d := p.2) hq hr hd
 exact h
theorem good_right {x : Item} (h : goodB x = true) : rightB (iP x) = true := by
 unfold goodB at h
 rw [Bool.and_eq_true] at h
 exact h.1
theorem good_kinds {x : Item} (h : goodB x = true) : x.1 = 1 ∨ x.1 = 2 ∨ ((x.1 = 3 ∨ x.1 = 4) ∧ checkS (iL x) = 0) := by
 unfold goodB at h
 rw [Bool.and_eq_true] at h
 have h := h.2
 cases h1 : (x.1 == 1) with
 | true => exact .inl (by simpa using h1)
 | false =>
   cases h2 : (x.1 == 2) with
   | true => exact .inr (.inl (by simpa using h2))
   | false =>
     rw [h1, h2] at h
     simp only [cond_false, Bool.and_eq_true, Bool.or_eq_true, beq_iff_eq, decide_eq_true_eq] at h
     exact .inr (.inr ⟨h.1.1.1.1, h.1.2⟩)
end Go.Sal

set_option maxRecDepth 100000
namespace Go.Sal
open Go.Vse

def madeB (S : List DigP) (x : Item) : Prop :=
 rightB (iP x) = true ∧ (iP x).2.length = 32 ∧ (x = sumV S (iP x) ∨ x = listI 2 (iP x) [] ∨ x = listI 3 (iP x) (belowV S (iP x)) ∨ x = listI 4 (iP x) (belowV S (iP x)))
theorem made_kind {S : List DigP} {x : Item} (h : madeB S x) : x.1 = 1 ∨ x.1 = 2 ∨ x.1 = 3 ∨ x.1 = 4 := by
 rcases h.2.2 with h | h | h | h
 · exact .inl (by rw [h]; rfl)
 · exact .inr (.inl (by rw [h]; rfl))
 · exact .inr (.inr (.inl (by rw [h]; rfl)))
 · exact .inr (.inr (.inr (by rw [h]; rfl)))
theorem made_sum (S : List DigP) {p : Pre} (h1 : rightB p = true) (h2 : p.2.length = 32) : madeB S (sumV S p) := ⟨h1, h2, .inl rfl⟩
theorem made_ask (S : List DigP) {p : Pre} (h1 : rightB p = true) (h2 : p.2.length = 32) : madeB S (listI 2 p []) := ⟨h1, h2, .inr (.inl rfl)⟩
theorem made_list (S : List DigP) {p : Pre} (h1 : rightB p = true) (h2 : p.2.length = 32) : madeB S (listI 3 p (belowV S p)) := ⟨h1, h2, .inr (.inr (.inl rfl))⟩
theorem made_told (S : List DigP) {p : Pre} (h1 : rightB p = true) (h2 : p.2.length = 32) : madeB S (listI 4 p (belowV S p)) := ⟨h1, h2, .inr (.inr (.inr rfl))⟩
theorem out_cases {O : List DigP} {x y : Item} (hy : y ∈ outV O x) :
 (x.1 = 2 ∧ y = listI 3 (iP x) (belowV O (iP x))) ∨ (x.1 = 3 ∧ y = listI 4 (iP x) (belowV O (iP x))) ∨ ((¬ x.1 = 2 ∧ ¬ x.1 = 3 ∧ ¬ x.1 = 4) ∧ (y = listI 3 (iP x) (belowV O (iP x)) ∨ y = listI 2 (iP x) [] ∨ (toV O x = 3 ∧ ∃ q ∈ partsV (iP x), y = sumV O q))) := by
 unfold outV at hy
 split at hy
 · rename_i h; exact .inl ⟨h, by simpa using hy⟩
 · rename_i h2
   split at hy
   · rename_i h; exact .inr (.inl ⟨h, by simpa using hy⟩)
   · rename_i h3
     split at hy
     · cases hy
     · rename_i h4
       refine .inr (.inr ⟨⟨h2, h3, h4⟩, ?_⟩)
       split at hy
       · cases hy
       · rename_i t0
         split at hy
         · exact .inl (by simpa using hy)
         · rename_i t1
           split at hy
           · exact .inr (.inl (by simpa using hy))
           · rename_i t2
             rw [List.mem_map] at hy
             obtain ⟨q, hq, rfl⟩ := hy
             exact .inr (.inr ⟨(((toV_four O x).resolve_left t0).resolve_left t1).resolve_left t2, q, hq, rfl⟩)
theorem parts_mem' {p q : Pre} (hq : q ∈ partsV p) (hr : rightB p = true) (hd : p.2.length = 32) : rightB q = true ∧ q.2.length = 32 := by
 obtain ⟨m, e, rfl, h1, h2, _⟩ := parts_mem (n := p.1) (d := p.2) hq hr hd
 exact ⟨h2, h1⟩
theorem out_made {S O : List DigP} {x y : Item} (h : madeB S x) (hy : y ∈ outV O x) : madeB O y := by
 obtain ⟨h1, h2, _⟩ := h
 rcases out_cases hy with ⟨_, rfl⟩ | ⟨_, rfl⟩ | ⟨_, rfl | rfl | ⟨_, q, hq, rfl⟩⟩
 · exact made_list O h1 h2
 · exact made_told O h1 h2
 · exact made_list O h1 h2
 · exact made_ask O h1 h2
 · obtain ⟨a, b⟩ := parts_mem' hq h1 h2
   exact made_sum O a b
theorem below_below (l : List DigP) (p : Pre) : belowV (belowV l p) p = belowV l p := by
 unfold belowV
 rw [List.filter_filter]
 congr 1
 funext d
 cases underV d p <;> rfl
theorem check_below {l : List DigP} (p : Pre) (h : checkS l = 0) : checkS (belowV l p) = 0 := by
 obtain ⟨h1, h2⟩ := checkS_zero.1 h
 have := belowV_le l p
 exact checkS_zero.2 ⟨by omega, below_asc p h2⟩
theorem made_good {S : List DigP} {x : Item} (hc : checkS S = 0) (h : madeB S x) : goodB x = true := by
 obtain ⟨h1, h2, h3⟩ := h
 have hle := belowV_le S (iP x)
 have h6 := (checkS_zero.1 hc).1
 have hcb := check_below (iP x) hc
 have hbb := below_below S (iP x)
 generalize hp : iP x = p at *
 have key : ∀ y : Item, iP y = p → (bif y.1 == 1 then decide (0 ≤ iN y) && decide (iN y ≤ 65536) && decide ((iL y).length = 0)
  else bif y.1 == 2 then decide (iN y = 0) && decide (iH y = zeroD) && decide ((iL y).length = 0)
  else (y.1 == 3 || y.1 == 4) && decide (iN y = 0) && decide (iH y = zeroD) && decide (checkS (iL y) = 0) && decide ((belowV (iL y) (iP y)).length = (iL y).length)) = true → goodB y = true := fun y e hy => by
  unfold goodB
  rw [e] at hy ⊢
  rw [h1, hy]; rfl
 refine key x hp ?_
 rw [hp]
 rcases h3 with rfl | rfl | rfl | rfl
 · show (decide (0 ≤ ((belowV S p).length : Int)) && decide (((belowV S p).length : Int) ≤ 65536) && decide (([] : List DigP).length = 0)) = true
   rw [decide_eq_true (by omega), decide_eq_true (by omega)]; rfl
 · show (decide ((0 : Int) = 0) && decide (zeroD = zeroD) && decide (([] : List DigP).length = 0)) = true
   simp
 · show (true && decide ((0 : Int) = 0) && decide (zeroD = zeroD) && decide (checkS (belowV S p) = 0) && decide ((belowV (belowV S p) p).length = (belowV S p).length)) = true
   rw [hcb, hbb]; simp
 · show (true && decide ((0 : Int) = 0) && decide (zeroD = zeroD) && decide (checkS (belowV S p) = 0) && decide ((belowV (belowV S p) p).length = (belowV S p).length)) = true
   rw [hcb, hbb]; simp
theorem made_small {S : List DigP} {x : Item} (h : madeB S x) : (iL x).length ≤ S.length := by
 have hle := belowV_le S (iP x)
 rcases h.2.2 with h | h | h | h
 · rw [h]; exact Nat.zero_le _
 · rw [h]; exact Nat.zero_le _
 · rw [h]; exact hle
 · rw [h]; exact hle

def rankI (x : Item) : Nat := if x.1 = 4 then 1 else if x.1 = 3 then 2 else if x.1 = 2 then 3 else 4 + (257 - x.2.1.toNat) / 2
theorem rank_pos (x : Item) : 1 ≤ rankI x := by
 unfold rankI
 repeat' split
 all_goals omega
theorem rank4 (p : Pre) (l : List DigP) : rankI (listI 4 p l) = 1 := rfl
theorem rank3 (p : Pre) (l : List DigP) : rankI (listI 3 p l) = 2 := rfl
theorem rank2 (p : Pre) (l : List DigP) : rankI (listI 2 p l) = 3 := rfl
theorem rank1 (p : Pre) (l : List DigP) : rankI (sumV l p) = 4 + (257 - p.1.toNat) / 2 := rfl
theorem rank_other {x : Item} (h : ¬ x.1 = 2 ∧ ¬ x.1 = 3 ∧ ¬ x.1 = 4) : rankI x = 4 + (257 - x.2.1.toNat) / 2 := by
 unfold rankI
 rw [if_neg h.2.2, if_neg h.2.1, if_neg h.1]
theorem out_rank {S O : List DigP} {x y : Item} (h : madeB S x) (hy : y ∈ outV O x) : rankI y + 1 ≤ rankI x := by
 obtain ⟨h1, h2, _⟩ := h
 rcases out_cases hy with ⟨k, rfl⟩ | ⟨k, rfl⟩ | ⟨k, rfl | rfl | ⟨_, q, hq, rfl⟩⟩
 · rw [rank3]; unfold rankI; rw [if_neg (by rw [k]; decide), if_neg (by rw [k]; decide), if_pos k]; exact Nat.le_refl _
 · rw [rank4]; unfold rankI; rw [if_neg (by rw [k]; decide), if_pos k]; exact Nat.le_refl _
 · rw [rank3, rank_other k]; omega
 · rw [rank2, rank_other k]; omega
 · rw [rank1, rank_other k]
   obtain ⟨m, e, rfl, _, _, g1, g2, g3⟩ := parts_mem (n := (iP x).1) (d := (iP x).2) hq h1 h2
   obtain ⟨r1, r2, _⟩ := (right_iff (p := iP x) h2).1 h1
   show 4 + (257 - Int.toNat m) / 2 + 1 ≤ 4 + (257 - Int.toNat (iP x).1) / 2
   obtain ⟨n, hn⟩ : ∃ n : Int, (iP x).1 = n := ⟨_, rfl⟩
   rw [hn] at g1 g3 r1 ⊢
   have g1 : (n : Int) < m := g1
   have g3 : (m : Int) = n + 2 ∨ m = 256 := g3
   have r1 : (0 : Int) ≤ n := r1
   obtain ⟨N, hN⟩ : ∃ N : Nat, (n : Int) = N := ⟨Int.toNat n, by omega⟩
   have e1 : Int.toNat n = N := by omega
   rw [e1]
   omega

def covB (d : DigP) (x : Item) : Bool := x.1 == 1 && underV d (iP x)
def covN (d : DigP) (W : List Item) : Nat := W.countP (covB d)
theorem under_two (d e : DigP) (N : Nat) : underV d (((N : Int) + 2 : Int), e) = (underV d ((N : Int), e) && (bitV d N == bitV e N) && (bitV d (N + 1) == bitV e (N + 1))) := by
 unfold underV
 show (List.range (Int.toNat ((N : Int) + 2))).all _ = _
 rw [show Int.toNat ((N : Int) + 2) = N + 1 + 1 by omega, List.range_succ, List.range_succ, List.all_append, List.all_append]
 simp
theorem under_one (d e : DigP) : underV d ((256 : Int), e) = (underV d ((255 : Int), e) && (bitV d 255 == bitV e 255)) := by
 unfold underV
 show (List.range (255 + 1)).all _ = ((List.range 255).all _ && _)
 rw [List.range_succ, List.all_append]
 simp
theorem under_set {d e : DigP} {N i : Nat} (he : e.length = 32) (hi : i < 256) (h : N ≤ i) : underV d ((N : Int), setB e i) = underV d ((N : Int), e) := by
 rw [Bool.eq_iff_iff, under_iff, under_iff]
 constructor
 · intro g j hj
   have hj' : j < N := by have : (Int.toNat (N : Int)) = N := Int.toNat_natCast N; exact this ▸ hj
   have := g j hj
   dsimp only at this
   rw [setB_bit he hi, decide_eq_false (by omega), Bool.false_or] at this
   exact this
 · intro g j hj
   have hj' : j < N := by have : (Int.toNat (N : Int)) = N := Int.toNat_natCast N; exact this ▸ hj
   dsimp only
   rw [setB_bit he hi, decide_eq_false (by omega), Bool.false_or]
   exact g j hj
theorem parts_cov {n : Int} {e d : DigP} (hr : rightB (n, e) = true) (he : e.length = 32) : (partsV (n, e)).countP (underV d) = if n = 256 then 0 else if underV d (n, e) = true then 1 else 0 := by
 obtain ⟨r1, r2, r3⟩ := (right_iff (p := (n, e)) he).1 hr
 have r1 : (0 : Int) ≤ n := r1
 have r2 : (256 : Int) ≥ n := r2
 have r3 : ∀ i : Nat, i < 256 → (i : Int) ≥ n → bitV e i = false := r3
 by_cases h6 : n = 256
 · subst h6; rfl
 · rw [if_neg h6]
   by_cases h5 : n = 255
   · subst h5
     have e1 : partsV ((255 : Int), e) = [((256 : Int), e), ((256 : Int), setB e 255)] := by
      unfold partsV
      rw [if_neg (show ¬ (255 : Int) = 256 by decide), if_pos rfl]
     have z := r3 255 (by decide) (by decide)
     have u2 : underV d ((255 : Int), setB e 255) = underV d ((255 : Int), e) := under_set (N := 255) he (by decide) (Nat.le_refl _)
     have v1 := under_one d e
     have v2 := under_one d (setB e 255)
     rw [setB_bit he (show 255 < 256 by decide), u2, z, decide_eq_true rfl, Bool.true_or] at v2
     rw [z] at v1
     rw [e1, List.countP_cons, List.countP_cons, List.countP_nil, v1, v2]
     cases underV d ((255 : Int), e) <;> cases bitV d 255 <;> rfl
   · obtain ⟨N, rfl⟩ : ∃ N : Nat, n = N := ⟨n.toNat, by omega⟩
     have hN : N + 1 < 256 := by omega
     have e1 : partsV ((N : Int), e) = [((N : Int) + 2, e), ((N : Int) + 2, setB e (N + 1)), ((N : Int) + 2, setB e N), ((N : Int) + 2, setB (setB e N) (N + 1))] := by
      unfold partsV
      rw [if_neg h6, if_neg h5]
      rfl
     have z0 := r3 N (by omega) (by omega)
     have z1 := r3 (N + 1) hN (by omega)
     have u1 : underV d ((N : Int), setB e (N + 1)) = underV d ((N : Int), e) := under_set he hN (by omega)
     have u2 : underV d ((N : Int), setB e N) = underV d ((N : Int), e) := under_set he (by omega) (Nat.le_refl _)
     have u3 : underV d ((N : Int), setB (setB e N) (N + 1)) = underV d ((N : Int), e) := by rw [under_set (by rw [setB_len]; exact he) hN (by omega), u2]
     have hs : (setB e N).length = 32 := by rw [setB_len]; exact he
     have d1 : decide (N + 1 = N) = false := decide_eq_false (by omega)
     have d2 : decide (N = N + 1) = false := decide_eq_false (by omega)
     have d3 : decide (N = N) = true := decide_eq_true rfl
     have d4 : decide (N + 1 = N + 1) = true := decide_eq_true rfl
     have v1 := under_two d e N
     have v2 := under_two d (setB e (N + 1)) N
     have v3 := under_two d (setB e N) N
     have v4 := under_two d (setB (setB e N) (N + 1)) N
     rw [z0, z1] at v1
     rw [u1, setB_bit he hN, setB_bit he hN, z0, d1, d4] at v2
     rw [u2, setB_bit he (by omega), setB_bit he (by omega), z1, d3, d2] at v3
     rw [u3, setB_bit hs hN, setB_bit hs hN, setB_bit he (by omega), z0, d1, d3, d4] at v4
     rw [e1, List.countP_cons, List.countP_cons, List.countP_cons, List.countP_cons, List.countP_nil, v1, v2, v3, v4]
     cases underV d ((N : Int), e) <;> cases bitV d N <;> cases bitV d (N + 1) <;> rfl
theorem map_cov (O : List DigP) (d : DigP) : ∀ ps : List Pre, covN d (ps.map (sumV O)) = ps.countP (underV d)
 | [] => rfl
 | p :: r => by
   have ih := map_cov O d r
   unfold covN at ih ⊢
   rw [List.map_cons, List.countP_cons, List.countP_cons, ih]
   have : covB d (sumV O p) = underV d p := rfl
   rw [this]
theorem out_cov {S O : List DigP} {x : Item} {d : DigP} (h : madeB S x) : covN d (outV O x) ≤ if covB d x = true then 1 else 0 := by
 obtain ⟨h1, h2, _⟩ := id h
 by_cases k1 : x.1 = 1
 · have t := outS (l := O) (x := x) (by rw [k1]; decide) (by rw [k1]; decide) (by rw [k1]; decide)
   obtain ⟨_, _, t0, t1, t2, t3⟩ := t
   rcases toV_four O x with q | q | q | q
   · rw [(t0 q).1]; exact Nat.zero_le _
   · rw [(t1 q).1]
     have : covN d [listI 3 (iP x) (belowV O (iP x))] = 0 := rfl
     rw [this]; exact Nat.zero_le _
   · rw [(t2 q).1]
     have : covN d [listI 2 (iP x) []] = 0 := rfl
     rw [this]; exact Nat.zero_le _
   · rw [(t3 q).1, map_cov]
     have := parts_cov (n := (iP x).1) (e := (iP x).2) (d := d) h1 h2
     have e : covB d x = underV d (iP x) := by unfold covB; rw [k1]; rfl
     rw [e]
     have e2 : (partsV (iP x)).countP (underV d) = if (iP x).1 = 256 then 0 else if underV d (iP x) = true then 1 else 0 := this
     rw [e2]
     split
     · exact Nat.zero_le _
     · exact Nat.le_refl _
 · have : covN d (outV O x) = 0 := by
     unfold covN
     rw [List.countP_eq_zero]
     intro y hy
     rcases out_cases hy with ⟨_, rfl⟩ | ⟨_, rfl⟩ | ⟨⟨a, b, c⟩, _⟩
     · exact Bool.false_ne_true
     · exact Bool.false_ne_true
     · rcases made_kind h with h | h | h | h
       · exact absurd h k1
       · exact absurd h a
       · exact absurd h b
       · exact absurd h c
   rw [this]; exact Nat.zero_le _
theorem flat_cov {S O : List DigP} {d : DigP} : ∀ {W : List Item}, (∀ x ∈ W, madeB S x) → covN d (W.flatMap (outV O)) ≤ covN d W
 | [], _ => Nat.le_refl _
 | x :: r, h => by
   have ih := flat_cov (O := O) (d := d) (W := r) fun y hy => h y (List.mem_cons_of_mem _ hy)
   have h0 := out_cov (O := O) (d := d) (h x (by simp))
   unfold covN at *
   rw [List.flatMap_cons, List.countP_append, List.countP_cons]
   omega
def divB (O : List DigP) (x : Item) : Bool := x.1 == 1 && toV O x == 3
def covS (O : List DigP) (W : List Item) : Nat := (W.map fun x => if x.1 = 1 then (belowV O (iP x)).length else 0).sum
theorem covS_cons (d : DigP) (O : List DigP) : ∀ W : List Item, covS (d :: O) W = covN d W + covS O W
 | [] => rfl
 | x :: r => by
   have ih := covS_cons d O r
   unfold covS covN at *
   rw [List.map_cons, List.sum_cons, List.map_cons, List.sum_cons, List.countP_cons, ih]
   have e : (if x.1 = 1 then (belowV (d :: O) (iP x)).length else 0) = (if covB d x = true then 1 else 0) + (if x.1 = 1 then (belowV O (iP x)).length else 0) := by
    unfold covB belowV
    by_cases k : x.1 = 1
    · rw [if_pos k, if_pos k, show (x.1 == 1) = true by rw [k]; rfl, Bool.true_and, List.filter_cons]
      split
      · rw [List.length_cons]; omega
      · omega
    · rw [if_neg k, if_neg k, show (x.1 == 1) = false by rw [beq_eq_false_iff_ne]; exact k]; rfl
   rw [e]; omega
theorem covS_le : ∀ {O : List DigP} {W : List Item}, (∀ d ∈ O, covN d W ≤ 1) → covS O W ≤ O.length
 | [], W, _ => by
   have : covS [] W = 0 := by
    unfold covS
    induction W with
    | nil => rfl
    | cons x r ih =>
      rw [List.map_cons, List.sum_cons, ih fun d hd => nomatch hd]
      split <;> rfl
   rw [this]; exact Nat.zero_le _
 | d :: O, W, h => by
   have ih := covS_le (O := O) (W := W) fun e he => h e (List.mem_cons_of_mem _ he)
   have := h d (by simp)
   rw [covS_cons, List.length_cons]; omega
theorem div_nine {O : List DigP} {x : Item} (h : divB O x = true) : 9 ≤ (belowV O (iP x)).length := by
 unfold divB at h
 rw [Bool.and_eq_true] at h
 have h2 := h.2
 unfold toV at h2
 cases q1 : (iN (sumV O (iP x)) == iN x && decide (iH (sumV O (iP x)) = iH x)) with
 | true => rw [q1] at h2; cases h2
 | false =>
   cases q2 : (decide (iN (sumV O (iP x)) ≤ 8) || x.2.1 == 256) with
   | true => rw [q1, q2] at h2; cases h2
   | false =>
     rw [Bool.or_eq_false_iff, decide_eq_false_iff_not] at q2
     have : ¬ (((belowV O (iP x)).length : Nat) : Int) ≤ 8 := q2.1
     omega
theorem div_le (O : List DigP) : ∀ W : List Item, 9 * W.countP (divB O) ≤ covS O W
 | [] => Nat.le_refl _
 | x :: r => by
   have ih := div_le O r
   unfold covS at *
   rw [List.map_cons, List.sum_cons, List.countP_cons]
   by_cases h : divB O x = true
   · have h9 := div_nine h
     have k : x.1 = 1 := by
      unfold divB at h
      rw [Bool.and_eq_true] at h
      simpa using h.1
     rw [if_pos h, if_pos k]; omega
   · rw [if_neg h]; omega
theorem flat_len {S O : List DigP} : ∀ {W : List Item}, (∀ x ∈ W, madeB S x) → (W.flatMap (outV O)).length ≤ W.length + 3 * W.countP (divB O)
 | [], _ => Nat.le_refl _
 | x :: r, h => by
   have ih := flat_len (O := O) (W := r) fun y hy => h y (List.mem_cons_of_mem _ hy)
   have hx := h x (by simp)
   rw [List.flatMap_cons, List.length_append, List.length_cons, List.countP_cons]
   have : (outV O x).length ≤ 1 + 3 * (if divB O x = true then 1 else 0) := by
    rcases made_kind hx with k | k | k | k
    · obtain ⟨_, _, t0, t1, t2, t3⟩ := outS (l := O) (x := x) (by rw [k]; decide) (by rw [k]; decide) (by rw [k]; decide)
      rcases toV_four O x with q | q | q | q
      · rw [(t0 q).1]; exact Nat.zero_le _
      · rw [(t1 q).1]
        show 1 ≤ _
        omega
      · rw [(t2 q).1]
        show 1 ≤ _
        omega
      · have : divB O x = true := by unfold divB; rw [k, q]; rfl
        rw [(t3 q).1, List.length_map, if_pos this]
        exact parts_le _
    · rw [(out2 k).1]
      show 1 ≤ _
      omega
    · rw [(out3 k).1]
      show 1 ≤ _
      omega
    · rw [(out4 k).1]
      exact Nat.zero_le _
   omega
theorem onceI_le (xs : List DigP) : ∀ i, (onceI xs i).length ≤ i
 | 0 => Nat.le_refl _
 | i + 1 => by
   have := onceI_le xs i
   rw [onceI_succ]
   split
   · rw [List.length_append, List.length_cons, List.length_nil]; omega
   · omega
theorem ris_le (l : List DigP) : (risV l).length ≤ l.length := by
 unfold risV onceV
 have := onceI_le (sortV l) (sortV l).length
 rw [sort_length] at this ⊢
 exact this
theorem flat_le {f : Item → List DigP} {n : Nat} : ∀ {W : List Item}, (∀ x ∈ W, (f x).length ≤ n) → (W.flatMap f).length ≤ n * W.length
 | [], _ => Nat.le_refl _
 | x :: r, h => by
   have ih := flat_le (f := f) (n := n) (W := r) fun y hy => h y (List.mem_cons_of_mem _ hy)
   have := h x (by simp)
   rw [List.flatMap_cons, List.length_append, List.length_cons, Nat.mul_add]
   omega
end Go.Sal

set_option maxRecDepth 100000
namespace Go.Sal
open Go.Vse

def stepsM (a b : List DigP) : Nat → Mt
 | 0 => mt0 a
 | k + 1 => turnM a b (stepsM a b k)
def okMt (a b : List DigP) : Prop := (checkS a = 0 → a.length ≤ 150) ∧ (checkS b = 0 → b.length ≤ 150)
def ansM (a b : List DigP) (k : Nat) : List DigP := if k % 2 = 0 then b else a
def mkM (a b : List DigP) (k : Nat) : List DigP := if k % 2 = 0 then a else b
theorem mkM_succ (a b : List DigP) (k : Nat) : mkM a b (k + 1) = ansM a b k := by
 unfold mkM ansM
 by_cases h : k % 2 = 0
 · rw [if_pos h, if_neg (by omega)]
 · rw [if_neg h, if_pos (by omega)]
theorem resp_of {l : List DigP} {xs : List Item} (hc : checkS l = 0) (ha : xs.all goodB = true) : respV l xs = (xs.flatMap (outV l), risV (xs.flatMap (lackV l)), risV (xs.flatMap (otherV l)), 0) := by
 unfold respV
 rw [hc, ha]; rfl
theorem steps_n (a b : List DigP) : ∀ k, (stepsM a b k).n = k
 | 0 => rfl
 | k + 1 => by
   have ih := steps_n a b k
   show (turnM a b (stepsM a b k)).n = k + 1
   unfold turnM
   split <;> exact congrArg (· + 1) ih
theorem steps_even {a b : List DigP} {k : Nat} (h : k % 2 = 0) : stepsM a b (k + 1) = ⟨(respV b (stepsM a b k).way).1, (stepsM a b k).la, (stepsM a b k).lb ++ (respV b (stepsM a b k).way).2.1, k + 1⟩ := by
 show turnM a b (stepsM a b k) = _
 unfold turnM
 rw [steps_n, if_pos h]
theorem steps_odd {a b : List DigP} {k : Nat} (h : ¬ k % 2 = 0) : stepsM a b (k + 1) = ⟨(respV a (stepsM a b k).way).1, (stepsM a b k).la ++ (respV a (stepsM a b k).way).2.1, (stepsM a b k).lb, k + 1⟩ := by
 show turnM a b (stepsM a b k) = _
 unfold turnM
 rw [steps_n, if_neg h]
def bdM : Nat → Nat
 | 0 => 0
 | k + 1 => bdM k + 150 * (1 + 50 * k)
theorem bdM_mono : ∀ {j k : Nat}, j ≤ k → bdM j ≤ bdM k
 | j, 0, h => by have : j = 0 := by omega
                 subst this; exact Nat.le_refl _
 | j, k + 1, h => by
   by_cases e : j = k + 1
   · rw [e]; exact Nat.le_refl _
   · have := bdM_mono (j := j) (k := k) (by omega)
     show _ ≤ bdM k + _
     omega
theorem bdM_132 : bdM 132 ≤ 65000000 := by decide +kernel
theorem zero_right : rightB ((0 : Int), zeroD) = true := by decide +kernel
structure okWay (a b : List DigP) (k : Nat) : Prop where
 made : ∀ x ∈ (stepsM a b k).way, madeB (mkM a b k) x ∧ rankI x + k ≤ 132
 cov : ∀ d, covN d (stepsM a b k).way ≤ 1
 len : (stepsM a b k).way.length ≤ 1 + 50 * k
 la : (stepsM a b k).la.length ≤ bdM k
 lb : (stepsM a b k).lb.length ≤ bdM k
theorem way_good {a b : List DigP} {k : Nat} (ha : checkS a = 0) (hb : checkS b = 0) (h : ∀ x ∈ (stepsM a b k).way, madeB (mkM a b k) x ∧ rankI x + k ≤ 132) : (stepsM a b k).way.all goodB = true := by
 rw [List.all_eq_true]
 intro x hx
 have hm : checkS (mkM a b k) = 0 := by
  unfold mkM
  split <;> assumption
 exact made_good hm (h x hx).1
theorem steps_way {a b : List DigP} {k : Nat} (ha : checkS a = 0) (hb : checkS b = 0) (h : ∀ x ∈ (stepsM a b k).way, madeB (mkM a b k) x ∧ rankI x + k ≤ 132) : (stepsM a b (k + 1)).way = (stepsM a b k).way.flatMap (outV (ansM a b k)) := by
 have hg := way_good ha hb h
 by_cases e : k % 2 = 0
 · rw [steps_even e]
   have : ansM a b k = b := if_pos e
   rw [this, resp_of hb hg]
 · rw [steps_odd e]
   have : ansM a b k = a := if_neg e
   rw [this, resp_of ha hg]
theorem way_ok {a b : List DigP} (ha : checkS a = 0) (hb : checkS b = 0) (la : a.length ≤ 150) (lb : b.length ≤ 150) : ∀ k, okWay a b k
 | 0 => by
   refine ⟨fun x hx => ?_, fun d => ?_, Nat.le_refl _, Nat.le_refl _, Nat.le_refl _⟩
   · have hx : x ∈ [sumV a ((0 : Int), zeroD)] := hx
     rw [List.mem_singleton] at hx
     subst hx
     exact ⟨made_sum a zero_right rfl, by rw [rank1]; decide⟩
   · show covN d [sumV a ((0 : Int), zeroD)] ≤ 1
     unfold covN
     exact List.countP_le_length
 | k + 1 => by
   obtain ⟨h1, h2, h3, h4, h5⟩ := way_ok ha hb la lb k
   have hw := steps_way ha hb h1
   have hg := way_good ha hb h1
   have hm : ∀ x ∈ (stepsM a b k).way, madeB (mkM a b k) x := fun x hx => (h1 x hx).1
   have hS : (ansM a b k).length ≤ 150 := by unfold ansM; split <;> assumption
   have hM : (mkM a b k).length ≤ 150 := by unfold mkM; split <;> assumption
   have hlack : ∀ O : List DigP, (risV ((stepsM a b k).way.flatMap (lackV O))).length ≤ 150 * (1 + 50 * k) := fun O => by
    have r1 := ris_le ((stepsM a b k).way.flatMap (lackV O))
    have r2 := flat_le (f := lackV O) (n := 150) (W := (stepsM a b k).way) fun x hx => Nat.le_trans lack_le (Nat.le_trans (made_small (hm x hx)) hM)
    omega
   refine ⟨fun y hy => ?_, fun d => ?_, ?_, ?_, ?_⟩
   · rw [hw, List.mem_flatMap] at hy
     obtain ⟨x, hx, hy⟩ := hy
     have := out_rank (h1 x hx).1 hy
     have h9 := (h1 x hx).2
     rw [mkM_succ]
     exact ⟨out_made (h1 x hx).1 hy, by omega⟩
   · rw [hw]
     exact Nat.le_trans (flat_cov hm) (h2 d)
   · rw [hw]
     have f1 := flat_len (O := ansM a b k) hm
     have f2 := div_le (ansM a b k) (stepsM a b k).way
     have f3 := covS_le (O := ansM a b k) (W := (stepsM a b k).way) fun d _ => h2 d
     omega
   · by_cases e : k % 2 = 0
     · rw [steps_even e]
       exact Nat.le_trans h4 (bdM_mono (by omega))
     · rw [steps_odd e, resp_of ha hg]
       show (_ ++ risV _).length ≤ bdM k + _
       rw [List.length_append]
       have := hlack a
       omega
   · by_cases e : k % 2 = 0
     · rw [steps_even e, resp_of hb hg]
       show (_ ++ risV _).length ≤ bdM k + _
       rw [List.length_append]
       have := hlack b
       omega
     · rw [steps_odd e]
       exact Nat.le_trans h5 (bdM_mono (by omega))
theorem way_early {a b : List DigP} {k : Nat} (h : okWay a b k) (hne : (stepsM a b k).way ≠ []) : k ≤ 131 := by
 obtain ⟨x, hx⟩ := List.exists_mem_of_ne_nil _ hne
 have := (h.made x hx).2
 have := rank_pos x
 omega
theorem way_okR {a b : List DigP} {k : Nat} (ha : checkS a = 0) (hb : checkS b = 0) (la : a.length ≤ 150) (lb : b.length ≤ 150) (hk : k ≤ 200) (l : List DigP) (hl : l.length ≤ 150) : okR l (stepsM a b k).way := by
 have h := way_ok ha hb la lb k
 have hM : (mkM a b k).length ≤ 150 := by unfold mkM; split <;> assumption
 refine ⟨fun _ => by omega, by have := h.len; omega, fun x hx _ => ?_⟩
 have := made_small (h.made x hx).1
 omega
theorem run_steps {a b : List DigP} {x : Nat} (he : (stepsM a b x).way = []) (hx : ∀ j, j < x → (stepsM a b j).way ≠ []) : ∀ f k, k ≤ x → x ≤ k + f → runM a b f (stepsM a b k) = stepsM a b x
 | 0, k, h1, h2 => by
   have : k = x := by omega
   subst this; rfl
 | f + 1, k, h1, h2 => by
   show (if (stepsM a b k).way = [] then stepsM a b k else runM a b f (turnM a b (stepsM a b k))) = _
   by_cases e : k = x
   · subst e
     rw [if_pos he]
   · rw [if_neg (hx k (by omega))]
     exact run_steps he hx f (k + 1) (by omega) (by omega)
theorem end_is {a b : List DigP} {x : Nat} (he : (stepsM a b x).way = []) (hx : ∀ j, j < x → (stepsM a b j).way ≠ []) (h : x ≤ 200) : endM a b = stepsM a b x :=
 run_steps he hx 200 0 (Nat.zero_le _) (by omega)
theorem meet_is {a b : List DigP} {x : Nat} (ha : checkS a = 0) (hb : checkS b = 0) (he : (stepsM a b x).way = []) (hx : ∀ j, j < x → (stepsM a b j).way ≠ []) (h : x ≤ 200) : meetV a b = (risV (stepsM a b x).la, risV (stepsM a b x).lb, (x : Int), 0) := by
 unfold meetV
 rw [ha, hb, end_is he hx h, steps_n]; rfl
theorem way_ends {a b : List DigP} (ha : checkS a = 0) (hb : checkS b = 0) (la : a.length ≤ 150) (lb : b.length ≤ 150) : ∃ x, x ≤ 132 ∧ (stepsM a b x).way = [] ∧ ∀ j, j < x → (stepsM a b j).way ≠ [] := by
 have h132 : (stepsM a b 132).way = [] := by
  cases h : (stepsM a b 132).way with
  | nil => rfl
  | cons y r =>
    have := way_early (way_ok ha hb la lb 132) (by rw [h]; exact List.cons_ne_nil _ _)
    omega
 have key : ∀ n, (∃ x, x ≤ n ∧ (stepsM a b x).way = [] ∧ ∀ j, j < x → (stepsM a b j).way ≠ []) ∨ ∀ j, j ≤ n → (stepsM a b j).way ≠ [] := by
  intro n
  induction n with
  | zero =>
    by_cases e : (stepsM a b 0).way = []
    · exact .inl ⟨0, Nat.le_refl _, e, fun j hj => by omega⟩
    · refine .inr fun j hj => ?_
      have : j = 0 := by omega
      subst this; exact e
  | succ n ih =>
    rcases ih with ⟨x, h1, h2⟩ | h
    · exact .inl ⟨x, by omega, h2⟩
    · by_cases e : (stepsM a b (n + 1)).way = []
      · exact .inl ⟨n + 1, Nat.le_refl _, e, fun j hj => h j (by omega)⟩
      · refine .inr fun j hj => ?_
        by_cases e2 : j = n + 1
        · rw [e2]; exact e
        · exact h j (by omega)
 rcases key 132 with h | h
 · exact h
 · exact absurd h132 (h 132 (Nat.le_refl _))
end Go.Sal

set_option maxRecDepth 100000
namespace Go.Sal
open Go.Vse

theorem mem_less {xs ys : List DigP} {d : DigP} : d ∈ lessV xs ys ↔ d ∈ xs ∧ ¬ d ∈ ys := by
 unfold lessV
 rw [List.mem_filter]
 constructor
 · rintro ⟨h1, h2⟩
   refine ⟨h1, fun h => ?_⟩
   rw [hasD_iff.2 h] at h2; cases h2
 · rintro ⟨h1, h2⟩
   refine ⟨h1, ?_⟩
   cases hq : hasD ys d with
   | false => rfl
   | true => exact absurd (hasD_iff.1 hq) h2
theorem mem_below {xs : List DigP} {p : Pre} {d : DigP} : d ∈ belowV xs p ↔ d ∈ xs ∧ underV d p = true := by
 unfold belowV
 rw [List.mem_filter]
theorem made3 {S : List DigP} {x : Item} (h : madeB S x) (k : x.1 = 3 ∨ x.1 = 4) : iL x = belowV S (iP x) := by
 rcases h.2.2 with h | h | h | h
 · exfalso; rw [h] at k
   rcases k with k | k <;> exact absurd k (by show ¬ (1 : Int) = _; decide)
 · exfalso; rw [h] at k
   rcases k with k | k <;> exact absurd k (by show ¬ (2 : Int) = _; decide)
 · exact congrArg iL h
 · exact congrArg iL h
theorem made1 {S : List DigP} {x : Item} (h : madeB S x) (k : x.1 = 1) : x = sumV S (iP x) := by
 rcases h.2.2 with h | h | h | h
 · exact h
 · exfalso; rw [h] at k; exact absurd k (by show ¬ (2 : Int) = _; decide)
 · exfalso; rw [h] at k; exact absurd k (by show ¬ (3 : Int) = _; decide)
 · exfalso; rw [h] at k; exact absurd k (by show ¬ (4 : Int) = _; decide)
theorem mem_lack {S O : List DigP} {x : Item} {d : DigP} (h : madeB S x) (k : x.1 = 3 ∨ x.1 = 4) : d ∈ lackV O x ↔ d ∈ S ∧ underV d (iP x) = true ∧ ¬ d ∈ O := by
 unfold lackV
 rw [if_pos k, mem_less, made3 h k, mem_below, mem_below]
 constructor
 · rintro ⟨⟨h1, h2⟩, h3⟩
   exact ⟨h1, h2, fun h => h3 ⟨h, h2⟩⟩
 · rintro ⟨h1, h2, h3⟩
   exact ⟨⟨h1, h2⟩, fun h => h3 h.1⟩
theorem mem_other {S O : List DigP} {x : Item} {d : DigP} (h : madeB S x) (k : x.1 = 3 ∨ x.1 = 4) : d ∈ otherV O x ↔ d ∈ O ∧ underV d (iP x) = true ∧ ¬ d ∈ S := by
 unfold otherV
 rw [if_pos k, mem_less, made3 h k, mem_below, mem_below]
 constructor
 · rintro ⟨⟨h1, h2⟩, h3⟩
   exact ⟨h1, h2, fun h => h3 ⟨h, h2⟩⟩
 · rintro ⟨h1, h2, h3⟩
   exact ⟨⟨h1, h2⟩, fun h => h3 h.1⟩

def pend (k : Int) (f : Item → List DigP) (W : List Item) (d : DigP) : Prop := ∃ x ∈ W, x.1 = k ∧ d ∈ f x
theorem flat_two (f : Item → List DigP) (hf : ∀ x, ¬ (x.1 = 3 ∨ x.1 = 4) → f x = []) (W : List Item) (d : DigP) : d ∈ W.flatMap f ↔ pend 4 f W d ∨ pend 3 f W d := by
 rw [List.mem_flatMap]
 constructor
 · rintro ⟨x, hx, hd⟩
   by_cases k : x.1 = 3 ∨ x.1 = 4
   · rcases k with k | k
     · exact .inr ⟨x, hx, k, hd⟩
     · exact .inl ⟨x, hx, k, hd⟩
   · rw [hf x k] at hd; cases hd
 · rintro (⟨x, hx, _, hd⟩ | ⟨x, hx, _, hd⟩) <;> exact ⟨x, hx, hd⟩
theorem lack_no (O : List DigP) (x : Item) (h : ¬ (x.1 = 3 ∨ x.1 = 4)) : lackV O x = [] := if_neg h
theorem other_no (O : List DigP) (x : Item) (h : ¬ (x.1 = 3 ∨ x.1 = 4)) : otherV O x = [] := if_neg h
theorem told_of {O : List DigP} {W : List Item} {y : Item} (hy : y ∈ W.flatMap (outV O)) (k : y.1 = 4) : ∃ x ∈ W, x.1 = 3 ∧ y = listI 4 (iP x) (belowV O (iP x)) := by
 rw [List.mem_flatMap] at hy
 obtain ⟨x, hx, hy⟩ := hy
 rcases out_cases hy with ⟨_, h⟩ | ⟨h3, h⟩ | ⟨_, h | h | ⟨_, q, _, h⟩⟩
 · rw [h] at k; exact absurd k (by show ¬ (3 : Int) = _; decide)
 · exact ⟨x, hx, h3, h⟩
 · rw [h] at k; exact absurd k (by show ¬ (3 : Int) = _; decide)
 · rw [h] at k; exact absurd k (by show ¬ (2 : Int) = _; decide)
 · rw [h] at k; exact absurd k (by show ¬ (1 : Int) = _; decide)
theorem told_in {O : List DigP} {W : List Item} {x : Item} (hx : x ∈ W) (k : x.1 = 3) : listI 4 (iP x) (belowV O (iP x)) ∈ W.flatMap (outV O) := by
 rw [List.mem_flatMap]
 exact ⟨x, hx, by rw [(out3 k).1]; simp⟩
theorem next_other {S O : List DigP} {W : List Item} {d : DigP} (hm : ∀ x ∈ W, madeB S x) : pend 4 (otherV S) (W.flatMap (outV O)) d ↔ pend 3 (lackV O) W d := by
 constructor
 · rintro ⟨y, hy, k, hd⟩
   obtain ⟨x, hx, k3, rfl⟩ := told_of hy k
   refine ⟨x, hx, k3, (mem_lack (hm x hx) (.inl k3)).2 ?_⟩
   have h1 := hm x hx
   exact (mem_other (made_told O h1.1 h1.2.1) (.inr rfl)).1 hd
 · rintro ⟨x, hx, k3, hd⟩
   have h1 := hm x hx
   exact ⟨_, told_in hx k3, rfl, (mem_other (made_told O h1.1 h1.2.1) (.inr rfl)).2 ((mem_lack h1 (.inl k3)).1 hd)⟩
theorem next_lack {S O : List DigP} {W : List Item} {d : DigP} (hm : ∀ x ∈ W, madeB S x) : pend 4 (lackV S) (W.flatMap (outV O)) d ↔ pend 3 (otherV O) W d := by
 constructor
 · rintro ⟨y, hy, k, hd⟩
   obtain ⟨x, hx, k3, rfl⟩ := told_of hy k
   refine ⟨x, hx, k3, (mem_other (hm x hx) (.inl k3)).2 ?_⟩
   have h1 := hm x hx
   exact (mem_lack (made_told O h1.1 h1.2.1) (.inr rfl)).1 hd
 · rintro ⟨x, hx, k3, hd⟩
   have h1 := hm x hx
   exact ⟨_, told_in hx k3, rfl, (mem_lack (made_told O h1.1 h1.2.1) (.inr rfl)).2 ((mem_other h1 (.inl k3)).1 hd)⟩
structure Agree (O : List DigP) (W : List Item) (LO OO LS OS : List DigP) : Prop where
 a1 : ∀ d, (d ∈ LO ∨ pend 4 (lackV O) W d) ↔ d ∈ OS
 a2 : ∀ d, (d ∈ OO ∨ pend 4 (otherV O) W d) ↔ d ∈ LS
theorem agree_step {S O : List DigP} {W : List Item} {LO OO LS OS : List DigP} (hm : ∀ x ∈ W, madeB S x) (h : Agree O W LO OO LS OS) :
 Agree S (W.flatMap (outV O)) LS OS (LO ++ risV (W.flatMap (lackV O))) (OO ++ risV (W.flatMap (otherV O))) := by
 obtain ⟨h1, h2⟩ := h
 refine ⟨fun d => ?_, fun d => ?_⟩
 · rw [next_lack hm, List.mem_append, ris_mem, flat_two _ (other_no O), ← h2 d, or_assoc]
 · rw [next_other hm, List.mem_append, ris_mem, flat_two _ (lack_no O), ← h1 d, or_assoc]
theorem agree_end {O : List DigP} {LO OO LS OS : List DigP} (h : Agree O [] LO OO LS OS) : risV LO = risV OS ∧ risV LS = risV OO := by
 obtain ⟨h1, h2⟩ := h
 have e : ∀ f d, ¬ pend 4 f [] d := fun f d ⟨x, hx, _⟩ => by cases hx
 refine ⟨rises_ext (ris_rises _) (ris_rises _) fun d => ?_, rises_ext (ris_rises _) (ris_rises _) fun d => ?_⟩
 · rw [ris_mem, ris_mem, ← h1 d]
   exact ⟨.inl, fun h => h.elim id fun h => absurd h (e _ _)⟩
 · rw [ris_mem, ris_mem, ← h2 d]
   exact ⟨fun h => h.elim id fun h => absurd h (e _ _), .inl⟩
structure Bt where
 way : List Item
 l0 : List DigP
 l1 : List DigP
 o0 : List DigP
 o1 : List DigP
def turnB (a b : List DigP) (n : Nat) (s : Bt) : Bt :=
 if n % 2 = 0 then ⟨(respV b s.way).1, s.l0 ++ (respV b s.way).2.1, s.l1, s.o0 ++ (respV b s.way).2.2.1, s.o1⟩ else ⟨(respV a s.way).1, s.l0, s.l1 ++ (respV a s.way).2.1, s.o0, s.o1 ++ (respV a s.way).2.2.1⟩
def stepsB (a b : List DigP) : Nat → Bt
 | 0 => ⟨[sumV a (0, zeroD)], [], [], [], []⟩
 | k + 1 => turnB a b k (stepsB a b k)
theorem stepsB_even {a b : List DigP} {k : Nat} (h : k % 2 = 0) : stepsB a b (k + 1) = ⟨(respV b (stepsB a b k).way).1, (stepsB a b k).l0 ++ (respV b (stepsB a b k).way).2.1, (stepsB a b k).l1, (stepsB a b k).o0 ++ (respV b (stepsB a b k).way).2.2.1, (stepsB a b k).o1⟩ := if_pos h
theorem stepsB_odd {a b : List DigP} {k : Nat} (h : ¬ k % 2 = 0) : stepsB a b (k + 1) = ⟨(respV a (stepsB a b k).way).1, (stepsB a b k).l0, (stepsB a b k).l1 ++ (respV a (stepsB a b k).way).2.1, (stepsB a b k).o0, (stepsB a b k).o1 ++ (respV a (stepsB a b k).way).2.2.1⟩ := if_neg h
theorem stepsB_M (a b : List DigP) : ∀ k, (stepsB a b k).way = (stepsM a b k).way ∧ (stepsB a b k).l0 = (stepsM a b k).lb ∧ (stepsB a b k).l1 = (stepsM a b k).la
 | 0 => ⟨rfl, rfl, rfl⟩
 | k + 1 => by
   obtain ⟨h1, h2, h3⟩ := stepsB_M a b k
   by_cases e : k % 2 = 0
   · rw [stepsB_even e, steps_even e, h1, h2, h3]
     exact ⟨rfl, rfl, rfl⟩
   · rw [stepsB_odd e, steps_odd e, h1, h2, h3]
     exact ⟨rfl, rfl, rfl⟩
theorem stepsB_o {a b : List DigP} (ha : checkS a = 0) (hb : checkS b = 0) (la : a.length ≤ 150) (lb : b.length ≤ 150) : ∀ k, (stepsB a b k).o0.length ≤ bdM k ∧ (stepsB a b k).o1.length ≤ bdM k
 | 0 => ⟨Nat.le_refl _, Nat.le_refl _⟩
 | k + 1 => by
   obtain ⟨h1, h2⟩ := stepsB_o ha hb la lb k
   have hw := way_ok ha hb la lb k
   have hg := way_good ha hb hw.made
   have e1 := (stepsB_M a b k).1
   have hlen := hw.len
   have hoth : ∀ O : List DigP, O.length ≤ 150 → (risV ((stepsM a b k).way.flatMap (otherV O))).length ≤ 150 * (1 + 50 * k) := fun O hO => by
    have r1 := ris_le ((stepsM a b k).way.flatMap (otherV O))
    have r2 := flat_le (f := otherV O) (n := 150) (W := (stepsM a b k).way) fun x hx => Nat.le_trans other_le hO
    omega
   by_cases e : k % 2 = 0
   · rw [stepsB_even e, e1, resp_of hb hg]
     refine ⟨?_, Nat.le_trans h2 (bdM_mono (by omega))⟩
     show (_ ++ risV _).length ≤ bdM k + _
     rw [List.length_append]
     have := hoth b lb
     omega
   · rw [stepsB_odd e, e1, resp_of ha hg]
     refine ⟨Nat.le_trans h1 (bdM_mono (by omega)), ?_⟩
     show (_ ++ risV _).length ≤ bdM k + _
     rw [List.length_append]
     have := hoth a la
     omega
theorem stepsB_agree {a b : List DigP} (ha : checkS a = 0) (hb : checkS b = 0) (la : a.length ≤ 150) (lb : b.length ≤ 150) : ∀ k,
 (k % 2 = 0 → Agree b (stepsB a b k).way (stepsB a b k).l0 (stepsB a b k).o0 (stepsB a b k).l1 (stepsB a b k).o1) ∧
 (¬ k % 2 = 0 → Agree a (stepsB a b k).way (stepsB a b k).l1 (stepsB a b k).o1 (stepsB a b k).l0 (stepsB a b k).o0)
 | 0 => by
   refine ⟨fun _ => ?_, fun h => absurd rfl h⟩
   have e : ∀ f d, ¬ pend 4 f [sumV a ((0 : Int), zeroD)] d := fun f d ⟨x, hx, k, _⟩ => by
    rw [List.mem_singleton] at hx
    subst hx
    exact absurd k (by show ¬ (1 : Int) = _; decide)
   exact ⟨fun d => ⟨fun h => h.elim (fun h => by cases h) fun h => absurd h (e _ _), fun h => by cases h⟩, fun d => ⟨fun h => h.elim (fun h => by cases h) fun h => absurd h (e _ _), fun h => by cases h⟩⟩
 | k + 1 => by
   obtain ⟨h1, h2⟩ := stepsB_agree ha hb la lb k
   have hw := way_ok ha hb la lb k
   have hg := way_good ha hb hw.made
   have e1 := (stepsB_M a b k).1
   rw [← e1] at hg
   have hm : ∀ x ∈ (stepsB a b k).way, madeB (mkM a b k) x := fun x hx => (hw.made x (e1 ▸ hx)).1
   by_cases e : k % 2 = 0
   · refine ⟨fun h => absurd h (by omega), fun _ => ?_⟩
     have hS : mkM a b k = a := if_pos e
     rw [hS] at hm
     rw [stepsB_even e, resp_of hb hg]
     exact agree_step hm (h1 e)
   · refine ⟨fun _ => ?_, fun h => absurd (show (k + 1) % 2 = 0 by omega) h⟩
     have hS : mkM a b k = b := if_neg e
     rw [hS] at hm
     rw [stepsB_odd e, resp_of ha hg]
     exact agree_step hm (h2 e)
theorem both_end {a b : List DigP} (ha : checkS a = 0) (hb : checkS b = 0) (la : a.length ≤ 150) (lb : b.length ≤ 150) {x : Nat} (he : (stepsB a b x).way = []) :
 risV (stepsB a b x).l0 = risV (stepsB a b x).o1 ∧ risV (stepsB a b x).l1 = risV (stepsB a b x).o0 := by
 obtain ⟨h1, h2⟩ := stepsB_agree ha hb la lb x
 rw [he] at h1 h2
 by_cases e : x % 2 = 0
 · exact agree_end (h1 e)
 · exact (agree_end (h2 e)).symm

def noClash (S O : List DigP) : Prop := ∀ d, d ∈ S ∨ d ∈ O → ∀ n : Nat, n ≤ 256 → sha (belowV S ((n : Int), maskV d (n : Int) false)).flatten = sha (belowV O ((n : Int), maskV d (n : Int) false)).flatten → belowV S ((n : Int), maskV d (n : Int) false) = belowV O ((n : Int), maskV d (n : Int) false)
theorem noClash_swap {S O : List DigP} (h : noClash S O) : noClash O S := fun d hd n hn he => (h d hd.symm n hn he.symm).symm
theorem pre_of {p : Pre} {d : DigP} (hr : rightB p = true) (hp : p.2.length = 32) (hd : d.length = 32) (hu : underV d p = true) : ∃ n : Nat, n ≤ 256 ∧ p = ((n : Int), maskV d (n : Int) false) := by
 obtain ⟨(m : Int), (e : DigP)⟩ := p
 obtain ⟨r1, r2, r3⟩ := (right_iff (p := (m, e)) hp).1 hr
 have r1 : (0 : Int) ≤ m := r1
 have r2 : (256 : Int) ≥ m := r2
 have r3 : ∀ i : Nat, i < 256 → (i : Int) ≥ m → bitV e i = false := r3
 have hp : e.length = 32 := hp
 have hu : ∀ i, i < Int.toNat m → bitV d i = bitV e i := under_iff.1 hu
 obtain ⟨N, rfl⟩ : ∃ N : Nat, m = N := ⟨m.toNat, by omega⟩
 refine ⟨N, by omega, ?_⟩
 have : e = maskV d (N : Int) false := dig_ext hp (by rw [maskV_len, hd]) fun i hi => by
  rw [mask_bit hd hi]
  by_cases h : (i : Int) < (N : Int)
  · rw [if_pos h]; exact (hu i (by omega)).symm
  · rw [if_neg h]; exact r3 i hi (by omega)
 rw [this]
theorem sum_same {S O : List DigP} {x : Item} {d : DigP} (hn : noClash S O) (h : madeB S x) (k : x.1 = 1) (ht : toV O x = 0) (hd : d ∈ S ∨ d ∈ O) (h32 : d.length = 32) (hu : underV d (iP x) = true) : d ∈ S ↔ d ∈ O := by
 have e := made1 h k
 obtain ⟨n, hn6, ep⟩ := pre_of h.1 h.2.1 h32 hu
 have hs : sha (belowV S (iP x)).flatten = sha (belowV O (iP x)).flatten := by
  unfold toV at ht
  cases q1 : (iN (sumV O (iP x)) == iN x && decide (iH (sumV O (iP x)) = iH x)) with
  | true =>
    rw [Bool.and_eq_true, decide_eq_true_eq] at q1
    have h1 : sha (belowV O (iP x)).flatten = iH x := q1.2
    have h2 : iH x = sha (belowV S (iP x)).flatten := congrArg iH e
    rw [h1, h2]
  | false =>
    rw [q1] at ht
    cases q2 : (decide (iN (sumV O (iP x)) ≤ 8) || x.2.1 == 256) with
    | true => rw [q2] at ht; cases ht
    | false =>
      rw [q2] at ht
      cases q3 : decide (iN x ≤ 8) <;> rw [q3] at ht <;> cases ht
 rw [ep] at hs hu
 have hb := hn d hd n hn6 hs
 have m1 : d ∈ belowV S ((n : Int), maskV d (n : Int) false) ↔ d ∈ S := by
  rw [mem_below]; exact ⟨fun h => h.1, fun h => ⟨h, hu⟩⟩
 have m2 : d ∈ belowV O ((n : Int), maskV d (n : Int) false) ↔ d ∈ O := by
  rw [mem_below]; exact ⟨fun h => h.1, fun h => ⟨h, hu⟩⟩
 rw [← m1, ← m2, hb]
theorem out_covers {S O : List DigP} {x : Item} {d : DigP} (hn : noClash S O) (h : madeB S x) (k4 : ¬ x.1 = 4) (hd : (d ∈ S ∧ ¬ d ∈ O) ∨ (d ∈ O ∧ ¬ d ∈ S)) (h32 : d.length = 32) (hu : underV d (iP x) = true) :
 ∃ y ∈ outV O x, underV d (iP y) = true ∧ (x.1 = 3 ∨ ¬ y.1 = 4) := by
 rcases made_kind h with k | k | k | k
 · obtain ⟨_, _, t0, t1, t2, t3⟩ := outS (l := O) (x := x) (by rw [k]; decide) (by rw [k]; decide) (by rw [k]; decide)
   rcases toV_four O x with q | q | q | q
   · exfalso
     have := sum_same hn h k q (hd.elim (fun h => .inl h.1) (fun h => .inr h.1)) h32 hu
     rcases hd with ⟨h1, h2⟩ | ⟨h1, h2⟩
     · exact h2 (this.1 h1)
     · exact h2 (this.2 h1)
   · rw [(t1 q).1]
     exact ⟨_, List.mem_singleton.2 rfl, hu, .inr (by show ¬ (3 : Int) = _; decide)⟩
   · rw [(t2 q).1]
     exact ⟨_, List.mem_singleton.2 rfl, hu, .inr (by show ¬ (2 : Int) = _; decide)⟩
   · rw [(t3 q).1]
     have hc : (partsV (iP x)).countP (underV d) = if (iP x).1 = (256 : Int) then 0 else if underV d (iP x) = true then 1 else 0 := parts_cov (n := (iP x).1) (e := (iP x).2) (d := d) h.1 h.2.1
     have h6 : ¬ (iP x).1 = (256 : Int) := fun e => by
      unfold toV at q
      have e2 : (x.2.1 == 256) = true := by rw [show x.2.1 = (256 : Int) from e]; rfl
      rw [e2, Bool.or_true] at q
      cases q1 : (iN (sumV O (iP x)) == iN x && decide (iH (sumV O (iP x)) = iH x)) <;> rw [q1] at q <;> cases q
     rw [if_neg h6, if_pos hu] at hc
     have hpos : 0 < (partsV (iP x)).countP (underV d) := by omega
     obtain ⟨q', hq', hu'⟩ := List.countP_pos_iff.1 hpos
     exact ⟨sumV O q', List.mem_map.2 ⟨q', hq', rfl⟩, hu', .inr (by show ¬ (1 : Int) = _; decide)⟩
 · rw [(out2 k).1]
   exact ⟨_, List.mem_singleton.2 rfl, hu, .inr (by show ¬ (3 : Int) = _; decide)⟩
 · rw [(out3 k).1]
   exact ⟨_, List.mem_singleton.2 rfl, hu, .inl k⟩
 · exact absurd k k4
structure Finds (S O : List DigP) (W : List Item) (LO LS : List DigP) : Prop where
 s1 : ∀ d ∈ LO, d ∈ S ∧ ¬ d ∈ O
 s2 : ∀ d ∈ LS, d ∈ O ∧ ¬ d ∈ S
 c1 : ∀ d, d ∈ S → ¬ d ∈ O → d ∈ LO ∨ ∃ x ∈ W, underV d (iP x) = true
 c2 : ∀ d, d ∈ O → ¬ d ∈ S → d ∈ LS ∨ ∃ x ∈ W, ¬ x.1 = 4 ∧ underV d (iP x) = true
theorem finds_step {S O : List DigP} {W : List Item} {LO LS : List DigP} (hS : ∀ d ∈ S, d.length = 32) (hO : ∀ d ∈ O, d.length = 32) (hn : noClash S O) (hm : ∀ x ∈ W, madeB S x) (h : Finds S O W LO LS) :
 Finds O S (W.flatMap (outV O)) LS (LO ++ risV (W.flatMap (lackV O))) := by
 obtain ⟨s1, s2, c1, c2⟩ := h
 refine ⟨s2, fun d hd => ?_, fun d h1 h2 => ?_, fun d h1 h2 => ?_⟩
 · rw [List.mem_append, ris_mem, List.mem_flatMap] at hd
   rcases hd with hd | ⟨x, hx, hd⟩
   · exact s1 d hd
   · by_cases k : x.1 = 3 ∨ x.1 = 4
     · have := (mem_lack (hm x hx) k).1 hd
       exact ⟨this.1, this.2.2⟩
     · rw [lack_no O x k] at hd; cases hd
 · rcases c2 d h1 h2 with h | ⟨x, hx, k4, hu⟩
   · exact .inl h
   · obtain ⟨y, hy, hu', _⟩ := out_covers hn (hm x hx) k4 (.inr ⟨h1, h2⟩) (hO d h1) hu
     exact .inr ⟨y, List.mem_flatMap.2 ⟨x, hx, hy⟩, hu'⟩
 · rw [List.mem_append, ris_mem, List.mem_flatMap]
   rcases c1 d h1 h2 with h | ⟨x, hx, hu⟩
   · exact .inl (.inl h)
   · by_cases k : x.1 = 3 ∨ x.1 = 4
     · exact .inl (.inr ⟨x, hx, (mem_lack (hm x hx) k).2 ⟨h1, hu, h2⟩⟩)
     · obtain ⟨y, hy, hu', h3⟩ := out_covers hn (hm x hx) (fun h => k (.inr h)) (.inl ⟨h1, h2⟩) (hS d h1) hu
       exact .inr ⟨y, List.mem_flatMap.2 ⟨x, hx, hy⟩, h3.resolve_left fun h => k (.inl h), hu'⟩
theorem steps_finds {a b : List DigP} (ha : checkS a = 0) (hb : checkS b = 0) (la : a.length ≤ 150) (lb : b.length ≤ 150) (h1 : ∀ d ∈ a, d.length = 32) (h2 : ∀ d ∈ b, d.length = 32) (hn : noClash a b) : ∀ k,
 (k % 2 = 0 → Finds a b (stepsM a b k).way (stepsM a b k).lb (stepsM a b k).la) ∧ (¬ k % 2 = 0 → Finds b a (stepsM a b k).way (stepsM a b k).la (stepsM a b k).lb)
 | 0 => by
   refine ⟨fun _ => ⟨fun d hd => (nomatch hd), fun d hd => (nomatch hd), fun d _ _ => .inr ⟨sumV a ((0 : Int), zeroD), List.mem_singleton.2 rfl, rfl⟩, fun d _ _ => .inr ⟨sumV a ((0 : Int), zeroD), List.mem_singleton.2 rfl, (by show ¬ (1 : Int) = _; decide), rfl⟩⟩, fun h => absurd rfl h⟩
 | k + 1 => by
   obtain ⟨g1, g2⟩ := steps_finds ha hb la lb h1 h2 hn k
   have hw := way_ok ha hb la lb k
   have hg := way_good ha hb hw.made
   have hm : ∀ x ∈ (stepsM a b k).way, madeB (mkM a b k) x := fun x hx => (hw.made x hx).1
   by_cases e : k % 2 = 0
   · refine ⟨fun h => absurd h (by omega), fun _ => ?_⟩
     have hS : mkM a b k = a := if_pos e
     rw [hS] at hm
     rw [steps_even e, resp_of hb hg]
     exact finds_step h1 h2 hn hm (g1 e)
   · refine ⟨fun _ => ?_, fun h => absurd (show (k + 1) % 2 = 0 by omega) h⟩
     have hS : mkM a b k = b := if_neg e
     rw [hS] at hm
     rw [steps_odd e, resp_of ha hg]
     exact finds_step h2 h1 (noClash_swap hn) hm (g2 e)
theorem less_rises {xs ys : List DigP} (h : ascV xs = true) : (lessV xs ys).Pairwise risesB := (asc_pair.1 h).sublist List.filter_sublist
theorem finds_end {S O : List DigP} {LO LS : List DigP} (hS : ascV S = true) (hO : ascV O = true) (h : Finds S O [] LO LS) : risV LO = lessV S O ∧ risV LS = lessV O S := by
 obtain ⟨s1, s2, c1, c2⟩ := h
 refine ⟨rises_ext (ris_rises _) (less_rises hS) fun d => ?_, rises_ext (ris_rises _) (less_rises hO) fun d => ?_⟩
 · rw [ris_mem, mem_less]
   exact ⟨s1 d, fun h => (c1 d h.1 h.2).elim id fun ⟨x, hx, _⟩ => by cases hx⟩
 · rw [ris_mem, mem_less]
   exact ⟨s2 d, fun h => (c2 d h.1 h.2).elim id fun ⟨x, hx, _⟩ => by cases hx⟩
theorem meet_finds {a b : List DigP} (ha : checkS a = 0) (hb : checkS b = 0) (la : a.length ≤ 150) (lb : b.length ≤ 150) (h1 : ∀ d ∈ a, d.length = 32) (h2 : ∀ d ∈ b, d.length = 32) (hn : noClash a b) : (meetV a b).1 = lessV b a ∧ (meetV a b).2.1 = lessV a b := by
 obtain ⟨x, hx, he, hne⟩ := way_ends ha hb la lb
 have hmeet := meet_is ha hb he hne (by omega)
 obtain ⟨g1, g2⟩ := steps_finds ha hb la lb h1 h2 hn x
 rw [he] at g1 g2
 have a1 := (checkS_zero.1 ha).2
 have b1 := (checkS_zero.1 hb).2
 rw [hmeet]
 by_cases e : x % 2 = 0
 · exact (finds_end a1 b1 (g1 e)).symm
 · exact finds_end b1 a1 (g2 e)
theorem meet_turns {a b : List DigP} (ha : checkS a = 0) (hb : checkS b = 0) (la : a.length ≤ 150) (lb : b.length ≤ 150) : (meetV a b).2.2.2 = 0 ∧ (meetV a b).2.2.1 ≤ (134 : Int) ∧ (a = b → (meetV a b).2.2.1 = (1 : Int)) := by
 obtain ⟨x, hx, he, hne⟩ := way_ends ha hb la lb
 have hmeet := meet_is ha hb he hne (by omega)
 rw [hmeet]
 refine ⟨rfl, by show (x : Int) ≤ 134; omega, fun e => ?_⟩
 subst e
 have h0 : (stepsM a a 0).way ≠ [] := List.cons_ne_nil _ _
 have h1 : (stepsM a a 1).way = [] := by
  have hw := steps_way ha ha (way_ok ha ha la la 0).made
  rw [hw]
  show [sumV a ((0 : Int), zeroD)].flatMap (outV a) = []
  rw [List.flatMap_cons, List.flatMap_nil, List.append_nil]
  have ht : toV a (sumV a ((0 : Int), zeroD)) = 0 := by
   unfold toV
   have : (iN (sumV a (iP (sumV a ((0 : Int), zeroD)))) == iN (sumV a ((0 : Int), zeroD)) && decide (iH (sumV a (iP (sumV a ((0 : Int), zeroD)))) = iH (sumV a ((0 : Int), zeroD)))) = true := by
    rw [Bool.and_eq_true, beq_iff_eq, decide_eq_true_eq]
    exact ⟨rfl, rfl⟩
   rw [this]; rfl
  exact ((outS (l := a) (x := sumV a ((0 : Int), zeroD)) (by show ¬ (1 : Int) = _; decide) (by show ¬ (1 : Int) = _; decide) (by show ¬ (1 : Int) = _; decide)).2.2.1 ht).1
 show (x : Int) = 1
 have hx1 : ¬ 1 < x := fun h => hne 1 h h1
 have hx0 : ¬ x = 0 := fun h => by rw [h] at he; exact h0 he
 omega
end Go.Sal
