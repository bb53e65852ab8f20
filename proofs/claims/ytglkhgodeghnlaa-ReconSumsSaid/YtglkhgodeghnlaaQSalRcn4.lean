/- Two sides that meet: they end, and what is on its way stays small. No program in sight. -/
import Derived.Test.YtglkhgodeghnlaaQSalRcn3
set_option maxRecDepth 100000
namespace Go.Sal
open Go.Vse

def madeB (S : List DigP) (x : Item) : Prop :=
 rightB (iP x) = true ∧ (iP x).2.length = 32 ∧ (x = sumV S (iP x) ∨ x = listI 2 (iP x) [] ∨ x = listI 3 (iP x) (belowV S (iP x)) ∨ x = listI 4 (iP x) (belowV S (iP x)))
theorem made_kind {S : List DigP} {x : Item} (h : madeB S x) : x.1 = 1 ∨ x.1 = 2 ∨ x.1 = 3 ∨ x.1 = 4 := by
 rcases h.2.2 with h | h | h | h
 · exact .inl (by rw [h]; rfl)
 · exact .inr (.inl (by rw [h]; rfl))
 · exact .inr (.inr (.inl (by rw [h]; rfl)))
 · exact .inr (.inr (.inr (by rw [h]; rfl)))
theorem made_sum (S : List DigP) {p : Pre} (h1 : rightB p = true) (h2 : p.2.length = 32) : madeB S (sumV S p) := ⟨h1, h2, .inl rfl⟩
theorem made_ask (S : List DigP) {p : Pre} (h1 : rightB p = true) (h2 : p.2.length = 32) : madeB S (listI 2 p []) := ⟨h1, h2, .inr (.inl rfl)⟩
theorem made_list (S : List DigP) {p : Pre} (h1 : rightB p = true) (h2 : p.2.length = 32) : madeB S (listI 3 p (belowV S p)) := ⟨h1, h2, .inr (.inr (.inl rfl))⟩
theorem made_told (S : List DigP) {p : Pre} (h1 : rightB p = true) (h2 : p.2.length = 32) : madeB S (listI 4 p (belowV S p)) := ⟨h1, h2, .inr (.inr (.inr rfl))⟩
theorem out_cases {O : List DigP} {x y : Item} (hy : y ∈ outV O x) :
 (x.1 = 2 ∧ y = listI 3 (iP x) (belowV O (iP x))) ∨ (x.1 = 3 ∧ y = listI 4 (iP x) (belowV O (iP x))) ∨ ((¬ x.1 = 2 ∧ ¬ x.1 = 3 ∧ ¬ x.1 = 4) ∧ (y = listI 3 (iP x) (belowV O (iP x)) ∨ y = listI 2 (iP x) [] ∨ (toV O x = 3 ∧ ∃ q ∈ partsV (iP x), y = sumV O q))) := by
 unfold outV at hy
 split at hy
 · rename_i h; exact .inl ⟨h, by simpa using hy⟩
 · rename_i h2
   split at hy
   · rename_i h; exact .inr (.inl ⟨h, by simpa using hy⟩)
   · rename_i h3
     split at hy
     · cases hy
     · rename_i h4
       refine .inr (.inr ⟨⟨h2, h3, h4⟩, ?_⟩)
       split at hy
       · cases hy
       · rename_i t0
         split at hy
         · exact .inl (by simpa using hy)
         · rename_i t1
           split at hy
           · exact .inr (.inl (by simpa using hy))
           · rename_i t2
             rw [List.mem_map] at hy
             obtain ⟨q, hq, rfl⟩ := hy
             exact .inr (.inr ⟨(((toV_four O x).resolve_left t0).resolve_left t1).resolve_left t2, q, hq, rfl⟩)
theorem parts_mem' {p q : Pre} (hq : q ∈ partsV p) (hr : rightB p = true) (hd : p.2.length = 32) : rightB q = true ∧ q.2.length = 32 := by
 obtain ⟨m, e, rfl, h1, h2, _⟩ := parts_mem (n := p.1) (d := p.2) hq hr hd
 exact ⟨h2, h1⟩
theorem out_made {S O : List DigP} {x y : Item} (h : madeB S x) (hy : y ∈ outV O x) : madeB O y := by
 obtain ⟨h1, h2, _⟩ := h
 rcases out_cases hy with ⟨_, rfl⟩ | ⟨_, rfl⟩ | ⟨_, rfl | rfl | ⟨_, q, hq, rfl⟩⟩
 · exact made_list O h1 h2
 · exact made_told O h1 h2
 · exact made_list O h1 h2
 · exact made_ask O h1 h2
 · obtain ⟨a, b⟩ := parts_mem' hq h1 h2
   exact made_sum O a b
theorem below_below (l : List DigP) (p : Pre) : belowV (belowV l p) p = belowV l p := by
 unfold belowV
 rw [List.filter_filter]
 congr 1
 funext d
 cases underV d p <;> rfl
theorem check_below {l : List DigP} (p : Pre) (h : checkS l = 0) : checkS (belowV l p) = 0 := by
 obtain ⟨h1, h2⟩ := checkS_zero.1 h
 have := belowV_le l p
 exact checkS_zero.2 ⟨by omega, below_asc p h2⟩
theorem made_good {S : List DigP} {x : Item} (hc : checkS S = 0) (h : madeB S x) : goodB x = true := by
 obtain ⟨h1, h2, h3⟩ := h
 have hle := belowV_le S (iP x)
 have h6 := (checkS_zero.1 hc).1
 have hcb := check_below (iP x) hc
 have hbb := below_below S (iP x)
 generalize hp : iP x = p at *
 have key : ∀ y : Item, iP y = p → (bif y.1 == 1 then decide (0 ≤ iN y) && decide (iN y ≤ 65536) && decide ((iL y).length = 0)
  else bif y.1 == 2 then decide (iN y = 0) && decide (iH y = zeroD) && decide ((iL y).length = 0)
  else (y.1 == 3 || y.1 == 4) && decide (iN y = 0) && decide (iH y = zeroD) && decide (checkS (iL y) = 0) && decide ((belowV (iL y) (iP y)).length = (iL y).length)) = true → goodB y = true := fun y e hy => by
  unfold goodB
  rw [e] at hy ⊢
  rw [h1, hy]; rfl
 refine key x hp ?_
 rw [hp]
 rcases h3 with rfl | rfl | rfl | rfl
 · show (decide (0 ≤ ((belowV S p).length : Int)) && decide (((belowV S p).length : Int) ≤ 65536) && decide (([] : List DigP).length = 0)) = true
   rw [decide_eq_true (by omega), decide_eq_true (by omega)]; rfl
 · show (decide ((0 : Int) = 0) && decide (zeroD = zeroD) && decide (([] : List DigP).length = 0)) = true
   simp
 · show (true && decide ((0 : Int) = 0) && decide (zeroD = zeroD) && decide (checkS (belowV S p) = 0) && decide ((belowV (belowV S p) p).length = (belowV S p).length)) = true
   rw [hcb, hbb]; simp
 · show (true && decide ((0 : Int) = 0) && decide (zeroD = zeroD) && decide (checkS (belowV S p) = 0) && decide ((belowV (belowV S p) p).length = (belowV S p).length)) = true
   rw [hcb, hbb]; simp
theorem made_small {S : List DigP} {x : Item} (h : madeB S x) : (iL x).length ≤ S.length := by
 have hle := belowV_le S (iP x)
 rcases h.2.2 with h | h | h | h
 · rw [h]; exact Nat.zero_le _
 · rw [h]; exact Nat.zero_le _
 · rw [h]; exact hle
 · rw [h]; exact hle

def rankI (x : Item) : Nat := if x.1 = 4 then 1 else if x.1 = 3 then 2 else if x.1 = 2 then 3 else 4 + (257 - x.2.1.toNat) / 2
theorem rank_pos (x : Item) : 1 ≤ rankI x := by
 unfold rankI
 repeat' split
 all_goals omega
theorem rank4 (p : Pre) (l : List DigP) : rankI (listI 4 p l) = 1 := rfl
theorem rank3 (p : Pre) (l : List DigP) : rankI (listI 3 p l) = 2 := rfl
theorem rank2 (p : Pre) (l : List DigP) : rankI (listI 2 p l) = 3 := rfl
theorem rank1 (p : Pre) (l : List DigP) : rankI (sumV l p) = 4 + (257 - p.1.toNat) / 2 := rfl
theorem rank_other {x : Item} (h : ¬ x.1 = 2 ∧ ¬ x.1 = 3 ∧ ¬ x.1 = 4) : rankI x = 4 + (257 - x.2.1.toNat) / 2 := by
 unfold rankI
 rw [if_neg h.2.2, if_neg h.2.1, if_neg h.1]
theorem out_rank {S O : List DigP} {x y : Item} (h : madeB S x) (hy : y ∈ outV O x) : rankI y + 1 ≤ rankI x := by
 obtain ⟨h1, h2, _⟩ := h
 rcases out_cases hy with ⟨k, rfl⟩ | ⟨k, rfl⟩ | ⟨k, rfl | rfl | ⟨_, q, hq, rfl⟩⟩
 · rw [rank3]; unfold rankI; rw [if_neg (by rw [k]; decide), if_neg (by rw [k]; decide), if_pos k]; exact Nat.le_refl _
 · rw [rank4]; unfold rankI; rw [if_neg (by rw [k]; decide), if_pos k]; exact Nat.le_refl _
 · rw [rank3, rank_other k]; omega
 · rw [rank2, rank_other k]; omega
 · rw [rank1, rank_other k]
   obtain ⟨m, e, rfl, _, _, g1, g2, g3⟩ := parts_mem (n := (iP x).1) (d := (iP x).2) hq h1 h2
   obtain ⟨r1, r2, _⟩ := (right_iff (p := iP x) h2).1 h1
   show 4 + (257 - Int.toNat m) / 2 + 1 ≤ 4 + (257 - Int.toNat (iP x).1) / 2
   obtain ⟨n, hn⟩ : ∃ n : Int, (iP x).1 = n := ⟨_, rfl⟩
   rw [hn] at g1 g3 r1 ⊢
   have g1 : (n : Int) < m := g1
   have g3 : (m : Int) = n + 2 ∨ m = 256 := g3
   have r1 : (0 : Int) ≤ n := r1
   obtain ⟨N, hN⟩ : ∃ N : Nat, (n : Int) = N := ⟨Int.toNat n, by omega⟩
   have e1 : Int.toNat n = N := by omega
   rw [e1]
   omega

def covB (d : DigP) (x : Item) : Bool := x.1 == 1 && underV d (iP x)
def covN (d : DigP) (W : List Item) : Nat := W.countP (covB d)
theorem under_two (d e : DigP) (N : Nat) : underV d (((N : Int) + 2 : Int), e) = (underV d ((N : Int), e) && (bitV d N == bitV e N) && (bitV d (N + 1) == bitV e (N + 1))) := by
 unfold underV
 show (List.range (Int.toNat ((N : Int) + 2))).all _ = _
 rw [show Int.toNat ((N : Int) + 2) = N + 1 + 1 by omega, List.range_succ, List.range_succ, List.all_append, List.all_append]
 simp
theorem under_one (d e : DigP) : underV d ((256 : Int), e) = (underV d ((255 : Int), e) && (bitV d 255 == bitV e 255)) := by
 unfold underV
 show (List.range (255 + 1)).all _ = ((List.range 255).all _ && _)
 rw [List.range_succ, List.all_append]
 simp
theorem under_set {d e : DigP} {N i : Nat} (he : e.length = 32) (hi : i < 256) (h : N ≤ i) : underV d ((N : Int), setB e i) = underV d ((N : Int), e) := by
 rw [Bool.eq_iff_iff, under_iff, under_iff]
 constructor
 · intro g j hj
   have hj' : j < N := by have : (Int.toNat (N : Int)) = N := Int.toNat_natCast N; exact this ▸ hj
   have := g j hj
   dsimp only at this
   rw [setB_bit he hi, decide_eq_false (by omega), Bool.false_or] at this
   exact this
 · intro g j hj
   have hj' : j < N := by have : (Int.toNat (N : Int)) = N := Int.toNat_natCast N; exact this ▸ hj
   dsimp only
   rw [setB_bit he hi, decide_eq_false (by omega), Bool.false_or]
   exact g j hj
theorem parts_cov {n : Int} {e d : DigP} (hr : rightB (n, e) = true) (he : e.length = 32) : (partsV (n, e)).countP (underV d) = if n = 256 then 0 else if underV d (n, e) = true then 1 else 0 := by
 obtain ⟨r1, r2, r3⟩ := (right_iff (p := (n, e)) he).1 hr
 have r1 : (0 : Int) ≤ n := r1
 have r2 : (256 : Int) ≥ n := r2
 have r3 : ∀ i : Nat, i < 256 → (i : Int) ≥ n → bitV e i = false := r3
 by_cases h6 : n = 256
 · subst h6; rfl
 · rw [if_neg h6]
   by_cases h5 : n = 255
   · subst h5
     have e1 : partsV ((255 : Int), e) = [((256 : Int), e), ((256 : Int), setB e 255)] := by
      unfold partsV
      rw [if_neg (show ¬ (255 : Int) = 256 by decide), if_pos rfl]
     have z := r3 255 (by decide) (by decide)
     have u2 : underV d ((255 : Int), setB e 255) = underV d ((255 : Int), e) := under_set (N := 255) he (by decide) (Nat.le_refl _)
     have v1 := under_one d e
     have v2 := under_one d (setB e 255)
     rw [setB_bit he (show 255 < 256 by decide), u2, z, decide_eq_true rfl, Bool.true_or] at v2
     rw [z] at v1
     rw [e1, List.countP_cons, List.countP_cons, List.countP_nil, v1, v2]
     cases underV d ((255 : Int), e) <;> cases bitV d 255 <;> rfl
   · obtain ⟨N, rfl⟩ : ∃ N : Nat, n = N := ⟨n.toNat, by omega⟩
     have hN : N + 1 < 256 := by omega
     have e1 : partsV ((N : Int), e) = [((N : Int) + 2, e), ((N : Int) + 2, setB e (N + 1)), ((N : Int) + 2, setB e N), ((N : Int) + 2, setB (setB e N) (N + 1))] := by
      unfold partsV
      rw [if_neg h6, if_neg h5]
      rfl
     have z0 := r3 N (by omega) (by omega)
     have z1 := r3 (N + 1) hN (by omega)
     have u1 : underV d ((N : Int), setB e (N + 1)) = underV d ((N : Int), e) := under_set he hN (by omega)
     have u2 : underV d ((N : Int), setB e N) = underV d ((N : Int), e) := under_set he (by omega) (Nat.le_refl _)
     have u3 : underV d ((N : Int), setB (setB e N) (N + 1)) = underV d ((N : Int), e) := by rw [under_set (by rw [setB_len]; exact he) hN (by omega), u2]
     have hs : (setB e N).length = 32 := by rw [setB_len]; exact he
     have d1 : decide (N + 1 = N) = false := decide_eq_false (by omega)
     have d2 : decide (N = N + 1) = false := decide_eq_false (by omega)
     have d3 : decide (N = N) = true := decide_eq_true rfl
     have d4 : decide (N + 1 = N + 1) = true := decide_eq_true rfl
     have v1 := under_two d e N
     have v2 := under_two d (setB e (N + 1)) N
     have v3 := under_two d (setB e N) N
     have v4 := under_two d (setB (setB e N) (N + 1)) N
     rw [z0, z1] at v1
     rw [u1, setB_bit he hN, setB_bit he hN, z0, d1, d4] at v2
     rw [u2, setB_bit he (by omega), setB_bit he (by omega), z1, d3, d2] at v3
     rw [u3, setB_bit hs hN, setB_bit hs hN, setB_bit he (by omega), z0, d1, d3, d4] at v4
     rw [e1, List.countP_cons, List.countP_cons, List.countP_cons, List.countP_cons, List.countP_nil, v1, v2, v3, v4]
     cases underV d ((N : Int), e) <;> cases bitV d N <;> cases bitV d (N + 1) <;> rfl
theorem map_cov (O : List DigP) (d : DigP) : ∀ ps : List Pre, covN d (ps.map (sumV O)) = ps.countP (underV d)
 | [] => rfl
 | p :: r => by
   have ih := map_cov O d r
   unfold covN at ih ⊢
   rw [List.map_cons, List.countP_cons, List.countP_cons, ih]
   have : covB d (sumV O p) = underV d p := rfl
   rw [this]
theorem out_cov {S O : List DigP} {x : Item} {d : DigP} (h : madeB S x) : covN d (outV O x) ≤ if covB d x = true then 1 else 0 := by
 obtain ⟨h1, h2, _⟩ := id h
 by_cases k1 : x.1 = 1
 · have t := outS (l := O) (x := x) (by rw [k1]; decide) (by rw [k1]; decide) (by rw [k1]; decide)
   obtain ⟨_, _, t0, t1, t2, t3⟩ := t
   rcases toV_four O x with q | q | q | q
   · rw [(t0 q).1]; exact Nat.zero_le _
   · rw [(t1 q).1]
     have : covN d [listI 3 (iP x) (belowV O (iP x))] = 0 := rfl
     rw [this]; exact Nat.zero_le _
   · rw [(t2 q).1]
     have : covN d [listI 2 (iP x) []] = 0 := rfl
     rw [this]; exact Nat.zero_le _
   · rw [(t3 q).1, map_cov]
     have := parts_cov (n := (iP x).1) (e := (iP x).2) (d := d) h1 h2
     have e : covB d x = underV d (iP x) := by unfold covB; rw [k1]; rfl
     rw [e]
     have e2 : (partsV (iP x)).countP (underV d) = if (iP x).1 = 256 then 0 else if underV d (iP x) = true then 1 else 0 := this
     rw [e2]
     split
     · exact Nat.zero_le _
     · exact Nat.le_refl _
 · have : covN d (outV O x) = 0 := by
     unfold covN
     rw [List.countP_eq_zero]
     intro y hy
     rcases out_cases hy with ⟨_, rfl⟩ | ⟨_, rfl⟩ | ⟨⟨a, b, c⟩, _⟩
     · exact Bool.false_ne_true
     · exact Bool.false_ne_true
     · rcases made_kind h with h | h | h | h
       · exact absurd h k1
       · exact absurd h a
       · exact absurd h b
       · exact absurd h c
   rw [this]; exact Nat.zero_le _
theorem flat_cov {S O : List DigP} {d : DigP} : ∀ {W : List Item}, (∀ x ∈ W, madeB S x) → covN d (W.flatMap (outV O)) ≤ covN d W
 | [], _ => Nat.le_refl _
 | x :: r, h => by
   have ih := flat_cov (O := O) (d := d) (W := r) fun y hy => h y (List.mem_cons_of_mem _ hy)
   have h0 := out_cov (O := O) (d := d) (h x (by simp))
   unfold covN at *
   rw [List.flatMap_cons, List.countP_append, List.countP_cons]
   omega
def divB (O : List DigP) (x : Item) : Bool := x.1 == 1 && toV O x == 3
def covS (O : List DigP) (W : List Item) : Nat := (W.map fun x => if x.1 = 1 then (belowV O (iP x)).length else 0).sum
theorem covS_cons (d : DigP) (O : List DigP) : ∀ W : List Item, covS (d :: O) W = covN d W + covS O W
 | [] => rfl
 | x :: r => by
   have ih := covS_cons d O r
   unfold covS covN at *
   rw [List.map_cons, List.sum_cons, List.map_cons, List.sum_cons, List.countP_cons, ih]
   have e : (if x.1 = 1 then (belowV (d :: O) (iP x)).length else 0) = (if covB d x = true then 1 else 0) + (if x.1 = 1 then (belowV O (iP x)).length else 0) := by
    unfold covB belowV
    by_cases k : x.1 = 1
    · rw [if_pos k, if_pos k, show (x.1 == 1) = true by rw [k]; rfl, Bool.true_and, List.filter_cons]
      split
      · rw [List.length_cons]; omega
      · omega
    · rw [if_neg k, if_neg k, show (x.1 == 1) = false by rw [beq_eq_false_iff_ne]; exact k]; rfl
   rw [e]; omega
theorem covS_le : ∀ {O : List DigP} {W : List Item}, (∀ d ∈ O, covN d W ≤ 1) → covS O W ≤ O.length
 | [], W, _ => by
   have : covS [] W = 0 := by
    unfold covS
    induction W with
    | nil => rfl
    | cons x r ih =>
      rw [List.map_cons, List.sum_cons, ih fun d hd => nomatch hd]
      split <;> rfl
   rw [this]; exact Nat.zero_le _
 | d :: O, W, h => by
   have ih := covS_le (O := O) (W := W) fun e he => h e (List.mem_cons_of_mem _ he)
   have := h d (by simp)
   rw [covS_cons, List.length_cons]; omega
theorem div_nine {O : List DigP} {x : Item} (h : divB O x = true) : 9 ≤ (belowV O (iP x)).length := by
 unfold divB at h
 rw [Bool.and_eq_true] at h
 have h2 := h.2
 unfold toV at h2
 cases q1 : (iN (sumV O (iP x)) == iN x && decide (iH (sumV O (iP x)) = iH x)) with
 | true => rw [q1] at h2; cases h2
 | false =>
   cases q2 : (decide (iN (sumV O (iP x)) ≤ 8) || x.2.1 == 256) with
   | true => rw [q1, q2] at h2; cases h2
   | false =>
     rw [Bool.or_eq_false_iff, decide_eq_false_iff_not] at q2
     have : ¬ (((belowV O (iP x)).length : Nat) : Int) ≤ 8 := q2.1
     omega
theorem div_le (O : List DigP) : ∀ W : List Item, 9 * W.countP (divB O) ≤ covS O W
 | [] => Nat.le_refl _
 | x :: r => by
   have ih := div_le O r
   unfold covS at *
   rw [List.map_cons, List.sum_cons, List.countP_cons]
   by_cases h : divB O x = true
   · have h9 := div_nine h
     have k : x.1 = 1 := by
      unfold divB at h
      rw [Bool.and_eq_true] at h
      simpa using h.1
     rw [if_pos h, if_pos k]; omega
   · rw [if_neg h]; omega
theorem flat_len {S O : List DigP} : ∀ {W : List Item}, (∀ x ∈ W, madeB S x) → (W.flatMap (outV O)).length ≤ W.length + 3 * W.countP (divB O)
 | [], _ => Nat.le_refl _
 | x :: r, h => by
   have ih := flat_len (O := O) (W := r) fun y hy => h y (List.mem_cons_of_mem _ hy)
   have hx := h x (by simp)
   rw [List.flatMap_cons, List.length_append, List.length_cons, List.countP_cons]
   have : (outV O x).length ≤ 1 + 3 * (if divB O x = true then 1 else 0) := by
    rcases made_kind hx with k | k | k | k
    · obtain ⟨_, _, t0, t1, t2, t3⟩ := outS (l := O) (x := x) (by rw [k]; decide) (by rw [k]; decide) (by rw [k]; decide)
      rcases toV_four O x with q | q | q | q
      · rw [(t0 q).1]; exact Nat.zero_le _
      · rw [(t1 q).1]
        show 1 ≤ _
        omega
      · rw [(t2 q).1]
        show 1 ≤ _
        omega
      · have : divB O x = true := by unfold divB; rw [k, q]; rfl
        rw [(t3 q).1, List.length_map, if_pos this]
        exact parts_le _
    · rw [(out2 k).1]
      show 1 ≤ _
      omega
    · rw [(out3 k).1]
      show 1 ≤ _
      omega
    · rw [(out4 k).1]
      exact Nat.zero_le _
   omega
theorem onceI_le (xs : List DigP) : ∀ i, (onceI xs i).length ≤ i
 | 0 => Nat.le_refl _
 | i + 1 => by
   have := onceI_le xs i
   rw [onceI_succ]
   split
   · rw [List.length_append, List.length_cons, List.length_nil]; omega
   · omega
theorem ris_le (l : List DigP) : (risV l).length ≤ l.length := by
 unfold risV onceV
 have := onceI_le (sortV l) (sortV l).length
 rw [sort_length] at this ⊢
 exact this
theorem flat_le {f : Item → List DigP} {n : Nat} : ∀ {W : List Item}, (∀ x ∈ W, (f x).length ≤ n) → (W.flatMap f).length ≤ n * W.length
 | [], _ => Nat.le_refl _
 | x :: r, h => by
   have ih := flat_le (f := f) (n := n) (W := r) fun y hy => h y (List.mem_cons_of_mem _ hy)
   have := h x (by simp)
   rw [List.flatMap_cons, List.length_append, List.length_cons, Nat.mul_add]
   omega
end Go.Sal
