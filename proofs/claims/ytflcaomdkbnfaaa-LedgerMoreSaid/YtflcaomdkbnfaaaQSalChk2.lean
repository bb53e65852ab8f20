/- Checkpoints: what bytes, walks and audits say. No program in sight. -/
import Derived.Test.YtflcaomdkbnfaaaQSalChk
namespace Go.Sal
open Go.Vse
theorem ofNat8 {k : Nat} (hk : k < 256) : (BitVec.ofNat 8 k).toNat = k := by rw [BitVec.toNat_ofNat]; exact Nat.mod_eq_of_lt hk
theorem varint_inj : ∀ (n m : Nat) (r s : Bytes), varintN n ++ r = varintN m ++ s → n = m ∧ r = s := by
  intro n
  induction n using Nat.strongRecOn with
  | _ n ih =>
    intro m r s h
    by_cases hn : n < 128
    · rw [varintN_small hn] at h
      by_cases hm : m < 128
      · rw [varintN_small hm] at h
        simp only [List.cons_append, List.nil_append, List.cons.injEq] at h
        refine ⟨?_, h.2⟩
        have e := congrArg BitVec.toNat h.1
        rw [ofNat8 (by omega), ofNat8 (by omega)] at e
        exact e
      · rw [varintN_big hm] at h
        simp only [List.cons_append, List.nil_append, List.cons.injEq] at h
        have e := congrArg BitVec.toNat h.1
        rw [ofNat8 (by omega), ofNat8 (by omega)] at e
        omega
    · rw [varintN_big hn] at h
      by_cases hm : m < 128
      · rw [varintN_small hm] at h
        simp only [List.cons_append, List.nil_append, List.cons.injEq] at h
        have e := congrArg BitVec.toNat h.1
        rw [ofNat8 (by omega), ofNat8 (by omega)] at e
        omega
      · rw [varintN_big hm] at h
        simp only [List.cons_append, List.cons.injEq] at h
        have e := congrArg BitVec.toNat h.1
        rw [ofNat8 (by omega), ofNat8 (by omega)] at e
        obtain ⟨e2, e3⟩ := ih (n / 128) (by omega) (m / 128) r s h.2
        exact ⟨by omega, e3⟩
theorem pies_inj : ∀ (a b : List Pie), a.length = b.length → a.all okPie = true → b.all okPie = true → (∀ p ∈ a, p.1.length = 32) → (∀ p ∈ b, p.1.length = 32) →
    (a.map pieBytes).flatten = (b.map pieBytes).flatten → a = b
  | [], [], _, _, _, _, _, _ => rfl
  | [], _ :: _, h, _, _, _, _, _ => by cases h
  | _ :: _, [], h, _, _, _, _, _ => by cases h
  | p :: a, q :: b, hl, ha, hb, da, db, h => by
    simp only [List.all_cons, Bool.and_eq_true] at ha hb
    simp only [List.map_cons, List.flatten_cons, pieBytes, List.append_assoc] at h
    obtain ⟨e1, e2⟩ := varint_inj _ _ _ _ h
    obtain ⟨e3, e4⟩ := List.append_inj e2 (by rw [da p (by simp), db q (by simp)])
    have e5 := pies_inj a b (by simpa using hl) ha.2 hb.2 (fun x hx => da x (by simp [hx])) (fun x hx => db x (by simp [hx])) e4
    have hp := pie_ok ha.1
    have hq := pie_ok hb.1
    have aux : ∀ x y : Int, 1 ≤ x → 1 ≤ y → x.toNat = y.toNat → x = y := by intro x y; omega
    have e6 := aux p.2 q.2 hp.1 hq.1 e1
    rw [e5]
    congr 1
    exact Prod.ext e3 e6
def fine (r : Rec) : Prop := r.2.2.1.length = 32 ∧ ∀ p ∈ r.2.2.2.2.2.2, p.1.length = 32
theorem ofInt8 {n : Int} (h0 : 0 ≤ n) (h1 : n ≤ 255) : (BitVec.ofInt 8 n).toNat = n.toNat := by
  rw [BitVec.toNat_ofInt, Int.emod_eq_of_lt h0 (by omega)]
def tailB (r : Rec) : Bytes :=
  if r.2.2.2.1 = 1 then [BitVec.ofInt 8 r.2.2.2.2.1]
  else if r.2.2.2.1 = 3 then [BitVec.ofInt 8 r.2.2.2.2.2.1.length] ++ r.2.2.2.2.2.1
  else [BitVec.ofInt 8 r.2.2.2.2.2.1.length] ++ (r.2.2.2.2.2.1 ++ (varintN r.2.2.2.2.2.2.length ++ (r.2.2.2.2.2.2.map pieBytes).flatten))
theorem recBytes_split (r : Rec) : recBytes r = [82#8, BitVec.ofInt 8 r.2.2.2.1] ++ (varintN r.1.toNat ++ (varintN r.2.1.toNat ++ (r.2.2.1 ++ tailB r))) := by
  unfold recBytes tailB headBytes
  split
  · simp
  · split <;> simp
theorem isPath_len {s : Bytes} (h : isPath s = true) : s.length ≤ 255 := path_len h
theorem rec_inj {a b : Rec} (ca : checkV a = 0) (cb : checkV b = 0) (fa : fine a) (fb : fine b) (h : recBytes a = recBytes b) : a = b := by
  obtain ⟨a1, a2, a3, a4, fa'⟩ := check_ok ca
  obtain ⟨b1, b2, b3, b4, fb'⟩ := check_ok cb
  obtain ⟨da, pa⟩ := fa
  obtain ⟨db, pb⟩ := fb
  rw [recBytes_split, recBytes_split] at h
  obtain ⟨x1, x2, x3, x4, x5, x6, x7⟩ := a
  obtain ⟨y1, y2, y3, y4, y5, y6, y7⟩ := b
  simp only [List.cons_append, List.nil_append, List.cons.injEq, true_and] at h
  simp only at a1 a2 a3 a4 b1 b2 b3 b4 da db pa pb
  obtain ⟨hk, h⟩ := h
  obtain ⟨e1, h⟩ := varint_inj _ _ _ _ h
  obtain ⟨e2, h⟩ := varint_inj _ _ _ _ h
  obtain ⟨e3, h⟩ := List.append_inj h (by rw [da, db])
  have aux : ∀ x y : Int, 1 ≤ x → 1 ≤ y → x.toNat = y.toNat → x = y := by intro x y; omega
  have q1 := aux x1 y1 a1 b1 e1
  have q2 := aux x2 y2 a3 b3 e2
  have kin : ∀ {r : Rec}, fitsV r = true → r.2.2.2.1 = (1 : Int) ∨ r.2.2.2.1 = (3 : Int) ∨ r.2.2.2.1 = (2 : Int) := fun h => (fits_parts h).1
  have ka : x4 = (1 : Int) ∨ x4 = (3 : Int) ∨ x4 = (2 : Int) := kin fa'
  have kb : y4 = (1 : Int) ∨ y4 = (3 : Int) ∨ y4 = (2 : Int) := kin fb'
  have bnd : ∀ x : Int, (x = 1 ∨ x = 3 ∨ x = 2) → 0 ≤ x ∧ x ≤ 255 := by intro x; omega
  have hk := congrArg BitVec.toNat hk
  rw [ofInt8 (bnd _ ka).1 (bnd _ ka).2, ofInt8 (bnd _ kb).1 (bnd _ kb).2] at hk
  have aux0 : ∀ x y : Int, 0 ≤ x → 0 ≤ y → x.toNat = y.toNat → x = y := by intro x y; omega
  have q4 := aux0 x4 y4 (bnd _ ka).1 (bnd _ kb).1 hk
  subst q1; subst q2; subst e3; subst q4
  unfold fitsV at fa' fb'
  unfold tailB at h
  simp only at fa' fb' h
  by_cases k1 : x4 = (1 : Int)
  · rw [if_pos k1] at fa' fb' h
    rw [if_pos k1] at h
    simp only [Bool.and_eq_true, Bool.or_eq_true, beq_iff_eq] at fa' fb'
    simp only [List.cons.injEq, and_true] at h
    have s1 : x5 = (0 : Int) ∨ x5 = (1 : Int) := fa'.1.1
    have s2 : y5 = (0 : Int) ∨ y5 = (1 : Int) := fb'.1.1
    have bnd : ∀ x : Int, (x = 0 ∨ x = 1) → 0 ≤ x ∧ x ≤ 255 := by intro x; omega
    have hs := congrArg BitVec.toNat h
    rw [ofInt8 (bnd _ s1).1 (bnd _ s1).2, ofInt8 (bnd _ s2).1 (bnd _ s2).2] at hs
    have q5 := aux0 x5 y5 (bnd _ s1).1 (bnd _ s2).1 hs
    have p1 : x6 = [] := fa'.1.2
    have p2 : y6 = [] := fb'.1.2
    have z1 : x7 = [] := List.eq_nil_of_length_eq_zero (by have := fa'.2; omega)
    have z2 : y7 = [] := List.eq_nil_of_length_eq_zero (by have := fb'.2; omega)
    rw [q5, p1, p2, z1, z2]
  · rw [if_neg k1] at fa' fb' h
    rw [if_neg k1] at h
    have pathEq : ∀ {r s : Bytes}, x6.length ≤ 255 → y6.length ≤ 255 → BitVec.ofInt 8 (x6.length : Int) = BitVec.ofInt 8 (y6.length : Int) → x6 ++ r = y6 ++ s → x6 = y6 ∧ r = s := fun l1 l2 e h => by
      have hs := congrArg BitVec.toNat e
      rw [ofInt8 (by omega) (by omega), ofInt8 (by omega) (by omega)] at hs
      exact List.append_inj h (by omega)
    by_cases k3 : x4 = (3 : Int)
    · rw [if_pos k3] at fa' fb' h
      rw [if_pos k3] at h
      simp only [Bool.and_eq_true, beq_iff_eq] at fa' fb'
      simp only [List.cons_append, List.nil_append, List.cons.injEq] at h
      obtain ⟨q6, _⟩ := pathEq (r := []) (s := []) (isPath_len fa'.2.2) (isPath_len fb'.2.2) h.1 (by rw [List.append_nil, List.append_nil]; exact h.2)
      have s1 : x5 = (0 : Int) := fa'.2.1
      have s2 : y5 = (0 : Int) := fb'.2.1
      have z1 : x7 = [] := List.eq_nil_of_length_eq_zero (by have := fa'.1; omega)
      have z2 : y7 = [] := List.eq_nil_of_length_eq_zero (by have := fb'.1; omega)
      rw [q6, s1, s2, z1, z2]
    · rw [if_neg k3] at fa' fb' h
      rw [if_neg k3] at h
      have k2 : x4 = (2 : Int) := by rcases ka with q | q | q; · exact absurd q k1
                                     · exact absurd q k3
                                     · exact q
      rw [if_pos k2] at fa' fb'
      simp only [Bool.and_eq_true, beq_iff_eq] at fa' fb'
      simp only [List.cons_append, List.nil_append, List.cons.injEq] at h
      obtain ⟨q6, h2⟩ := pathEq (isPath_len fa'.1.2) (isPath_len fb'.1.2) h.1 h.2
      obtain ⟨e7, h3⟩ := varint_inj _ _ _ _ h2
      obtain ⟨_, o1⟩ := size_ok fa'.2
      obtain ⟨_, o2⟩ := size_ok fb'.2
      have q7 := pies_inj x7 y7 e7 o1 o2 pa pb h3
      have s1 : x5 = (0 : Int) := fa'.1.1
      have s2 : y5 = (0 : Int) := fb'.1.1
      rw [q6, s1, s2, q7]

-- walks
theorem nextOk {h : HeadT} {r : Rec} (g : (nextV h r).2 = 0) : checkV r = 0 ∧ followsV h r = true ∧ (nextV h r).1 = (r.1, r.2.1, sha (recBytes r)) := by
  unfold nextV at g ⊢
  split at g
  · rename_i h1
    split at g
    · rename_i h2
      rw [if_pos h1, if_pos h2]; exact ⟨h1, h2, rfl⟩
    · exact absurd g (by decide)
  · rename_i h1
    exact absurd g h1
theorem next_of {h : HeadT} {r : Rec} (c : checkV r = 0) (f : followsV h r = true) : nextV h r = ((r.1, r.2.1, sha (recBytes r)), 0) := by
  unfold nextV; rw [if_pos c, if_pos f]
theorem isHead_next {h : HeadT} {r : Rec} (g : (nextV h r).2 = 0) : isHeadV (nextV h r).1 = true := by
  obtain ⟨c, _, e⟩ := nextOk g
  obtain ⟨a1, a2, a3, a4, _⟩ := check_ok c
  rw [e]
  unfold isHeadV
  rw [Bool.or_eq_true]
  exact .inr (decide_eq_true ⟨a1, a2, a3, a4⟩)
theorem isHead_walk : ∀ (l : List Rec) (h : HeadT) (i : Nat), isHeadV h = true → isHeadV (walkV h l i).1 = true
  | [], _, _, hh => hh
  | r :: l, h, i, hh => by
    unfold walkV
    split
    · rename_i g
      exact isHead_walk l _ _ (isHead_next g)
    · exact hh
theorem walk_take : ∀ (l : List Rec) (h : HeadT) (i k : Nat), (walkV h l i).2.2 = 0 → (walkV h (l.take k) i).2.2 = 0
  | [], _, _, k, _ => by rw [List.take_nil]; rfl
  | r :: l, h, i, 0, _ => rfl
  | r :: l, h, i, k + 1, g => by
    rw [List.take_succ_cons]
    unfold walkV at g ⊢
    by_cases g1 : (nextV h r).2 = 0
    · rw [if_pos g1] at g ⊢
      exact walk_take l _ _ k g
    · rw [if_neg g1] at g
      exact absurd g g1
theorem walk_seq : ∀ (l : List Rec) (h : HeadT) (i : Nat), (walkV h l i).2.2 = 0 → (walkV h l i).1.1 = (h.1 + (l.length : Int) : Int)
  | [], h, i, _ => (Int.add_zero _).symm
  | r :: l, h, i, g => by
    unfold walkV at g ⊢
    by_cases g1 : (nextV h r).2 = 0
    · rw [if_pos g1] at g ⊢
      have h2 := walk_seq l (nextV h r).1 (i + 1) g
      obtain ⟨_, h3, h4⟩ := nextOk g1
      rw [h2, h4]
      unfold followsV at h3
      simp only [Bool.and_eq_true, decide_eq_true_eq] at h3
      have aux : ∀ (x y : Int) (n : Nat), x - 1 = y → x + (n : Int) = y + ((n + 1 : Nat) : Int) := by intro x y n; omega
      exact aux r.1 h.1 l.length h3.1.1
    · rw [if_neg g1] at g
      exact absurd g g1
theorem walk_snoc : ∀ (l : List Rec) (h : HeadT) (i : Nat) (r : Rec), (walkV h (l ++ [r]) i).2.2 = 0 → (walkV h l i).2.2 = 0 ∧ (nextV (walkV h l i).1 r).2 = 0 ∧ (walkV h (l ++ [r]) i).1 = (nextV (walkV h l i).1 r).1
  | [], h, i, r, g => by
    rw [List.nil_append] at g ⊢
    unfold walkV at g ⊢
    by_cases g1 : (nextV h r).2 = 0
    · rw [if_pos g1] at g ⊢
      exact ⟨rfl, g1, rfl⟩
    · rw [if_neg g1] at g
      exact absurd g g1
  | x :: l, h, i, r, g => by
    rw [List.cons_append] at g ⊢
    unfold walkV at g ⊢
    by_cases g1 : (nextV h x).2 = 0
    · rw [if_pos g1] at g ⊢
      rw [if_pos g1]
      exact walk_snoc l _ _ r g
    · rw [if_neg g1] at g
      exact absurd g g1
theorem make_ok {h : HeadT} {r : Rec} (g : (makeV h r).2 = 0) : (makeV h r).1 = madeV h r ∧ checkV (madeV h r) = 0 ∧ followsV h (madeV h r) = true := by
  unfold makeV at g ⊢
  split at g
  · rename_i h1
    split at g
    · rename_i h2
      split at g
      · rename_i h3
        rw [if_pos h1, if_pos h2, if_pos h3]; exact ⟨rfl, h2, h3⟩
      · exact absurd g (by decide)
    · rename_i h2
      exact absurd g h2
  · exact absurd g (by decide)
theorem walk_chain : ∀ (l : List Rec) (h : HeadT) (i : Nat), (walkV h (chainL h l) i).2.2 = 0
  | [], _, _ => rfl
  | r :: l, h, i => by
    unfold chainL
    by_cases g : (makeV h r).2 = 0
    · rw [if_pos g]
      obtain ⟨e, c, f⟩ := make_ok g
      have hn := next_of c f
      rw [e]
      unfold walkV
      rw [if_pos (by rw [hn])]
      exact walk_chain l _ _
    · rw [if_neg g]
      exact walk_chain l h i
theorem few_len : ∀ (n : Nat) (l : List Rec), (fewT n l).length ≤ n
  | 0, _ => Nat.le_refl _
  | _ + 1, [] => Nat.zero_le _
  | n + 1, r :: l => by
    unfold fewT
    split
    · exact Nat.zero_le _
    · have := few_len n l
      simp; omega
theorem few_mem : ∀ (n : Nat) (l : List Rec), ∀ r ∈ fewT n l, r ∈ l ∧ r.2.2.2.2.2.2.length ≤ 60
  | 0, _, r, h => by cases h
  | _ + 1, [], r, h => by cases h
  | n + 1, x :: l, r, h => by
    unfold fewT at h
    split at h
    · cases h
    · rename_i g
      rw [List.mem_cons] at h
      rcases h with rfl | h
      · exact ⟨by simp, by omega⟩
      · obtain ⟨h1, h2⟩ := few_mem n l r h
        exact ⟨by simp [h1], h2⟩
theorem chain_len : ∀ (l : List Rec) (h : HeadT), (chainL h l).length ≤ l.length
  | [], _ => Nat.le_refl _
  | r :: l, h => by
    unfold chainL
    split
    · have := chain_len l (nextV h (makeV h r).1).1
      simp; omega
    · have := chain_len l h
      simp; omega
theorem chain_fine : ∀ (l : List Rec) (h : HeadT), h.2.2.length = 32 → (∀ r ∈ l, fine r) → ∀ r ∈ chainL h l, fine r
  | [], _, _, _, r, hr => by cases hr
  | x :: l, h, hh, hf, r, hr => by
    unfold chainL at hr
    split at hr
    · rename_i g
      obtain ⟨e, c, f⟩ := make_ok g
      have hn := next_of c f
      rw [e, hn, List.mem_cons] at hr
      rcases hr with rfl | hr
      · exact ⟨hh, (hf x (by simp)).2⟩
      · exact chain_fine l _ (sha_length _) (fun y hy => hf y (by simp [hy])) r hr
    · exact chain_fine l h hh (fun y hy => hf y (by simp [hy])) r hr
theorem few_fine {l : List Rec} (h : ∀ r ∈ l, fine r) (n : Nat) : ∀ r ∈ fewT n l, fine r := fun r hr => h r (few_mem n l r hr).1
/-- the last record of a beginning that holds -/
theorem walk_last {a : List Rec} {k : Nat} (hk : k < a.length) (w : (walkV head0 (a.take (k + 1)) 0).2.2 = 0) :
    checkV (a.getD k T_Rec.dflt) = 0 ∧ (walkV head0 (a.take (k + 1)) 0).1.2.2 = sha (recBytes (a.getD k T_Rec.dflt)) ∧ (a.getD k T_Rec.dflt).2.2.1 = (walkV head0 (a.take k) 0).1.2.2 := by
  rw [take_snoc' (d := T_Rec.dflt) hk] at w ⊢
  obtain ⟨_, g, e⟩ := walk_snoc _ _ _ _ w
  obtain ⟨c, f, e2⟩ := nextOk g
  rw [e, e2]
  unfold followsV at f
  simp only [Bool.and_eq_true, beq_iff_eq] at f
  exact ⟨c, rfl, f.1.2⟩
theorem twice_of {a b : Rec} (ca : checkV a = 0) (cb : checkV b = 0) (fa : fine a) (fb : fine b) (he : sha (recBytes a) = sha (recBytes b)) (hne : ¬ a = b) : twiceV a b = true := by
  unfold twiceV alikeV
  rw [bytesV_ok ca, bytesV_ok cb]
  simp only [Bool.and_eq_true, decide_eq_true_eq, Bool.not_eq_true', beq_eq_false_iff_ne, ne_eq, beq_iff_eq]
  exact ⟨⟨⟨trivial, trivial⟩, fun h => hne (rec_inj ca cb fa fb h)⟩, he⟩
/-- where two beginnings have one head: behind what is alike, the record ahead of it is alike, or a collision -/
theorem back_step {a b : List Rec} {n k : Nat} (ha : n ≤ a.length) (hb : n ≤ b.length) (fa : ∀ r ∈ a, fine r) (fb : ∀ r ∈ b, fine r) (wa : (walkV head0 (a.take n) 0).2.2 = 0) (wb : (walkV head0 (b.take n) 0).2.2 = 0)
    (he : (walkV head0 (a.take n) 0).1 = (walkV head0 (b.take n) 0).1) (hk : k < n) (h : ∀ j, k + 1 ≤ j → j < n → a.getD j T_Rec.dflt = b.getD j T_Rec.dflt) :
    a.getD k T_Rec.dflt = b.getD k T_Rec.dflt ∨ twiceV (a.getD k T_Rec.dflt) (b.getD k T_Rec.dflt) = true := by
  have wk : ∀ (c : List Rec), n ≤ c.length → (walkV head0 (c.take n) 0).2.2 = 0 → ∀ j, j ≤ n → (walkV head0 (c.take j) 0).2.2 = 0 := fun c _ w j hj => by
    have := walk_take _ _ _ j w
    rw [List.take_take, Nat.min_eq_left hj] at this
    exact this
  have hch : (walkV head0 (a.take (k + 1)) 0).1.2.2 = (walkV head0 (b.take (k + 1)) 0).1.2.2 := by
    by_cases hn : k + 1 = n
    · rw [hn, he]
    · have e := h (k + 1) (Nat.le_refl _) (by omega)
      have l1 := walk_last (a := a) (k := k + 1) (by omega) (wk a ha wa _ (by omega))
      have l2 := walk_last (a := b) (k := k + 1) (by omega) (wk b hb wb _ (by omega))
      rw [← l1.2.2, ← l2.2.2, e]
  have l1 := walk_last (a := a) (k := k) (by omega) (wk a ha wa _ (by omega))
  have l2 := walk_last (a := b) (k := k) (by omega) (wk b hb wb _ (by omega))
  by_cases e : a.getD k T_Rec.dflt = b.getD k T_Rec.dflt
  · exact .inl e
  · refine .inr (twice_of l1.1 l2.1 (fa _ ?_) (fb _ ?_) (by rw [← l1.2.1, ← l2.2.1, hch]) e)
    · rw [getD_lt (show k < a.length by omega)]; exact List.getElem_mem _
    · rw [getD_lt (show k < b.length by omega)]; exact List.getElem_mem _
theorem back_all {a b : List Rec} {n : Nat} (ha : n ≤ a.length) (hb : n ≤ b.length) (fa : ∀ r ∈ a, fine r) (fb : ∀ r ∈ b, fine r) (wa : (walkV head0 (a.take n) 0).2.2 = 0) (wb : (walkV head0 (b.take n) 0).2.2 = 0)
    (he : (walkV head0 (a.take n) 0).1 = (walkV head0 (b.take n) 0).1) : ∀ d : Nat, d ≤ n → (∀ j, n - d ≤ j → j < n → a.getD j T_Rec.dflt = b.getD j T_Rec.dflt) ∨ ∃ j, j < n ∧ twiceV (a.getD j T_Rec.dflt) (b.getD j T_Rec.dflt) = true
  | 0, _ => .inl fun j h1 h2 => by omega
  | d + 1, hd => by
    rcases back_all ha hb fa fb wa wb he d (by omega) with h | h
    · rcases back_step (k := n - (d + 1)) ha hb fa fb wa wb he (by omega) (fun j h1 h2 => h j (by omega) h2) with e | e
      · refine .inl fun j h1 h2 => ?_
        by_cases hj : j = n - (d + 1)
        · rw [hj]; exact e
        · exact h j (by omega) h2
      · exact .inr ⟨_, by omega, e⟩
    · exact .inr h
theorem has_ok {l : List Rec} {h : HeadT} (g : hasV l h = true) : 0 ≤ h.1 ∧ h.1 ≤ (l.length : Int) ∧ (walkV head0 (l.take h.1.toNat) 0).2.2 = 0 ∧ (walkV head0 (l.take h.1.toNat) 0).1 = h := by
  unfold hasV at g
  split at g
  · rename_i q
    simp only [Bool.and_eq_true, decide_eq_true_eq] at g
    exact ⟨q.1, q.2, g.1, g.2⟩
  · cases g
theorem first_none : ∀ (p : Mark → Bool) (l : List Mark) (i : Nat), firstV p l i = none → ∀ m ∈ l, p m = false
  | _, [], _, _, m, hm => by cases hm
  | p, x :: l, i, h, m, hm => by
    unfold firstV at h
    split at h
    · cases h
    · rename_i g
      rw [List.mem_cons] at hm
      rcases hm with rfl | hm
      · simpa using g
      · exact first_none p l (i + 1) h m hm
theorem audit_says {key : Bytes} {l : List Rec} {ms : List Mark} (h : (auditV key l ms).1 = 6) : (walkV head0 l 0).2.2 = 0 ∧ ∀ m ∈ ms, sealedV key m = true ∧ hasV l (headM m) = true := by
  have n6 : ∀ (k a b : Int), ¬ k = 6 → ((k, a, b) : Fin3).1 = 6 → False := fun k a b h e => h e
  unfold auditV at h
  split at h
  · rename_i hw
    split at h
    · exact (n6 _ _ _ (by decide) h).elim
    · rename_i h1
      split at h
      · exact (n6 _ _ _ (by decide) h).elim
      · split at h
        · exact (n6 _ _ _ (by decide) h).elim
        · rename_i h3
          split at h
          · exact (n6 _ _ _ (by decide) h).elim
          · rename_i h4
            refine ⟨hw, fun m hm => ⟨?_, ?_⟩⟩
            · have := first_none _ _ _ h1 m hm
              simpa using this
            · have e3 := first_none _ _ _ h3 m hm
              have e4 := first_none _ _ _ h4 m hm
              unfold failV at e3 e4
              simp only [Bool.or_eq_false_iff, Bool.and_eq_false_iff, decide_eq_false_iff_not, Bool.not_eq_false', decide_eq_true_eq] at e3 e4
              have hlen : ¬ (l.length : Int) < m.2.1 := by
                rcases e4.2 with q | q
                · exact absurd trivial q
                · exact q
              rcases e3.1 with (q | q) | q
              · exact absurd trivial q
              · exact absurd q hlen
              · exact q
  · exact (n6 _ _ _ (by decide) h).elim
theorem coll_of : ∀ (a b : List Rec) (j : Nat), j < a.length → j < b.length → twiceV (a.getD j T_Rec.dflt) (b.getD j T_Rec.dflt) = true → collV a b = true
  | [], _, j, h, _, _ => by cases h
  | _ :: _, [], j, _, h, _ => by cases h
  | x :: a, y :: b, 0, _, _, h => by
    unfold collV
    rw [List.zip_cons_cons, List.any_cons, Bool.or_eq_true]; exact .inl h
  | x :: a, y :: b, j + 1, h1, h2, h => by
    have := coll_of a b j (by simpa using h1) (by simpa using h2) h
    unfold collV at this ⊢
    rw [List.zip_cons_cons, List.any_cons, Bool.or_eq_true]; exact .inr this
theorem getD_take {l : List Rec} {j k : Nat} (h : j < k) : (l.take k).getD j T_Rec.dflt = l.getD j T_Rec.dflt := by
  rw [List.getD_eq_getElem?_getD, List.getD_eq_getElem?_getD, List.getElem?_take, if_pos h]
/-- a catalogue that has the head of a beginning has that beginning, or a collision -/
theorem has_take {a c : List Rec} {p : Nat} (hp : p ≤ a.length) (fa : ∀ r ∈ a, fine r) (fc : ∀ r ∈ c, fine r) (wa : (walkV head0 (a.take p) 0).2.2 = 0) (h : hasV c (walkV head0 (a.take p) 0).1 = true) :
    (p ≤ c.length ∧ ∀ j, j < p → c.getD j T_Rec.dflt = a.getD j T_Rec.dflt) ∨ collV c (a.take p) = true := by
  obtain ⟨h0, h1, h2, h3⟩ := has_ok h
  have hs := walk_seq _ _ _ wa
  rw [List.length_take, Nat.min_eq_left hp] at hs
  have hs : (walkV head0 (a.take p) 0).1.1 = ((p : Nat) : Int) := by
    rw [hs]; show (0 : Int) + (p : Int) = p; omega
  rw [hs] at h1 h2 h3
  have e : ((p : Nat) : Int).toNat = p := Int.toNat_natCast p
  rw [e] at h2 h3
  have hc : p ≤ c.length := Int.ofNat_le.1 h1
  rcases back_all hc hp fc fa h2 wa h3 p (Nat.le_refl _) with g | ⟨j, hj, g⟩
  · exact .inl ⟨hc, fun j hj => g j (by omega) hj⟩
  · refine .inr (coll_of c (a.take p) j (by omega) (by rw [List.length_take]; omega) ?_)
    rw [getD_take hj]; exact g
end Go.Sal
