/- Checkpoints: bytes there and back, marks that part. No program in sight. -/
import Derived.Test.YtflcaomdkbnfaaaQSalChk2
set_option maxRecDepth 100000
namespace Go.Sal
open Go.Vse
theorem read_varint : ∀ (n : Nat) (i x : Nat) (r : Bytes), i + (varintN n).length ≤ 9 → (0 < i → 0 < n) → readN (varintN n ++ r) i x = (x + n * 128 ^ i, i + (varintN n).length, 0) := by
  intro n
  induction n using Nat.strongRecOn with
  | _ n ih =>
    intro i x r hl hpos
    by_cases hn : n < 128
    · rw [varintN_small hn] at hl ⊢
      simp only [List.length_cons, List.length_nil] at hl
      rw [List.cons_append, List.nil_append, readN]
      have hb : (BitVec.ofNat 8 n).toNat = n := ofNat8 (by omega)
      rw [if_neg (fun h => by
        rcases h with ⟨h, _⟩ | ⟨h, e⟩
        · omega
        · have := congrArg BitVec.toNat e
          rw [hb] at this
          have h0 : n = 0 := this
          have := hpos h
          omega), if_pos (by rw [hb]; exact hn), hb]
      rfl
    · rw [varintN_big hn] at hl ⊢
      simp only [List.length_cons] at hl
      rw [List.cons_append, readN]
      have hb : (BitVec.ofNat 8 (n % 128 + 128)).toNat = n % 128 + 128 := ofNat8 (by omega)
      rw [if_neg (fun h => by
        rcases h with ⟨h, _⟩ | ⟨h, e⟩
        · have := varintN_length_pos (n / 128)
          omega
        · have := congrArg BitVec.toNat e
          rw [hb] at this
          have h0 : n % 128 + 128 = 0 := this
          omega), if_neg (by rw [hb]; omega), hb]
      rw [ih (n / 128) (by omega) (i + 1) _ r (by omega) (fun _ => by omega)]
      simp only [List.length_cons, Prod.mk.injEq, and_true]
      refine ⟨?_, by omega⟩
      have e : n % 128 + 128 - 128 = n % 128 := by omega
      rw [e, Nat.pow_succ, Nat.add_assoc]
      congr 1
      have e2 : n / 128 * (128 ^ i * 128) = (n / 128 * 128) * 128 ^ i := by rw [Nat.mul_comm (128 ^ i) 128, Nat.mul_assoc]
      rw [e2, ← Nat.add_mul]
      congr 1
      omega
theorem read_back : ∀ (b : Bytes) (i x v k : Nat), readN b i x = (v, k, 0) → ∃ n, v = x + n * 128 ^ i ∧ k = i + (varintN n).length ∧ b = varintN n ++ b.drop (k - i) ∧ (0 < i → 0 < n)
  | [], i, x, v, k, h => by simp [readN] at h
  | c :: r, i, x, v, k, h => by
    unfold readN at h
    split at h
    · simp at h
    · rename_i hbad
      have hc := c.isLt
      split at h
      · rename_i hlt
        simp only [Prod.mk.injEq, and_true] at h
        refine ⟨c.toNat, h.1.symm, by rw [varintN_small hlt]; simp; omega, ?_, fun hi => ?_⟩
        · have e : k - i = 1 := by omega
          rw [varintN_small hlt, e]
          simp
        · rcases Nat.eq_zero_or_pos c.toNat with h0 | h0
          · exact absurd (.inr ⟨hi, BitVec.eq_of_toNat_eq h0⟩) hbad
          · exact h0
      · rename_i hge
        obtain ⟨n, h1, h2, h3, h4⟩ := read_back r (i + 1) _ v k h
        have hn := h4 (by omega)
        have hv : varintN (c.toNat - 128 + 128 * n) = c :: varintN n := by
          rw [varintN_big (by omega)]
          have e1 : (c.toNat - 128 + 128 * n) % 128 = c.toNat - 128 := by omega
          have e2 : (c.toNat - 128 + 128 * n) / 128 = n := by omega
          rw [e1, e2]
          congr 1
          apply BitVec.eq_of_toNat_eq
          rw [ofNat8 (by omega)]
          omega
        refine ⟨c.toNat - 128 + 128 * n, ?_, ?_, ?_, fun _ => by omega⟩
        · rw [h1, Nat.pow_succ, Nat.add_assoc]
          congr 1
          rw [Nat.add_mul, Nat.mul_comm (128 ^ i) 128, ← Nat.mul_assoc, Nat.mul_comm n 128]
        · rw [hv, List.length_cons]; omega
        · have e : k - i = (k - (i + 1)) + 1 := by omega
          rw [hv, List.cons_append, e, List.drop_succ_cons, ← h3]
theorem readN_lt : ∀ (b : Bytes) (i x : Nat), i ≤ 9 → x < 128 ^ i → (readN b i x).2.2 = 0 → (readN b i x).1 < 18446744073709551616
  | [], i, x, _, _, h => by simp [readN] at h
  | c :: r, i, x, hi, hx, h => by
    unfold readN at h ⊢
    split at h
    · simp at h
    · rename_i hbad
      rw [if_neg hbad]
      split at h
      · rename_i hlt
        rw [if_pos hlt]
        have h7 := fits7 hi hlt hbad
        rw [Nat.mod_eq_of_lt hlt] at h7
        show x + c.toNat * 128 ^ i < _
        rcases Nat.lt_or_ge i 9 with h9 | h9
        · have g := grow7 hx hlt
          have : 128 ^ (i + 1) ≤ 9223372036854775808 := pow128_le (by omega)
          omega
        · have e : i = 9 := by omega
          subst e
          have hc1 : c = 1#8 := by
            by_cases e : c = 1#8
            · exact e
            · exact absurd (.inl ⟨rfl, e⟩) hbad
          subst hc1
          have e2 : (1#8).toNat = 1 := rfl
          have e3 : (128 : Nat) ^ 9 = 9223372036854775808 := by decide
          rw [e2, e3]
          rw [e3] at hx
          omega
      · rename_i hge
        rw [if_neg hge]
        have hc := c.isLt
        have h9 : i < 9 := by
          rcases Nat.lt_or_ge i 9 with h | h
          · exact h
          · have e : i = 9 := by omega
            exact absurd (.inl ⟨e, fun e2 => by subst e2; exact hge (by decide)⟩) hbad
        exact readN_lt r (i + 1) _ (by omega) (grow7 hx (by omega)) h
/-- bytes that begin with a number -/
theorem mnum_varint {n : Nat} (hn : n ≤ 1073741824) (r : Bytes) : mnumV (varintN n ++ r) = ((n : Int), r) := by
  have hl : (varintN n).length ≤ 5 := varintN_length 4 n (Nat.lt_of_le_of_lt hn (by decide))
  have e := read_varint n 0 0 r (by omega) (fun h => by omega)
  simp only [Nat.zero_add, Nat.pow_zero, Nat.mul_one] at e
  have hb : numB (varintN n ++ r) = n := by
    unfold numB
    rw [e, BitVec.toNat_ofNat]
    exact Nat.mod_eq_of_lt (by omega)
  unfold mnumV
  rw [hb, e, if_pos ⟨rfl, hn⟩]
  simp
theorem mnum_back {b : Bytes} (h : 0 ≤ (mnumV b).1) : ∃ n : Nat, (mnumV b).1 = (n : Int) ∧ n ≤ 1073741824 ∧ b = varintN n ++ (mnumV b).2 := by
  unfold mnumV at h ⊢
  split at h
  · rename_i g
    rw [if_pos g]
    have hlt := readN_lt b 0 0 (by omega) (by decide) g.1
    have hb : numB b = (readN b 0 0).1 := by
      unfold numB
      rw [BitVec.toNat_ofNat]
      exact Nat.mod_eq_of_lt hlt
    have e : readN b 0 0 = ((readN b 0 0).1, (readN b 0 0).2.1, 0) := Prod.ext rfl (Prod.ext rfl g.1)
    obtain ⟨n, h1, h2, h3, _⟩ := read_back b 0 0 _ _ e
    simp only [Nat.zero_add, Nat.pow_zero, Nat.mul_one, Nat.sub_zero] at h1 h2 h3
    exact ⟨numB b, rfl, g.2, by rw [hb, h1]; exact h3⟩
  · exact absurd h (by decide)
theorem may_nat {m : Mark} (h : mayV m = true) : (m.1 = (0 : Int) ∨ m.1 = (1 : Int)) ∧ (m.2.1 = ((m.2.1.toNat : Nat) : Int) ∧ m.2.1.toNat ≤ 1073741824) ∧ (m.2.2.1 = ((m.2.2.1.toNat : Nat) : Int) ∧ m.2.2.1.toNat ≤ 1073741824) := by
  unfold mayV isHeadV headM head0 at h
  simp only [Bool.and_eq_true, Bool.or_eq_true, decide_eq_true_eq, Prod.mk.injEq] at h
  have aux : ∀ x y : Int, ((x = 0 ∧ y = 0) ∨ (1 ≤ x ∧ x ≤ 1073741824 ∧ 1 ≤ y ∧ y ≤ 1073741824)) → (x = ((x.toNat : Nat) : Int) ∧ x.toNat ≤ 1073741824) ∧ (y = ((y.toNat : Nat) : Int) ∧ y.toNat ≤ 1073741824) := by intro x y; omega
  obtain ⟨a1, a2⟩ := aux _ _ (h.2.imp (fun q => ⟨q.1, q.2.1⟩) id)
  exact ⟨h.1, a1, a2⟩
theorem parse_bytes {m : Mark} (h : mayV m = true) (hc : m.2.2.2.1.length = 32) (hm : m.2.2.2.2.length = 32) : parseM (mbodyV m ++ m.2.2.2.2) = (m, 0) := by
  obtain ⟨h1, ⟨h2, h3⟩, ⟨h4, h5⟩⟩ := may_nat h
  have e0 : mbodyV m ++ m.2.2.2.2 = 77#8 :: BitVec.ofInt 8 m.1 :: (varintN m.2.1.toNat ++ (varintN m.2.2.1.toNat ++ (m.2.2.2.1 ++ m.2.2.2.2))) := by
    unfold mbodyV; simp
  have e1 : mnumV ((mbodyV m ++ m.2.2.2.2).drop 2) = (m.2.1, varintN m.2.2.1.toNat ++ (m.2.2.2.1 ++ m.2.2.2.2)) := by
    rw [e0]
    show mnumV (varintN m.2.1.toNat ++ _) = _
    rw [mnum_varint h3, ← h2]
  have e2 : mnumV (mnumV ((mbodyV m ++ m.2.2.2.2).drop 2)).2 = (m.2.2.1, m.2.2.2.1 ++ m.2.2.2.2) := by
    rw [e1]
    show mnumV (varintN m.2.2.1.toNat ++ _) = _
    rw [mnum_varint h5, ← h4]
  have e3 : parseAt (mbodyV m ++ m.2.2.2.2) = m := by
    unfold parseAt
    rw [e2, e1, e0]
    have hs : (((77#8 :: BitVec.ofInt 8 m.1 :: (varintN m.2.1.toNat ++ (varintN m.2.2.1.toNat ++ (m.2.2.2.1 ++ m.2.2.2.2)))).getD 1 0#8).toNat : Int) = m.1 := by
      show (((BitVec.ofInt 8 m.1).toNat : Nat) : Int) = m.1
      rcases h1 with h1 | h1 <;> rw [h1] <;> rfl
    rw [hs, ← hc, List.take_left, List.drop_left]
  unfold parseM
  rw [e3, e2, if_pos ⟨by rw [e0]; simp, by rw [e0]; rfl, by simp [hc, hm], h⟩]
theorem bytes_parse {b : Bytes} (h : (parseM b).2 = 0) : mbytesV (parseM b).1 = (b, 0) := by
  unfold parseM at h ⊢
  split at h
  · rename_i g
    rw [if_pos g]
    obtain ⟨h2, h77, h64, hm⟩ := g
    unfold mbytesV
    rw [if_pos hm]
    obtain ⟨m1, ⟨m2, m3⟩, ⟨m4, m5⟩⟩ := may_nat hm
    have s0 : (parseAt b).2.1 = (mnumV (b.drop 2)).1 := rfl
    have t0 : (parseAt b).2.2.1 = (mnumV (mnumV (b.drop 2)).2).1 := rfl
    obtain ⟨n, n1, n2, n3⟩ := mnum_back (b := b.drop 2) (by rw [← s0, m2]; exact Int.natCast_nonneg _)
    obtain ⟨k, k1, k2, k3⟩ := mnum_back (b := (mnumV (b.drop 2)).2) (by rw [← t0, m4]; exact Int.natCast_nonneg _)
    have en : (parseAt b).2.1.toNat = n := by rw [s0, n1]; exact Int.toNat_natCast n
    have ek : (parseAt b).2.2.1.toNat = k := by rw [t0, k1]; exact Int.toNat_natCast k
    have hsite : BitVec.ofInt 8 (parseAt b).1 = b.getD 1 0#8 := by
      show BitVec.ofInt 8 (((b.getD 1 0#8).toNat : Nat) : Int) = _
      apply BitVec.eq_of_toNat_eq
      rw [ofInt8 (Int.natCast_nonneg _) (by have := (b.getD 1 0#8).isLt; omega)]
      exact Int.toNat_natCast _
    have hb : b = 77#8 :: b.getD 1 0#8 :: b.drop 2 := by
      match b, h2, h77 with
      | x :: y :: r, _, h77 =>
        have : x = 77#8 := h77
        rw [this]; rfl
    have e : mbodyV (parseAt b) ++ (parseAt b).2.2.2.2 = b := by
      unfold mbodyV
      rw [en, ek, hsite]
      have ec : (parseAt b).2.2.2.1 = (mnumV (mnumV (b.drop 2)).2).2.take 32 := rfl
      have em : (parseAt b).2.2.2.2 = (mnumV (mnumV (b.drop 2)).2).2.drop 32 := rfl
      rw [ec, em]
      conv => rhs; rw [hb, n3, k3]
      simp
    rw [e]
  · exact absurd h (by decide)
theorem alike_set {mac : Bytes} {k : Nat} (hk : k < mac.length) (x : B8) : alikeV (mac.set k (mac.getD k 0#8 ^^^ x)) mac = (x == 0#8) := by
  unfold alikeV
  rw [Bool.eq_iff_iff]
  simp only [beq_iff_eq]
  constructor
  · intro h
    have := congrArg (fun l => l[k]?) h
    simp only [List.getElem?_set_self hk, List.getElem?_eq_getElem hk, Option.some.injEq] at this
    rw [getD_lt hk] at this
    have h2 : mac[k] ^^^ (mac[k] ^^^ x) = mac[k] ^^^ mac[k] := by rw [this]
    rw [← BitVec.xor_assoc, BitVec.xor_self, BitVec.zero_xor] at h2
    exact h2
  · intro h
    subst h
    rw [BitVec.xor_zero, getD_lt hk, List.set_getElem_self]
theorem may_with (m : Mark) (d : Bytes) : mayV (withMac m d) = mayV m := rfl
theorem mac_with (m : Mark) (d : Bytes) : (withMac m d).2.2.2.2 = d := rfl
theorem body_with (m : Mark) (d : Bytes) : mbodyV (withMac m d) = mbodyV m := rfl
theorem seal_with (K : Bytes) (m : Mark) (d : Bytes) : sealV K (withMac m d) = sealV K m := by
  unfold sealV
  rw [body_with]
  rfl
theorem sealed_with {K : Bytes} {z : Mark} {d : Bytes} (h : mayV z = true) : sealedV K (z.1, z.2.1, z.2.2.1, z.2.2.2.1, d) = alikeV d (sealV K z) := by
  have e : ((z.1, z.2.1, z.2.2.1, z.2.2.2.1, d) : Mark) = withMac z d := rfl
  rw [e]
  unfold sealedV
  rw [may_with, h, seal_with]
  rfl
theorem mk_facts {K : Bytes} {site : Int} {h : HeadT} (hm : mayV (markOf site h) = true) : ∃ z : Mark, mkV K site h = (z, 0) ∧ mayV z = true ∧ z.2.2.2.2 = sealV K z ∧ z.2.2.2.2.length = 32 := by
  have e : mkV K site h = (withMac (markOf site h) (sealV K (markOf site h)), 0) := by
    unfold mkV
    rw [if_pos hm]
  refine ⟨withMac (markOf site h) (sealV K (markOf site h)), e, (may_with _ _).trans hm, ?_, ?_⟩
  · rw [mac_with, seal_with]
  · rw [mac_with]
    exact macV_len _ _
theorem mk_ok {key : Bytes} {site : Int} {h : HeadT} (hs : site = 0 ∨ site = 1) (hh : isHeadV h = true) : (mkV key site h).2 = 0 := by
  unfold mkV
  have : mayV (markOf site h) = true := by
    unfold mayV
    have e : headM (markOf site h) = h := rfl
    rw [e, hh, Bool.and_true, Bool.or_eq_true]
    exact hs.imp decide_eq_true decide_eq_true
  rw [if_pos this]
theorem mk_head {key : Bytes} {site : Int} {h : HeadT} (g : (mkV key site h).2 = 0) : headM (mkV key site h).1 = h := by
  unfold mkV at g ⊢
  split at g
  · rename_i hm
    rw [if_pos hm]; rfl
  · exact absurd g (by decide)
theorem isHead0 : isHeadV head0 = true := by
  unfold isHeadV
  rw [Bool.or_eq_true]
  exact .inl (decide_eq_true rfl)
theorem take_same {a b : List Rec} : ∀ (r : Nat), r ≤ a.length → r ≤ b.length → (∀ j, j < r → a.getD j T_Rec.dflt = b.getD j T_Rec.dflt) → a.take r = b.take r
  | 0, _, _, _ => rfl
  | r + 1, ha, hb, h => by
    rw [take_snoc' (d := T_Rec.dflt) ha, take_snoc' (d := T_Rec.dflt) hb, take_same r (by omega) (by omega) (fun j hj => h j (by omega)), h r (by omega)]
theorem forks_key {A B c : List Rec} {K : Bytes} {p q r : Nat} (hp : p ≤ A.length) (hq : q ≤ B.length) (fA : ∀ r ∈ A, fine r) (fB : ∀ r ∈ B, fine r) (fc : ∀ r ∈ c, fine r)
    (wA : (walkV head0 A 0).2.2 = 0) (wB : (walkV head0 B 0).2.2 = 0) (m1 : (mkV K 0 (walkV head0 (A.take p) 0).1).2 = 0) (m2 : (mkV K 1 (walkV head0 (B.take q) 0).1).2 = 0)
    (hg : (auditV K c [(mkV K 0 (walkV head0 (A.take p) 0).1).1, (mkV K 1 (walkV head0 (B.take q) 0).1).1]).1 = 6) (c1 : collV c (A.take p) = false) (c2 : collV c (B.take q) = false) (h1 : r ≤ p) (h2 : r ≤ q) : A.take r = B.take r := by
  obtain ⟨_, hs⟩ := audit_says hg
  have g1 := (hs (mkV K 0 (walkV head0 (A.take p) 0).1).1 (by simp)).2
  have g2 := (hs (mkV K 1 (walkV head0 (B.take q) 0).1).1 (by simp)).2
  rw [mk_head m1] at g1
  rw [mk_head m2] at g2
  rcases has_take hp fA fc (walk_take _ _ _ _ wA) g1 with ⟨_, e1⟩ | e
  · rcases has_take hq fB fc (walk_take _ _ _ _ wB) g2 with ⟨_, e2⟩ | e
    · exact take_same r (by omega) (by omega) fun j hj => (e1 j (by omega)).symm.trans (e2 j (by omega))
    · rw [e] at c2; cases c2
  · rw [e] at c1; cases c1
theorem prefix_facts {K : Bytes} {A B : List Rec} {m : Mark} (h1 : (auditV K A [m]).1 = 6) (h2 : (auditV K B [m]).1 = 6) :
    0 ≤ m.2.1 ∧ m.2.1 ≤ (A.length : Int) ∧ m.2.1 ≤ (B.length : Int) ∧ (walkV head0 (A.take m.2.1.toNat) 0).2.2 = 0 ∧ (walkV head0 (B.take m.2.1.toNat) 0).2.2 = 0 ∧ (walkV head0 (A.take m.2.1.toNat) 0).1 = (walkV head0 (B.take m.2.1.toNat) 0).1 := by
  have g1 := has_ok ((audit_says h1).2 m (by simp)).2
  have g2 := has_ok ((audit_says h2).2 m (by simp)).2
  have e : (headM m).1 = m.2.1 := rfl
  rw [e] at g1 g2
  exact ⟨g1.1, g1.2.1, g2.2.1, g1.2.2.1, g2.2.2.1, g1.2.2.2.trans g2.2.2.2.symm⟩
end Go.Sal
