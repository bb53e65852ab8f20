/- Messages: there and back; both ways of reading agree. No program in sight. -/
import Derived.Test.YtogjeflhlnnbdaaQSalOrd
set_option maxRecDepth 100000
namespace Go.Sal
open Go.Vse
def okM (m : Msg) : Prop := m.2.1.2.2.length = 32 ∧ m.2.2.2.1.length = 32 ∧ m.2.2.2.2.1.2.2.1.length = 32 ∧ (∀ p ∈ m.2.2.2.2.1.2.2.2.2.2.2, p.1.length = 32) ∧ ∀ d ∈ m.2.2.2.2.2.1, d.length = 32
theorem sel_1 {α : Type} {h a c t p w ch g d : α} : sel 1 h a c t p w ch g d = h := rfl
theorem sel_9 {α : Type} {h a c t p w ch g d : α} : sel 9 h a c t p w ch g d = h := rfl
theorem sel_2 {α : Type} {h a c t p w ch g d : α} : sel 2 h a c t p w ch g d = a := rfl
theorem sel_3 {α : Type} {h a c t p w ch g d : α} : sel 3 h a c t p w ch g d = c := rfl
theorem sel_4 {α : Type} {h a c t p w ch g d : α} : sel 4 h a c t p w ch g d = t := rfl
theorem sel_5 {α : Type} {h a c t p w ch g d : α} : sel 5 h a c t p w ch g d = p := rfl
theorem sel_6 {α : Type} {h a c t p w ch g d : α} : sel 6 h a c t p w ch g d = w := rfl
theorem sel_10 {α : Type} {h a c t p w ch g d : α} : sel 10 h a c t p w ch g d = w := rfl
theorem sel_7 {α : Type} {h a c t p w ch g d : α} : sel 7 h a c t p w ch g d = ch := rfl
theorem sel_8 {α : Type} {h a c t p w ch g d : α} : sel 8 h a c t p w ch g d = g := rfl
theorem checkM_ok {m : Msg} (h : checkM m = 0) : okMsg m = true ∧ sameM (onlyV m) m = true := by
  unfold checkM at h
  split at h
  · assumption
  · exact absurd h (by decide)
theorem okMsg_at {m : Msg} {k : Int} (h : m.1 = k) : okMsg m = sel k (isHeadV m.2.1) (seqV m.2.2.1 1) (seqV m.2.2.1 1) (cutOk m) (decide (checkV m.2.2.2.2.1 = 0)) (rowV m.2.2.2.2.2.1) (chunkV m.2.2.2.2.2.2) true false := by
  unfold okMsg; rw [h]
theorem tailM_at {m : Msg} {k : Int} (h : m.1 = k) : tailM m = sel k (varintN m.2.1.1.toNat ++ varintN m.2.1.2.1.toNat ++ m.2.1.2.2) (varintN m.2.2.1.toNat) (varintN m.2.2.1.toNat ++ m.2.2.2.1) (varintN m.2.2.1.toNat ++ m.2.2.2.1)
    (bytesV m.2.2.2.2.1).1 (BitVec.ofInt 8 (m.2.2.2.2.2.1.length : Int) :: m.2.2.2.2.2.1.flatten) m.2.2.2.2.2.2 m.2.2.2.1 [] := by
  unfold tailM; rw [h]
theorem isHead_nat {h : HeadT} (hh : isHeadV h = true) : ((0 : Int) ≤ h.1 ∧ (1073741824 : Int) ≥ h.1) ∧ (0 : Int) ≤ h.2.1 ∧ (1073741824 : Int) ≥ h.2.1 := by
  unfold isHeadV at hh
  simp only [Bool.or_eq_true, decide_eq_true_eq] at hh
  rcases hh with hh | ⟨h1, h2, h3, h4⟩
  · have e1 : h.1 = 0 := congrArg (fun p => p.1) hh
    have e2 : h.2.1 = 0 := congrArg (fun p => p.2.1) hh
    have e1 : (0 : Int) = h.1 := e1.symm
    have e2 : (0 : Int) = h.2.1 := e2.symm
    omega
  · have h1 : (1 : Int) ≤ h.1 := h1
    have h2 : (1073741824 : Int) ≥ h.1 := h2
    have h3 : (1 : Int) ≤ h.2.1 := h3
    have h4 : (1073741824 : Int) ≥ h.2.1 := h4
    omega
theorem seqV_nat {n k : Int} (hk : 0 ≤ k) (h : seqV n k = true) : 0 ≤ n ∧ n ≤ 1073741824 := by
  unfold seqV at h
  simp only [Bool.and_eq_true, decide_eq_true_eq] at h
  omega
theorem sameV_eq {a b : Rec} (h : sameV a b = true) : a = b := by
  unfold sameV at h
  simp only [Bool.and_eq_true, decide_eq_true_eq, beq_iff_eq] at h
  obtain ⟨⟨⟨⟨⟨⟨h1, h2⟩, h3⟩, h4⟩, h5⟩, h6⟩, h7⟩ := h
  exact Prod.ext h1 (Prod.ext h2 (Prod.ext h3 (Prod.ext h4 (Prod.ext h5 (Prod.ext h6 h7)))))
theorem sameM_eq {a b : Msg} (h : sameM a b = true) : a = b := by
  unfold sameM sameHead sameDg at h
  simp only [Bool.and_eq_true, decide_eq_true_eq, beq_iff_eq] at h
  obtain ⟨⟨⟨⟨⟨⟨h1, ⟨h2, h3⟩, h4⟩, h5⟩, h6⟩, h7⟩, h8⟩, h9⟩ := h
  exact Prod.ext h1 (Prod.ext (Prod.ext h2 (Prod.ext h3 h4)) (Prod.ext h5 (Prod.ext h6 (Prod.ext (sameV_eq h7) (Prod.ext h8 h9)))))
theorem sameM_self (a : Msg) : sameM a a = true := by
  unfold sameM sameHead sameDg sameV; simp
/-- a message that may be has just its kind's fields -/
theorem only_eq {m : Msg} (h : checkM m = 0) : onlyV m = m := sameM_eq (checkM_ok h).2
theorem kinds {m : Msg} (h : okMsg m = true) : m.1 = 1 ∨ m.1 = 9 ∨ m.1 = 2 ∨ m.1 = 3 ∨ m.1 = 4 ∨ m.1 = 5 ∨ m.1 = 6 ∨ m.1 = 10 ∨ m.1 = 7 ∨ m.1 = 8 := by
  unfold okMsg sel at h
  repeat' split at h
  all_goals first | (rename_i h'; simp only [h']; decide) | skip
  all_goals first | simp_all | skip
theorem dig_drop (l : List DigP) (hl : ∀ d ∈ l, d.length = 32) : ∀ i, i ≤ l.length → (l.flatten).drop (32 * i) = (l.drop i).flatten := by
  induction l with
  | nil => intro i hi; simp at hi; subst hi; rfl
  | cons d r ih =>
    intro i hi
    cases i with
    | zero => rfl
    | succ i =>
      have hd := hl d (by simp)
      rw [List.flatten_cons, List.drop_succ_cons, ← ih (fun x hx => hl x (by simp [hx])) i (by simpa using hi)]
      rw [List.drop_append, List.drop_eq_nil_of_le (by omega), List.nil_append, hd]
      congr 1
theorem flat_length (l : List DigP) (hl : ∀ d ∈ l, d.length = 32) : l.flatten.length = 32 * l.length := by
  induction l with
  | nil => rfl
  | cons d r ih =>
    rw [List.flatten_cons, List.length_append, hl d (by simp), ih (fun x hx => hl x (by simp [hx])), List.length_cons]
    omega
theorem digs_flat {l : List DigP} (hl : ∀ d ∈ l, d.length = 32) : digsV l.flatten = l := by
  have hf := flat_length l hl
  unfold digsV
  rw [hf, Nat.mul_div_cancel_left _ (by omega)]
  apply List.ext_getElem
  · simp
  · intro i h1 h2
    rw [List.getElem_map, List.getElem_range, dig_drop l hl i (by omega), List.drop_eq_getElem_cons h2, List.flatten_cons, List.take_append_of_le_length (by rw [hl _ (List.getElem_mem h2)]; omega), List.take_of_length_le (by rw [hl _ (List.getElem_mem h2)]; omega)]
theorem fst_go {d : DigP} (h : d.length = 32) : fstDig d = d := by
  unfold fstDig
  rw [h]
  simp
  exact List.take_of_length_le (by omega)
theorem num_go' {n : Int} (h0 : 0 ≤ n) (h1 : n ≤ 1073741824) (r : Bytes) : numV (varintN n.toNat ++ r) = n ∧ numR (varintN n.toNat ++ r) = r := by
  obtain ⟨h2, h3, h4⟩ := num_go (n := n.toNat) (by omega) r
  unfold numV numR
  rw [h2, h3, h4]
  exact ⟨by simp only [cond_true]; omega, rfl⟩
theorem num_end {n : Int} (h0 : 0 ≤ n) (h1 : n ≤ 1073741824) : numV (varintN n.toNat) = n := by
  have := (num_go' h0 h1 []).1
  rwa [List.append_nil] at this
-- the reference's reading
theorem dgt_at {b d r : Bytes} {p : Int} (h : b.drop p.toNat = d ++ r) (hd : d.length = 32) : dgtR b p = d := by
  unfold dgtR dgtI
  apply List.ext_getElem
  · simp [hd]
  · intro i h1 h2
    rw [List.getElem_map, List.getElem_range, if_pos (by omega)]
    have e : b[p.toNat + i]? = d[i]? := by
      have := congrArg (fun l => l[i]?) h
      simp only [List.getElem?_drop] at this
      rw [this, List.getElem?_append_left h2]
    rw [List.getD_eq_getElem?_getD, e, List.getElem?_eq_getElem h2]; rfl
theorem numR_at {b r : Bytes} {p n : Int} (hp : 0 ≤ p) (hl : p.toNat ≤ b.length) (h0 : 0 ≤ n) (h1 : n ≤ 1073741824) (h : b.drop p.toNat = varintN n.toNat ++ r) : nvalR b p = n ∧ b.drop (natR b p).toNat = r ∧ p ≤ natR b p ∧ natR b p = p + ((varintN n.toNat).length : Int) := by
  obtain ⟨h2, h3, h4⟩ := num_go (n := n.toNat) (by omega) r
  have hk : nokR b p = true := by
    unfold nokR
    rw [h, h2, decide_eq_true (by omega)]; rfl
  have hlen : (readN (varintN n.toNat ++ r) 0 0).2.1 = (varintN n.toNat).length := by
    have hv : (varintN n.toNat).length ≤ 5 := varintN_length 4 n.toNat (Nat.lt_of_le_of_lt (by omega : n.toNat ≤ 1073741824) (by decide))
    have h := read_varint n.toNat 0 0 r (by omega) (fun h => absurd h (by omega))
    rw [h]; simp
  unfold nvalR natR
  rw [hk, h, h3]
  simp only [cond_true]
  refine ⟨by omega, ?_, by omega, by rw [hlen]⟩
  have e : (p + ((readN (varintN n.toNat ++ r) 0 0).2.1 : Int)).toNat = p.toNat + (readN (varintN n.toNat ++ r) 0 0).2.1 := by omega
  rw [e, ← List.drop_drop, h]
  exact h4
theorem byteK {k : Int} (h : k = 1 ∨ k = 9 ∨ k = 2 ∨ k = 3 ∨ k = 4 ∨ k = 5 ∨ k = 6 ∨ k = 10 ∨ k = 7 ∨ k = 8) : ((BitVec.ofInt 8 k).toNat : Int) = k := by
  rcases h with h | h | h | h | h | h | h | h | h | h <;> subst h <;> rfl
theorem varint_pos (n : Nat) : 1 ≤ (varintN n).length := by
  unfold varintN
  split <;> simp
/-- both ways of reading give back what was written -/
theorem back_both {m : Msg} (ho : okM m) (h : checkM m = 0) : parseX (encM m) = m ∧ parseXR (encM m) = m ∧ 2 ≤ (encM m).length := by
  obtain ⟨hok, _⟩ := checkM_ok h
  have hon := only_eq h
  have hk := kinds hok
  have hkind : kindM (encM m) = m.1 := by
    unfold kindM encM
    exact byteK hk
  obtain ⟨o1, o2, o3, o4, o5⟩ := ho
  have hdrop : (encM m).drop 1 = tailM m := rfl
  have hlen : (encM m).length = (tailM m).length + 1 := rfl
  have key : ∀ k : Int, m.1 = k → (onlyV m = sel k (k, m.2.1, 0, zero32, rec0, [], []) (k, head0, m.2.2.1, zero32, rec0, [], []) (k, head0, m.2.2.1, m.2.2.2.1, rec0, [], []) (k, head0, m.2.2.1, m.2.2.2.1, rec0, [], [])
      (k, head0, 0, zero32, m.2.2.2.2.1, [], []) (k, head0, 0, zero32, rec0, m.2.2.2.2.2.1, []) (k, head0, 0, zero32, rec0, [], m.2.2.2.2.2.2) (k, head0, 0, m.2.2.2.1, rec0, [], []) (k, head0, 0, zero32, rec0, [], [])) := fun k hk => by
    unfold onlyV; rw [hk]
  have pX : ∀ k : Int, m.1 = k → parseX (encM m) = sel k (k, (numV (tailM m), numV (numR (tailM m)), fstDig (numR (numR (tailM m)))), 0, zero32, rec0, [], []) (k, head0, numV (tailM m), zero32, rec0, [], [])
      (k, head0, numV (tailM m), fstDig (numR (tailM m)), rec0, [], []) (k, head0, numV (tailM m), fstDig (numR (tailM m)), rec0, [], []) (k, head0, 0, zero32, (parseV (tailM m)).1, [], [])
      (k, head0, 0, zero32, rec0, digsV ((encM m).drop 2), []) (k, head0, 0, zero32, rec0, [], tailM m) (k, head0, 0, fstDig (tailM m), rec0, [], []) (k, head0, 0, zero32, rec0, [], []) := fun k hk => by
    unfold parseX; rw [hkind, hdrop, hk]
  have pR : ∀ k : Int, m.1 = k → parseXR (encM m) = sel k (k, (nvalR (encM m) 1, nvalR (encM m) (natR (encM m) 1), dgtR (encM m) (natR (encM m) (natR (encM m) 1))), 0, zero32, rec0, [], []) (k, head0, nvalR (encM m) 1, zero32, rec0, [], [])
      (k, head0, nvalR (encM m) 1, dgtR (encM m) (natR (encM m) 1), rec0, [], []) (k, head0, nvalR (encM m) 1, dgtR (encM m) (natR (encM m) 1), rec0, [], []) (k, head0, 0, zero32, (parseR (tailM m)).1, [], [])
      (k, head0, 0, zero32, rec0, dgsI (encM m) (dgsN (encM m)), []) (k, head0, 0, zero32, rec0, [], tailM m) (k, head0, 0, dgtR (encM m) 1, rec0, [], []) (k, head0, 0, zero32, rec0, [], []) := fun k hk => by
    unfold parseXR; rw [hkind, hdrop, hk]
  have hd1 : (encM m).drop (1 : Int).toNat = tailM m := rfl
  have one : (1 : Int).toNat ≤ (encM m).length := by rw [hlen]; exact Nat.succ_le_succ (Nat.zero_le _)
  have hhead : isHeadV m.2.1 = true → tailM m = varintN m.2.1.1.toNat ++ varintN m.2.1.2.1.toNat ++ m.2.1.2.2 →
      (numV (tailM m), numV (numR (tailM m)), fstDig (numR (numR (tailM m)))) = m.2.1 ∧ (nvalR (encM m) 1, nvalR (encM m) (natR (encM m) 1), dgtR (encM m) (natR (encM m) (natR (encM m) 1))) = m.2.1 ∧ 2 ≤ (encM m).length := fun hh ht => by
    obtain ⟨⟨b1, b2⟩, b3, b4⟩ := isHead_nat hh
    rw [List.append_assoc] at ht
    obtain ⟨n1, n2⟩ := num_go' b1 b2 (varintN m.2.1.2.1.toNat ++ m.2.1.2.2)
    obtain ⟨n3, n4⟩ := num_go' b3 b4 m.2.1.2.2
    obtain ⟨r1, r2, r3, r4⟩ := numR_at (b := encM m) (p := 1) (by decide) one b1 b2 (hd1.trans ht)
    have hl2 : (natR (encM m) 1).toNat ≤ (encM m).length := by
      rw [r4, hlen, ht, List.length_append]; omega
    obtain ⟨r5, r6, _, _⟩ := numR_at (b := encM m) (p := natR (encM m) 1) (by omega) hl2 b3 b4 r2
    have hdg : dgtR (encM m) (natR (encM m) (natR (encM m) 1)) = m.2.1.2.2 := dgt_at (r := []) (by rw [r6, List.append_nil]) o1
    refine ⟨?_, ?_, ?_⟩
    · rw [ht, n1, n2, n3, n4, fst_go o1]
    · rw [r1, r5, hdg]
    · rw [hlen, ht, List.length_append]
      have := varint_pos m.2.1.1.toNat
      omega
  have hseq : (0 ≤ m.2.2.1 ∧ m.2.2.1 ≤ 1073741824) → ∀ r, tailM m = varintN m.2.2.1.toNat ++ r → numV (tailM m) = m.2.2.1 ∧ numR (tailM m) = r ∧ nvalR (encM m) 1 = m.2.2.1 ∧ (encM m).drop (natR (encM m) 1).toNat = r ∧ 2 ≤ (encM m).length := fun hb r ht => by
    obtain ⟨n1, n2⟩ := num_go' hb.1 hb.2 r
    obtain ⟨r1, r2, _, _⟩ := numR_at (b := encM m) (p := 1) (by decide) one hb.1 hb.2 (hd1.trans ht)
    refine ⟨by rw [ht]; exact n1, by rw [ht]; exact n2, r1, r2, ?_⟩
    rw [hlen, ht, List.length_append]
    have := varint_pos m.2.2.1.toNat
    omega
  have hwant : rowV m.2.2.2.2.2.1 = true → tailM m = BitVec.ofInt 8 (m.2.2.2.2.2.1.length : Int) :: m.2.2.2.2.2.1.flatten → digsV ((encM m).drop 2) = m.2.2.2.2.2.1 ∧ dgsI (encM m) (dgsN (encM m)) = m.2.2.2.2.2.1 ∧ 2 ≤ (encM m).length := fun hr ht => by
    have hl : m.2.2.2.2.2.1.length ≤ 64 := by
      unfold rowV at hr
      simp only [Bool.and_eq_true, decide_eq_true_eq] at hr
      exact hr.1.2
    have hd2 : (encM m).drop 2 = m.2.2.2.2.2.1.flatten := by
      rw [show (2 : Nat) = 1 + 1 from rfl, ← List.drop_drop, hdrop, ht]; rfl
    have hf := flat_length _ o5
    have hle : (encM m).length = 2 + 32 * m.2.2.2.2.2.1.length := by rw [hlen, ht, List.length_cons, hf]; omega
    have hn : dgsN (encM m) = m.2.2.2.2.2.1.length := by
      unfold dgsN
      rw [hle]
      omega
    refine ⟨by rw [hd2]; exact digs_flat o5, ?_, by omega⟩
    rw [hn]
    unfold dgsI
    apply List.ext_getElem
    · simp
    · intro i h1 h2
      rw [List.getElem_map, List.getElem_range]
      refine dgt_at (r := ((m.2.2.2.2.2.1).drop (i + 1)).flatten) ?_ (o5 _ (List.getElem_mem h2))
      have e : (2 + 32 * Int.ofNat i).toNat = 2 + 32 * i := by
        have : Int.ofNat i = (i : Int) := rfl
        rw [this]; omega
      rw [e, ← List.drop_drop, hd2, dig_drop _ o5 i (by omega), List.drop_eq_getElem_cons h2, List.flatten_cons]
  rcases hk with hk | hk | hk | hk | hk | hk | hk | hk | hk | hk
  · have h1 := okMsg_at hk; have h2 := tailM_at hk; have h3 := key _ hk; have h4 := pX _ hk; have h5 := pR _ hk
    rw [sel_1] at h1 h2 h3 h4 h5
    obtain ⟨e1, e2, e3⟩ := hhead (h1.symm.trans hok) h2
    rw [e1] at h4; rw [e2] at h5
    exact ⟨h4.trans (h3.symm.trans hon), h5.trans (h3.symm.trans hon), e3⟩
  · have h1 := okMsg_at hk; have h2 := tailM_at hk; have h3 := key _ hk; have h4 := pX _ hk; have h5 := pR _ hk
    rw [sel_9] at h1 h2 h3 h4 h5
    obtain ⟨e1, e2, e3⟩ := hhead (h1.symm.trans hok) h2
    rw [e1] at h4; rw [e2] at h5
    exact ⟨h4.trans (h3.symm.trans hon), h5.trans (h3.symm.trans hon), e3⟩
  · have h1 := okMsg_at hk; have h2 := tailM_at hk; have h3 := key _ hk; have h4 := pX _ hk; have h5 := pR _ hk
    rw [sel_2] at h1 h2 h3 h4 h5
    obtain ⟨e1, _, e2, _, e3⟩ := hseq (seqV_nat (by decide) (h1.symm.trans hok)) [] (by rw [h2, List.append_nil])
    rw [e1] at h4; rw [e2] at h5
    exact ⟨h4.trans (h3.symm.trans hon), h5.trans (h3.symm.trans hon), e3⟩
  · have h1 := okMsg_at hk; have h2 := tailM_at hk; have h3 := key _ hk; have h4 := pX _ hk; have h5 := pR _ hk
    rw [sel_3] at h1 h2 h3 h4 h5
    obtain ⟨e1, e4, e2, e5, e3⟩ := hseq (seqV_nat (by decide) (h1.symm.trans hok)) _ h2
    rw [e1, e4, fst_go o2] at h4
    rw [e2, dgt_at (r := []) (by rw [e5, List.append_nil]) o2] at h5
    exact ⟨h4.trans (h3.symm.trans hon), h5.trans (h3.symm.trans hon), e3⟩
  · have h1 := okMsg_at hk; have h2 := tailM_at hk; have h3 := key _ hk; have h4 := pX _ hk; have h5 := pR _ hk
    rw [sel_4] at h1 h2 h3 h4 h5
    have hc := h1.symm.trans hok
    unfold cutOk at hc
    rw [Bool.and_eq_true] at hc
    obtain ⟨e1, e4, e2, e5, e3⟩ := hseq (seqV_nat (by decide) hc.1) _ h2
    rw [e1, e4, fst_go o2] at h4
    rw [e2, dgt_at (r := []) (by rw [e5, List.append_nil]) o2] at h5
    exact ⟨h4.trans (h3.symm.trans hon), h5.trans (h3.symm.trans hon), e3⟩
  · have h1 := okMsg_at hk; have h2 := tailM_at hk; have h3 := key _ hk; have h4 := pX _ hk; have h5 := pR _ hk
    rw [sel_5] at h1 h2 h3 h4 h5
    have hc : checkV m.2.2.2.2.1 = 0 := by simpa using h1.symm.trans hok
    rw [bytesV_ok hc] at h2
    have hp := parse_back hc o3 o4
    rw [h2, hp] at h4
    rw [h2, parse_same, hp] at h5
    refine ⟨h4.trans (h3.symm.trans hon), h5.trans (h3.symm.trans hon), ?_⟩
    rw [hlen, h2]
    have := (recBytes_R m.2.2.2.2.1).2
    exact Nat.succ_le_succ this
  · have h1 := okMsg_at hk; have h2 := tailM_at hk; have h3 := key _ hk; have h4 := pX _ hk; have h5 := pR _ hk
    rw [sel_6] at h1 h2 h3 h4 h5
    obtain ⟨e1, e2, e3⟩ := hwant (h1.symm.trans hok) h2
    rw [e1] at h4; rw [e2] at h5
    exact ⟨h4.trans (h3.symm.trans hon), h5.trans (h3.symm.trans hon), e3⟩
  · have h1 := okMsg_at hk; have h2 := tailM_at hk; have h3 := key _ hk; have h4 := pX _ hk; have h5 := pR _ hk
    rw [sel_10] at h1 h2 h3 h4 h5
    obtain ⟨e1, e2, e3⟩ := hwant (h1.symm.trans hok) h2
    rw [e1] at h4; rw [e2] at h5
    exact ⟨h4.trans (h3.symm.trans hon), h5.trans (h3.symm.trans hon), e3⟩
  · have h1 := okMsg_at hk; have h2 := tailM_at hk; have h3 := key _ hk; have h4 := pX _ hk; have h5 := pR _ hk
    rw [sel_7] at h1 h2 h3 h4 h5
    have hc := h1.symm.trans hok
    unfold chunkV at hc
    simp only [Bool.and_eq_true, decide_eq_true_eq] at hc
    rw [h2] at h4 h5
    exact ⟨h4.trans (h3.symm.trans hon), h5.trans (h3.symm.trans hon), by rw [hlen, h2]; omega⟩
  · have h2 := tailM_at hk; have h3 := key _ hk; have h4 := pX _ hk; have h5 := pR _ hk
    rw [sel_8] at h2 h3 h4 h5
    rw [h2, fst_go o2] at h4
    rw [dgt_at (r := []) (by rw [hd1, h2, List.append_nil]) o2] at h5
    exact ⟨h4.trans (h3.symm.trans hon), h5.trans (h3.symm.trans hon), by rw [hlen, h2, o2]; omega⟩
-- what is read has digests of 32 bytes
theorem fst_len (b : Bytes) : (fstDig b).length = 32 := by
  unfold fstDig
  by_cases h : 32 ≤ b.length
  · rw [decide_eq_true h]; simp only [cond_true, List.length_take]; omega
  · rw [decide_eq_false h]; rfl
theorem dgt_len (b : Bytes) (p : Int) : (dgtR b p).length = 32 := by unfold dgtR dgtI; simp
theorem pies32 {s : Bytes} : ∀ n, okPies s n = true → ∀ p ∈ (piesS s n).1, p.1.length = 32
  | 0, _, p, hp => by simp [piesS] at hp
  | n + 1, h, p, hp => by
    have h' := h
    rw [okPies, Bool.and_eq_true, Bool.and_eq_true] at h
    simp only [piesS, List.mem_append, List.mem_singleton] at hp
    rcases hp with hp | rfl
    · exact pies32 n h.1 p hp
    · have := h.2.2
      unfold okDig at this
      rw [decide_eq_true_eq] at this
      show ((offNum (piesS s n).2).take 32).length = 32
      rw [List.length_take]; omega
theorem parse32 (b : Bytes) : (parseV b).1.2.2.1.length = 32 ∧ ∀ p ∈ (parseV b).1.2.2.2.2.2.2, p.1.length = 32 := by
  have h0 : rec0.2.2.1.length = 32 ∧ ∀ p ∈ rec0.2.2.2.2.2.2, p.1.length = 32 := ⟨rfl, fun p hp => by cases hp⟩
  unfold parseV
  split
  · split
    · rename_i h
      obtain ⟨_, _, _, _, _, h6, _, h8⟩ := okRec_parts h.1
      have hd : (valDig (at4 b)).length = 32 := by
        unfold okDig at h6
        rw [decide_eq_true_eq] at h6
        unfold valDig
        rw [List.length_take]; omega
      simp only []
      unfold recP
      split
      · exact ⟨hd, fun p hp => by cases hp⟩
      · rename_i hk1
        split
        · rename_i hk2
          exact ⟨hd, pies32 _ ((h8 hk1).2 hk2).2⟩
        · exact ⟨hd, fun p hp => by cases hp⟩
    · exact h0
  · exact h0
theorem z32 : zero32.length = 32 := rfl
theorem r32 : rec0.2.2.1.length = 32 ∧ ∀ p ∈ rec0.2.2.2.2.2.2, p.1.length = 32 := ⟨rfl, fun p hp => by cases hp⟩
theorem sel_all {α : Type} {Q : α → Prop} {k : Int} {h a c t p w ch g d : α} (h1 : Q h) (h2 : Q a) (h3 : Q c) (h4 : Q t) (h5 : Q p) (h6 : Q w) (h7 : Q ch) (h8 : Q g) (h9 : Q d) : Q (sel k h a c t p w ch g d) := by
  unfold sel
  repeat' split
  all_goals assumption
theorem okM_X (b : Bytes) : okM (parseX b) := by
  unfold parseX
  refine sel_all (Q := okM) ?_ ?_ ?_ ?_ ?_ ?_ ?_ ?_ ?_
  · exact ⟨fst_len _, z32, r32.1, r32.2, fun d hd => by cases hd⟩
  · exact ⟨z32, z32, r32.1, r32.2, fun d hd => by cases hd⟩
  · exact ⟨z32, fst_len _, r32.1, r32.2, fun d hd => by cases hd⟩
  · exact ⟨z32, fst_len _, r32.1, r32.2, fun d hd => by cases hd⟩
  · exact ⟨z32, z32, (parse32 _).1, (parse32 _).2, fun d hd => by cases hd⟩
  · refine ⟨z32, z32, r32.1, r32.2, fun d hd => ?_⟩
    unfold digsV at hd
    simp only [List.mem_map, List.mem_range] at hd
    obtain ⟨i, hi, rfl⟩ := hd
    have := Nat.div_mul_le_self (b.drop 2).length 32
    have h2 : 32 * (i + 1) ≤ (b.drop 2).length := by
      have : (i + 1) * 32 ≤ (b.drop 2).length / 32 * 32 := Nat.mul_le_mul_right _ hi
      omega
    rw [List.length_take, List.length_drop]
    omega
  · exact ⟨z32, z32, r32.1, r32.2, fun d hd => by cases hd⟩
  · exact ⟨z32, fst_len _, r32.1, r32.2, fun d hd => by cases hd⟩
  · exact ⟨z32, z32, r32.1, r32.2, fun d hd => by cases hd⟩
theorem okM_XR (b : Bytes) : okM (parseXR b) := by
  unfold parseXR
  refine sel_all (Q := okM) ?_ ?_ ?_ ?_ ?_ ?_ ?_ ?_ ?_
  · exact ⟨dgt_len _ _, z32, r32.1, r32.2, fun d hd => by cases hd⟩
  · exact ⟨z32, z32, r32.1, r32.2, fun d hd => by cases hd⟩
  · exact ⟨z32, dgt_len _ _, r32.1, r32.2, fun d hd => by cases hd⟩
  · exact ⟨z32, dgt_len _ _, r32.1, r32.2, fun d hd => by cases hd⟩
  · rw [parse_same]; exact ⟨z32, z32, (parse32 _).1, (parse32 _).2, fun d hd => by cases hd⟩
  · refine ⟨z32, z32, r32.1, r32.2, fun d hd => ?_⟩
    unfold dgsI at hd
    simp only [List.mem_map] at hd
    obtain ⟨i, _, rfl⟩ := hd
    exact dgt_len _ _
  · exact ⟨z32, z32, r32.1, r32.2, fun d hd => by cases hd⟩
  · exact ⟨z32, dgt_len _ _, r32.1, r32.2, fun d hd => by cases hd⟩
  · exact ⟨z32, z32, r32.1, r32.2, fun d hd => by cases hd⟩
theorem bytesM_eq {m : Msg} {b : Bytes} (h : bytesM m = (b, 0)) : checkM m = 0 ∧ encM m = b := by
  unfold bytesM at h
  split at h
  · rename_i hc; exact ⟨hc, congrArg (·.1) h⟩
  · have := congrArg (·.2) h; simp at this
theorem bytesM_of {m : Msg} (h : checkM m = 0) : bytesM m = (encM m, 0) := by unfold bytesM; rw [if_pos h]
theorem parseM_same (b : Bytes) (hb : b.length ≤ 524288) : parseMR b = parseMs b := by
  unfold parseMR parseMs
  by_cases h : 2 ≤ b.length ∧ bytesM (parseX b) = (b, 0)
  · obtain ⟨h1, h2⟩ := bytesM_eq h.2
    obtain ⟨p1, p2, p3⟩ := back_both (okM_X b) h1
    rw [h2] at p2
    rw [if_pos h, p2, if_pos ⟨by omega, hb, h.2⟩]
  · rw [if_neg h, if_neg]
    rintro ⟨h3, _, h4⟩
    obtain ⟨h1, h2⟩ := bytesM_eq h4
    obtain ⟨p1, p2, p3⟩ := back_both (okM_XR b) h1
    rw [h2] at p1 p3
    exact h ⟨p3, by rw [p1]; exact h4⟩
theorem parseM_cases (b : Bytes) : (parseMs b = (msg0, 200)) ∨ (parseMs b = (parseX b, 0) ∧ bytesM (parseX b) = (b, 0)) := by
  unfold parseMs
  split
  · rename_i h; exact .inr ⟨rfl, h.2⟩
  · exact .inl rfl
theorem parseM_back {m : Msg} (ho : okM m) (h : checkM m = 0) : parseMs (encM m) = (m, 0) := by
  obtain ⟨p1, _, p3⟩ := back_both ho h
  unfold parseMs
  rw [p1, if_pos ⟨p3, bytesM_of h⟩]
end Go.Sal
