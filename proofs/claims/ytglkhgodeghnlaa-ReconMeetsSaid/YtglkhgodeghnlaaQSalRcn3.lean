/- A side that answers: what is kept of it from item to item; parts of a prefix. No program in sight. -/
import Derived.Test.YtglkhgodeghnlaaQSalRcn2
set_option maxRecDepth 100000
namespace Go.Sal
open Go.Vse

theorem mgetP_mem {x : Pre} {y : Item} : ∀ {es : List (Pre × Item)}, mget T_Pre es x = some y → (x, y) ∈ es
 | [], h => by simp [mget] at h
 | p :: r, h => by
   by_cases hq : x = p.1
   · have e1 : mget T_Pre (p :: r) x = some p.2 := by simp only [mget, hq, decide_true, cond_true]
     rw [e1, Option.some.injEq] at h
     rw [hq, ← h]; simp
   · have e1 : mget T_Pre (p :: r) x = mget T_Pre r x := by simp only [mget, hq, decide_false, cond_false]
     rw [e1] at h
     exact List.mem_cons_of_mem _ (mgetP_mem h)
theorem mputP_mem {x : Pre} {y : Item} {q : Pre × Item} : ∀ {es : List (Pre × Item)}, q ∈ mput T_Pre es x y → q ∈ es ∨ q = (x, y)
 | [], h => by simp [mput] at h; exact .inr h
 | p :: r, h => by
   by_cases hq : x = p.1
   · have e1 : mput T_Pre (p :: r) x y = (p.1, y) :: r := by simp only [mput, hq, decide_true, cond_true]
     rw [e1] at h
     rcases List.mem_cons.1 h with h | h
     · exact .inr (by rw [h, hq])
     · exact .inl (List.mem_cons_of_mem _ h)
   · have e1 : mput T_Pre (p :: r) x y = p :: mput T_Pre r x y := by simp only [mput, hq, decide_false, cond_false]
     rw [e1] at h
     rcases List.mem_cons.1 h with h | h
     · exact .inl (by rw [h]; simp)
     · rcases mputP_mem h with h | h
       · exact .inl (List.mem_cons_of_mem _ h)
       · exact .inr h
theorem sums_get {l : List DigP} {es : List (Pre × Item)} {p : Pre} {v : Item} (hs : sumsOk l es) (h : mget T_Pre es p = some v) : v = sumV l p := hs _ (mgetP_mem h)
theorem sumsP_ok {l : List DigP} {es : List (Pre × Item)} (p : Pre) (h : sumsOk l es) : sumsOk l (sumsP l es p) := by
 unfold sumsP
 cases (mget T_Pre es p).isSome with
 | true => exact h
 | false =>
   intro q hq
   rcases mputP_mem hq with hq | rfl
   · exact h q hq
   · rfl
theorem sumsK_ok {l : List DigP} : ∀ {ps : List Pre} {es : List (Pre × Item)}, sumsOk l es → sumsOk l (sumsK l es ps)
 | [], _, h => h
 | p :: r, es, h => sumsK_ok (ps := r) (sumsP_ok p h)
theorem sumsK_snoc {l : List DigP} {es : List (Pre × Item)} {ps : List Pre} {q : Pre} : sumsK l es (ps ++ [q]) = sumsP l (sumsK l es ps) q := by
 unfold sumsK
 rw [List.foldl_append]; rfl
theorem sumsX_ok {l : List DigP} {es : List (Pre × Item)} (x : Item) (h : sumsOk l es) : sumsOk l (sumsX l es x) := by
 unfold sumsX
 split
 · exact h
 · split
   · exact sumsK_ok (sumsP_ok _ h)
   · exact sumsP_ok _ h
theorem parts_le (p : Pre) : (partsV p).length ≤ 4 := by
 unfold partsV
 split
 · exact Nat.zero_le _
 · split <;> simp
theorem toV_four (l : List DigP) (x : Item) : toV l x = 0 ∨ toV l x = 1 ∨ toV l x = 2 ∨ toV l x = 3 := by
 unfold toV
 cases (iN (sumV l (iP x)) == iN x && decide (iH (sumV l (iP x)) = iH x)) <;> cases (decide (iN (sumV l (iP x)) ≤ 8) || x.2.1 == 256) <;> cases decide (iN x ≤ 8) <;> simp
theorem out2 {l : List DigP} {x : Item} (h : x.1 = 2) : outV l x = [listI 3 (iP x) (belowV l (iP x))] ∧ lackV l x = [] ∧ otherV l x = [] ∧ ∀ es, sumsX l es x = es := by
 unfold outV lackV otherV sumsX
 rw [if_pos h, if_neg (by rw [h]; decide), if_neg (by rw [h]; decide)]
 exact ⟨rfl, rfl, rfl, fun es => if_pos (.inl h)⟩
theorem out3 {l : List DigP} {x : Item} (h : x.1 = 3) : outV l x = [listI 4 (iP x) (belowV l (iP x))] ∧ lackV l x = lessV (iL x) (belowV l (iP x)) ∧ otherV l x = lessV (belowV l (iP x)) (iL x) ∧ ∀ es, sumsX l es x = es := by
 unfold outV lackV otherV sumsX
 rw [if_neg (by rw [h]; decide), if_pos h, if_pos (.inl h), if_pos (.inl h)]
 exact ⟨rfl, rfl, rfl, fun es => if_pos (.inr (.inl h))⟩
theorem out4 {l : List DigP} {x : Item} (h : x.1 = 4) : outV l x = [] ∧ lackV l x = lessV (iL x) (belowV l (iP x)) ∧ otherV l x = lessV (belowV l (iP x)) (iL x) ∧ ∀ es, sumsX l es x = es := by
 unfold outV lackV otherV sumsX
 rw [if_neg (by rw [h]; decide), if_neg (by rw [h]; decide), if_pos h, if_pos (.inr h), if_pos (.inr h)]
 exact ⟨rfl, rfl, rfl, fun es => if_pos (.inr (.inr h))⟩
theorem outS {l : List DigP} {x : Item} (h2 : ¬ x.1 = 2) (h3 : ¬ x.1 = 3) (h4 : ¬ x.1 = 4) : lackV l x = [] ∧ otherV l x = [] ∧
 (toV l x = 0 → outV l x = [] ∧ ∀ es, sumsX l es x = sumsP l es (iP x)) ∧ (toV l x = 1 → outV l x = [listI 3 (iP x) (belowV l (iP x))] ∧ ∀ es, sumsX l es x = sumsP l es (iP x)) ∧
 (toV l x = 2 → outV l x = [listI 2 (iP x) []] ∧ ∀ es, sumsX l es x = sumsP l es (iP x)) ∧ (toV l x = 3 → outV l x = (partsV (iP x)).map (sumV l) ∧ ∀ es, sumsX l es x = sumsK l (sumsP l es (iP x)) (partsV (iP x))) := by
 have hn : ¬ (x.1 = 3 ∨ x.1 = 4) := fun h => h.elim h3 h4
 have hm : ¬ (x.1 = 2 ∨ x.1 = 3 ∨ x.1 = 4) := fun h => h.elim h2 hn
 unfold outV lackV otherV sumsX
 rw [if_neg h2, if_neg h3, if_neg h4, if_neg hn, if_neg hn]
 refine ⟨rfl, rfl, fun h => ⟨if_pos h, fun es => ?_⟩, fun h => ⟨?_, fun es => ?_⟩, fun h => ⟨?_, fun es => ?_⟩, fun h => ⟨?_, fun es => ?_⟩⟩
 · rw [if_neg hm, if_neg (by rw [h]; decide)]
 · rw [if_neg (by rw [h]; decide), if_pos h]
 · rw [if_neg hm, if_neg (by rw [h]; decide)]
 · rw [if_neg (by rw [h]; decide), if_neg (by rw [h]; decide), if_pos h]
 · rw [if_neg hm, if_neg (by rw [h]; decide)]
 · rw [if_neg (by rw [h]; decide), if_neg (by rw [h]; decide), if_neg (by rw [h]; decide)]
 · rw [if_neg hm, if_pos h]
theorem out_le (l : List DigP) (x : Item) : (outV l x).length ≤ 4 := by
 have := parts_le (iP x)
 unfold outV
 repeat' split
 all_goals first
  | (rw [List.length_map]; exact this)
  | simp
theorem lack_le {l : List DigP} {x : Item} : (lackV l x).length ≤ (iL x).length := by
 unfold lackV
 split
 · exact lessV_le _ _
 · exact Nat.zero_le _
theorem other_le {l : List DigP} {x : Item} : (otherV l x).length ≤ l.length := by
 unfold otherV
 split
 · exact Nat.le_trans (lessV_le _ _) (belowV_le _ _)
 · exact Nat.zero_le _
theorem take_snocI {xs : List Item} {k : Nat} (h : k < xs.length) : xs.take (k + 1) = xs.take k ++ [xs.getD k T_Item.dflt] := by
 rw [← List.take_append_getElem h, List.getD_eq_getElem?_getD, List.getElem?_eq_getElem h]; rfl
theorem items_succ {s : Sd} {xs : List Item} {k : Nat} (h : k < xs.length) : itemsS s (xs.take (k + 1)) = itemS (itemsS s (xs.take k)) (xs.getD k T_Item.dflt) := by
 unfold itemsS
 rw [take_snocI h, List.foldl_append]; rfl
theorem items_fs {s : Sd} {xs : List Item} (h : okSd s xs) : ∀ k, k ≤ xs.length → (itemsS s (xs.take k)).1 = s.1 ∧ sumsOk s.1 (itemsS s (xs.take k)).2.1 ∧
 (itemsS s (xs.take k)).2.2.1.length ≤ s.2.2.1.length + 4 * k ∧ (itemsS s (xs.take k)).2.2.2.1.length ≤ s.2.2.2.1.length + 1000 * k ∧ (itemsS s (xs.take k)).2.2.2.2.1.length ≤ s.2.2.2.2.1.length + 1000 * k
 | 0, _ => ⟨rfl, h.2.2.1, Nat.le_refl _, Nat.le_refl _, Nat.le_refl _⟩
 | k + 1, hk => by
   obtain ⟨h1, h2, h3, h4, h5⟩ := items_fs h k (by omega)
   obtain ⟨_, g2, _, _, g5, _⟩ := h
   have hx : smallI (xs.getD k T_Item.dflt) := by
    rw [List.getD_eq_getElem?_getD, List.getElem?_eq_getElem (by omega)]
    exact g5 _ (List.getElem_mem _)
   rw [items_succ (by omega)]
   generalize itemsS s (xs.take k) = T at *
   generalize xs.getD k T_Item.dflt = x at *
   unfold itemS
   have o1 := out_le T.1 x
   have o2 := lack_le (l := T.1) (x := x)
   have o3 := other_le (l := T.1) (x := x)
   have hx2 := hx.2
   rw [h1] at o1 o2 o3
   refine ⟨h1, by rw [h1]; exact sumsX_ok x h2, ?_, ?_, ?_⟩
   · dsimp only; rw [List.length_append, h1]; omega
   · dsimp only; rw [List.length_append, h1]; omega
   · dsimp only; rw [List.length_append, h1]; omega
theorem items_all : ∀ (xs : List Item) (s : Sd), (itemsS s xs).1 = s.1 ∧ (itemsS s xs).2.2.1 = s.2.2.1 ++ xs.flatMap (outV s.1) ∧ (itemsS s xs).2.2.2.1 = s.2.2.2.1 ++ xs.flatMap (lackV s.1) ∧ (itemsS s xs).2.2.2.2.1 = s.2.2.2.2.1 ++ xs.flatMap (otherV s.1)
 | [], s => by simp [itemsS]
 | x :: r, s => by
   have e : itemsS s (x :: r) = itemsS (itemS s x) r := rfl
   obtain ⟨h1, h2, h3, h4⟩ := items_all r (itemS s x)
   rw [e, h1, h2, h3, h4]
   refine ⟨rfl, ?_, ?_, ?_⟩
   all_goals rw [List.flatMap_cons, ← List.append_assoc]; rfl

theorem one_bit : ∀ m : Fin 8, ∀ t : Fin 8, (128#8 >>> m.val).getLsbD t.val = decide (t.val = 7 - m.val) := by decide
theorem setB_len (d : DigP) (i : Nat) : (setB d i).length = d.length := by unfold setB; rw [List.length_set]
theorem setB_bit {d : DigP} {i j : Nat} (hd : d.length = 32) (hi : i < 256) : bitV (setB d i) j = (decide (i = j) || bitV d j) := by
 unfold bitV setB
 rw [getD_set (by omega)]
 split
 · rename_i h
   have hb := one_bit ⟨i % 8, by omega⟩ ⟨7 - j % 8, by omega⟩
   dsimp only at hb
   rw [BitVec.getLsbD_or, hb, h, Bool.or_comm]
   congr 1
   rw [decide_eq_decide]
   omega
 · rename_i h
   rw [decide_eq_false (by intro e; exact h (by rw [e])), Bool.false_or]
theorem parts_mem {n : Int} {d : DigP} {q : Pre} (hq : q ∈ partsV (n, d)) (hr : rightB (n, d) = true) (hd : d.length = 32) : ∃ (m : Int) (e : DigP), q = (m, e) ∧ e.length = 32 ∧ rightB (m, e) = true ∧ n < m ∧ m ≤ 256 ∧ (m = n + 2 ∨ m = 256) := by
 obtain ⟨r1, r2, r3⟩ := (right_iff (p := (n, d)) hd).1 hr
 have r1 : (0 : Int) ≤ n := r1
 have r2 : (256 : Int) ≥ n := r2
 have r3 : ∀ i : Nat, i < 256 → (i : Int) ≥ n → bitV d i = false := r3
 have key : ∀ (m : Int) (e : DigP), e.length = 32 → n < m → m ≤ 256 → (m = n + 2 ∨ m = 256) → (∀ i : Nat, i < 256 → (i : Int) ≥ m → bitV e i = false) → ∃ (m' : Int) (e' : DigP), ((m, e) : Pre) = (m', e') ∧ e'.length = 32 ∧ rightB (m', e') = true ∧ n < m' ∧ m' ≤ 256 ∧ (m' = n + 2 ∨ m' = 256) := fun m e h1 h2 h3 h5 h4 =>
  ⟨m, e, rfl, h1, (right_iff (p := (m, e)) h1).2 ⟨(by omega : (0 : Int) ≤ m), h3, h4⟩, h2, h3, h5⟩
 unfold partsV at hq
 split at hq
 · cases hq
 · rename_i hne
   have hne : ¬ n = 256 := hne
   split at hq
   · rename_i h5
     have h5 : n = 255 := h5
     have hl : n < 256 := by omega
     simp only [List.mem_cons, List.not_mem_nil, or_false] at hq
     rcases hq with rfl | rfl
     · exact key 256 d hd hl (Int.le_refl _) (.inr rfl) fun i hi h => by omega
     · exact key 256 _ (by rw [setB_len]; exact hd) hl (Int.le_refl _) (.inr rfl) fun i hi h => by omega
   · rename_i h5
     have h5 : ¬ n = 255 := h5
     obtain ⟨N, rfl⟩ : ∃ N : Nat, n = N := ⟨n.toNat, by omega⟩
     have hlt : N + 1 < 256 := by omega
     have hl : (N : Int) < N + 2 := by omega
     have hm : (N : Int) + 2 ≤ 256 := by omega
     have z : ∀ i : Nat, i < 256 → (i : Int) ≥ N + 2 → bitV d i = false := fun i hi h => r3 i hi (by omega)
     have n0 : ∀ i : Nat, (i : Int) ≥ N + 2 → decide (N = i) = false := fun i h => by rw [decide_eq_false_iff_not]; omega
     have n1 : ∀ i : Nat, (i : Int) ≥ N + 2 → decide (N + 1 = i) = false := fun i h => by rw [decide_eq_false_iff_not]; omega
     simp only [List.mem_cons, List.not_mem_nil, or_false] at hq
     rcases hq with rfl | rfl | rfl | rfl
     · exact key _ _ hd hl hm (.inl rfl) z
     · refine key _ _ (by rw [setB_len]; exact hd) hl hm (.inl rfl) fun i hi h => ?_
       show bitV (setB d (N + 1)) i = false
       rw [setB_bit hd hlt, n1 i h, z i hi h]; rfl
     · refine key _ _ (by rw [setB_len]; exact hd) hl hm (.inl rfl) fun i hi h => ?_
       show bitV (setB d N) i = false
       rw [setB_bit hd (by omega), n0 i h, z i hi h]; rfl
     · refine key _ _ (by rw [setB_len, setB_len]; exact hd) hl hm (.inl rfl) fun i hi h => ?_
       show bitV (setB (setB d N) (N + 1)) i = false
       rw [setB_bit (by rw [setB_len]; exact hd) hlt, setB_bit hd (by omega), n1 i h, n0 i h, z i hi h]; rfl
theorem parts_right {p q : Pre} (hq : q ∈ partsV p) (hr : rightB p = true) (hd : p.2.length = 32) : rightB q = true := by
 obtain ⟨m, e, rfl, _, h, _⟩ := parts_mem (n := p.1) (d := p.2) hq hr hd
 exact h
theorem good_right {x : Item} (h : goodB x = true) : rightB (iP x) = true := by
 unfold goodB at h
 rw [Bool.and_eq_true] at h
 exact h.1
theorem good_kinds {x : Item} (h : goodB x = true) : x.1 = 1 ∨ x.1 = 2 ∨ ((x.1 = 3 ∨ x.1 = 4) ∧ checkS (iL x) = 0) := by
 unfold goodB at h
 rw [Bool.and_eq_true] at h
 have h := h.2
 cases h1 : (x.1 == 1) with
 | true => exact .inl (by simpa using h1)
 | false =>
   cases h2 : (x.1 == 2) with
   | true => exact .inr (.inl (by simpa using h2))
   | false =>
     rw [h1, h2] at h
     simp only [cond_false, Bool.and_eq_true, Bool.or_eq_true, beq_iff_eq, decide_eq_true_eq] at h
     exact .inr (.inr ⟨h.1.1.1.1, h.1.2⟩)
end Go.Sal
