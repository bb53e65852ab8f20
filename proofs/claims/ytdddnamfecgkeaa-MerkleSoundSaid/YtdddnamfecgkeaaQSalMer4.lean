/- Trees of hashes: nothing else is taken, or two unlike texts have one sum. No program in sight. -/
import Derived.Test.YtdddnamfecgkeaaQSalMer3
set_option maxRecDepth 100000
namespace Go.Sal
open Go.Vse
def ntext (l r : Dig) : Bytes := [1#8] ++ l ++ r
theorem node_text (l r : Dig) : nodeV l r = sha (ntext l r) := rfl
def textsV (l : List Dig) : List Bytes :=
  if l.length < 2 then [[]] else textsV (l.take (partN l.length)) ++ textsV (l.drop (partN l.length)) ++ [ntext (rootV (l.take (partN l.length))) (rootV (l.drop (partN l.length)))]
termination_by l.length
decreasing_by
  all_goals
    have h3 := partN_lt (n := l.length) (by omega)
    have h4 := partN_pos l.length
    simp only [List.length_take, List.length_drop]
    omega
theorem textsV_small {l : List Dig} (h : l.length < 2) : textsV l = [[]] := by rw [textsV, if_pos h]
theorem textsV_step {l : List Dig} (h : ¬ l.length < 2) : textsV l = textsV (l.take (partN l.length)) ++ textsV (l.drop (partN l.length)) ++ [ntext (rootV (l.take (partN l.length))) (rootV (l.drop (partN l.length)))] := by
  rw [textsV, if_neg h]
theorem textsV_len' : ∀ (k : Nat) (l : List Dig), l.length ≤ k → 1 ≤ l.length → (textsV l).length + 1 ≤ 2 * l.length
  | 0, l, h, h1 => by omega
  | k + 1, l, h, h1 => by
    by_cases h2 : l.length < 2
    · rw [textsV_small h2]; simp only [List.length_cons, List.length_nil]; omega
    · have h3 := partN_lt (n := l.length) (by omega)
      have h4 := partN_pos l.length
      have a := textsV_len' k (l.take (partN l.length)) (by rw [List.length_take]; omega) (by rw [List.length_take]; omega)
      have b := textsV_len' k (l.drop (partN l.length)) (by rw [List.length_drop]; omega) (by rw [List.length_drop]; omega)
      rw [List.length_take] at a
      rw [List.length_drop] at b
      rw [textsV_step h2]
      simp only [List.length_append, List.length_cons, List.length_nil]
      omega
theorem textsV_len (l : List Dig) : (textsV l).length ≤ 2 * l.length + 1 := by
  by_cases h : l.length < 2
  · rw [textsV_small h]; simp
  · have := textsV_len' _ l (Nat.le_refl _) (by omega); omega
/-- what is summed where a path is looked at: of the proof's digests from the last on -/
def ptR (leaf : Dig) : List Dig → Int → Int → List Bytes
  | [], _, _ => []
  | last :: rest, i, n => if n ≤ 1 ∨ i < 0 ∨ n ≤ i then [] else
    if i < (partN n.toNat : Int) then ptR leaf rest i (partN n.toNat) ++ [ntext (madeR leaf zero32 rest i (partN n.toNat)).1 last]
    else ptR leaf rest (i - (partN n.toNat : Int)) (n - (partN n.toNat : Int)) ++ [ntext last (madeR leaf zero32 rest (i - (partN n.toNat : Int)) (n - (partN n.toNat : Int))).1]
def ptV (leaf : Dig) (i n : Int) (p : List Dig) : List Bytes := ptR leaf p.reverse i n
def gtR (was : Dig) : List Dig → Int → Int → Bool → List Bytes
  | [], _, _, _ => []
  | last :: rest, m, n, w => if m < 1 ∨ n ≤ m then [] else
    if m ≤ (partN n.toNat : Int) then gtR was rest m (partN n.toNat) w ++ [ntext (grownR was was rest m (partN n.toNat) w).1.2 last]
    else gtR was rest (m - (partN n.toNat : Int)) (n - (partN n.toNat : Int)) false ++ [ntext last (grownR was was rest (m - (partN n.toNat : Int)) (n - (partN n.toNat : Int)) false).1.1, ntext last (grownR was was rest (m - (partN n.toNat : Int)) (n - (partN n.toNat : Int)) false).1.2]
def gtV (was : Dig) (m n : Int) (w : Bool) (p : List Dig) : List Bytes := gtR was p.reverse m n w
theorem ptR_len (leaf : Dig) : ∀ (p : List Dig) (i n : Int), (ptR leaf p i n).length ≤ p.length
  | [], _, _ => Nat.le_refl _
  | last :: rest, i, n => by
    unfold ptR
    split
    · simp
    · split
      · have := ptR_len leaf rest i (partN n.toNat)
        simp only [List.length_append, List.length_cons, List.length_nil]; omega
      · have := ptR_len leaf rest (i - (partN n.toNat : Int)) (n - (partN n.toNat : Int))
        simp only [List.length_append, List.length_cons, List.length_nil]; omega
theorem gtR_len (was : Dig) : ∀ (p : List Dig) (m n : Int) (w : Bool), (gtR was p m n w).length ≤ 2 * p.length
  | [], _, _, _ => Nat.le_refl _
  | last :: rest, m, n, w => by
    unfold gtR
    split
    · simp
    · split
      · have := gtR_len was rest m (partN n.toNat) w
        simp only [List.length_append, List.length_cons, List.length_nil]; omega
      · have := gtR_len was rest (m - (partN n.toNat : Int)) (n - (partN n.toNat : Int)) false
        simp only [List.length_append, List.length_cons, List.length_nil]; omega
-- all digests have 32 bytes
def d32 (l : List Dig) : Prop := ∀ d ∈ l, d.length = 32
theorem rootV_32 : ∀ (k : Nat) (l : List Dig), l.length ≤ k → d32 l → (rootV l).length = 32
  | 0, l, h, _ => by rw [rootV_zero (by omega)]; exact sha_length _
  | k + 1, l, h, hd => by
    by_cases h0 : l.length = 0
    · rw [rootV_zero h0]; exact sha_length _
    · by_cases h1 : l.length = 1
      · rw [rootV_one h1, getD_lt (by omega)]; exact hd _ (List.getElem_mem _)
      · rw [rootV_step (by omega)]; exact sha_length _
theorem d32_take {l : List Dig} (h : d32 l) (k : Nat) : d32 (l.take k) := fun d hd => h d (List.mem_of_mem_take hd)
theorem d32_drop {l : List Dig} (h : d32 l) (k : Nat) : d32 (l.drop k) := fun d hd => h d (List.mem_of_mem_drop hd)
theorem made_32 {leaf : Dig} (hl : leaf.length = 32) : ∀ (p : List Dig) (i n : Int), (madeR leaf zero32 p i n).1.length = 32
  | [], i, n => by
    unfold madeR
    split
    · exact hl
    · rfl
  | last :: rest, i, n => by
    unfold madeR
    split
    · exact hl
    · split <;> exact sha_length _
theorem grown_32 {was : Dig} (hw : was.length = 32) : ∀ (p : List Dig) (m n : Int) (w : Bool), d32 p → (grownR was was p m n w).1.1.length = 32 ∧ (grownR was was p m n w).1.2.length = 32
  | [], m, n, w, _ => by
    unfold grownR
    split
    · split <;> exact ⟨hw, hw⟩
    · exact ⟨hw, hw⟩
  | last :: rest, m, n, w, hd => by
    have hl := hd last (by simp)
    have hr : d32 rest := fun d h => hd d (by simp [h])
    unfold grownR
    split
    · split
      · exact ⟨hw, hw⟩
      · split
        · exact ⟨hl, hl⟩
        · exact ⟨hw, hw⟩
    · split
      · exact ⟨(grown_32 hw rest _ _ _ hr).1, sha_length _⟩
      · exact ⟨sha_length _, sha_length _⟩
theorem ntext_inj {a b c d : Dig} (ha : a.length = 32) (hc : c.length = 32) (h : ntext a b = ntext c d) : a = c ∧ b = d := by
  unfold ntext at h
  simp only [List.cons_append, List.nil_append, List.cons.injEq, true_and] at h
  exact List.append_inj h (by rw [ha, hc])
def Clashing (A B : List Bytes) : Prop := ∃ x, x ∈ A ∧ ∃ y, y ∈ B ∧ sha x = sha y ∧ ¬ x = y
theorem Clashing.more {A B A' B' : List Bytes} (hA : ∀ x ∈ A, x ∈ A') (hB : ∀ x ∈ B, x ∈ B') (h : Clashing A B) : Clashing A' B' := by
  obtain ⟨x, hx, y, hy, e⟩ := h
  exact ⟨x, hA x hx, y, hB y hy, e⟩
theorem in_clash : ∀ (k : Nat) (l : List Dig) (p : List Dig) (i : Nat) (leaf : Dig), l.length ≤ k → i < l.length → d32 l → leaf.length = 32 → ¬ leaf = l.getD i T_Dig.dflt →
    madeR leaf zero32 p (i : Int) (l.length : Int) = (rootV l, true) → Clashing (textsV l) (ptR leaf p (i : Int) (l.length : Int))
  | 0, l, _, i, _, h, hi, _, _, _, _ => by omega
  | k + 1, l, p, i, leaf, h, hi, hd, hl, hne, hm => by
    by_cases h1 : l.length = 1
    · have hi0 : i = 0 := by omega
      subst hi0
      rw [rootV_one h1] at hm
      cases p with
      | nil =>
        unfold madeR at hm
        rw [if_pos (by omega)] at hm
        exact absurd (congrArg Prod.fst hm) hne
      | cons last rest =>
        unfold madeR at hm
        rw [if_pos (by omega)] at hm
        have := congrArg Prod.snd hm
        cases this
    · have h2 : ¬ l.length < 2 := by omega
      have h3 := partN_lt (n := l.length) (by omega)
      have h4 := partN_pos l.length
      have ht : (l.take (partN l.length)).length = partN l.length := by rw [List.length_take]; omega
      have hdl : (l.drop (partN l.length)).length = l.length - partN l.length := List.length_drop
      have en : ((l.length : Int)).toNat = l.length := by omega
      have ra := rootV_32 _ (l.take (partN l.length)) (Nat.le_refl _) (d32_take hd _)
      cases p with
      | nil =>
        unfold madeR at hm
        rw [if_neg (by omega)] at hm
        have := congrArg Prod.snd hm
        cases this
      | cons last rest =>
        unfold madeR at hm
        rw [if_neg (by omega), en, rootV_step (by omega)] at hm
        unfold ptR
        rw [if_neg (by omega), en, textsV_step h2]
        by_cases c : (i : Int) < (partN l.length : Int)
        · rw [if_pos c] at hm ⊢
          have e1 := congrArg Prod.fst hm
          have e2 := congrArg Prod.snd hm
          simp only at e1 e2
          have e1 : sha (ntext (madeR leaf zero32 rest (i : Int) (partN l.length : Int)).1 last) = sha (ntext (rootV (l.take (partN l.length))) (rootV (l.drop (partN l.length)))) := e1
          by_cases et : ntext (madeR leaf zero32 rest (i : Int) (partN l.length : Int)).1 last = ntext (rootV (l.take (partN l.length))) (rootV (l.drop (partN l.length)))
          · obtain ⟨x1, _⟩ := ntext_inj (made_32 hl _ _ _) ra et
            have ih := in_clash k (l.take (partN l.length)) rest i leaf (by omega) (by omega) (d32_take hd _) hl (by
              rw [List.getD_eq_getElem?_getD, List.getElem?_take, if_pos (by omega), ← List.getD_eq_getElem?_getD]; exact hne) (by rw [ht]; exact Prod.ext x1 e2)
            rw [ht] at ih
            exact ih.more (fun x hx => by simp [hx]) (fun x hx => by simp [hx])
          · exact ⟨_, by simp, _, by simp, e1.symm, fun e => et e.symm⟩
        · rw [if_neg c] at hm ⊢
          have e1 := congrArg Prod.fst hm
          have e2 := congrArg Prod.snd hm
          simp only at e1 e2
          have q1 : (i : Int) - (partN l.length : Int) = ((i - partN l.length : Nat) : Int) := by omega
          have q2 : (l.length : Int) - (partN l.length : Int) = ((l.length - partN l.length : Nat) : Int) := by omega
          rw [q1, q2] at e1 e2 ⊢
          have e1 : sha (ntext last (madeR leaf zero32 rest ((i - partN l.length : Nat) : Int) ((l.length - partN l.length : Nat) : Int)).1) = sha (ntext (rootV (l.take (partN l.length))) (rootV (l.drop (partN l.length)))) := e1
          by_cases et : ntext last (madeR leaf zero32 rest ((i - partN l.length : Nat) : Int) ((l.length - partN l.length : Nat) : Int)).1 = ntext (rootV (l.take (partN l.length))) (rootV (l.drop (partN l.length)))
          · have x1 : (madeR leaf zero32 rest ((i - partN l.length : Nat) : Int) ((l.length - partN l.length : Nat) : Int)).1 = rootV (l.drop (partN l.length)) := by
              have hlen := congrArg List.length et
              have rb := rootV_32 _ (l.drop (partN l.length)) (Nat.le_refl _) (d32_drop hd _)
              have mx := made_32 hl rest ((i - partN l.length : Nat) : Int) ((l.length - partN l.length : Nat) : Int)
              unfold ntext at hlen et
              simp only [List.length_append, List.length_cons, List.length_nil] at hlen
              simp only [List.cons_append, List.nil_append, List.cons.injEq, true_and] at et
              exact (List.append_inj et (by omega)).2
            have ih := in_clash k (l.drop (partN l.length)) rest (i - partN l.length) leaf (by omega) (by omega) (d32_drop hd _) hl (by
              rw [List.getD_eq_getElem?_getD, List.getElem?_drop, show partN l.length + (i - partN l.length) = i by omega, ← List.getD_eq_getElem?_getD]; exact hne) (by rw [hdl]; exact Prod.ext x1 e2)
            rw [hdl] at ih
            exact ih.more (fun x hx => by simp [hx]) (fun x hx => by simp [hx])
          · exact ⟨_, by simp, _, by simp, e1.symm, fun e => et e.symm⟩
theorem grow_clash : ∀ (k : Nat) (l : List Dig) (p : List Dig) (m : Nat) (was : Dig) (w : Bool), l.length ≤ k → 1 ≤ m → m ≤ l.length → d32 l → d32 p → was.length = 32 → (grownR was was p (m : Int) (l.length : Int) w).2 = true →
    (grownR was was p (m : Int) (l.length : Int) w).1.2 = rootV l → ¬ (grownR was was p (m : Int) (l.length : Int) w).1.1 = rootV (l.take m) → Clashing (textsV l) (gtR was p (m : Int) (l.length : Int) w)
  | 0, l, _, m, _, _, h, h1, h2, _, _, _, _, _, _ => by omega
  | k + 1, l, p, m, was, w, h, h1, h2, hd, hp, hw, hok, hb, hne => by
    by_cases hm : m = l.length
    · exfalso
      have et : l.take m = l := by rw [hm]; exact List.take_of_length_le (Nat.le_refl _)
      rw [et] at hne
      rw [hm] at hok hb hne
      cases p with
      | nil =>
        unfold grownR at hok hb hne
        rw [if_pos rfl] at hok hb hne
        cases w with
        | true => rw [if_pos rfl] at hb hne; exact hne hb
        | false => rw [if_neg (by decide)] at hok; cases hok
      | cons last rest =>
        unfold grownR at hok hb hne
        rw [if_pos rfl] at hok hb hne
        cases w with
        | true => rw [if_pos rfl] at hok; cases hok
        | false =>
          rw [if_neg (by decide)] at hok hb hne
          by_cases hr : rest.length = 0
          · rw [if_pos hr] at hb hne; exact hne hb
          · rw [if_neg hr] at hok; cases hok
    · have h2' : ¬ l.length < 2 := by omega
      have h3 := partN_lt (n := l.length) (by omega)
      have h4 := partN_pos l.length
      have ht : (l.take (partN l.length)).length = partN l.length := by rw [List.length_take]; omega
      have hdl : (l.drop (partN l.length)).length = l.length - partN l.length := List.length_drop
      have en : ((l.length : Int)).toNat = l.length := by omega
      have ra := rootV_32 _ (l.take (partN l.length)) (Nat.le_refl _) (d32_take hd _)
      cases p with
      | nil =>
        unfold grownR at hok
        rw [if_neg (by omega)] at hok
        cases hok
      | cons last rest =>
        have hl32 := hp last (by simp)
        have hr : d32 rest := fun d h => hp d (by simp [h])
        unfold grownR at hok hb hne
        rw [if_neg (by omega), en] at hok hb hne
        unfold gtR
        rw [if_neg (by omega), en, textsV_step h2']
        rw [rootV_step (by omega)] at hb
        by_cases c : (m : Int) ≤ (partN l.length : Int)
        · rw [if_pos c] at hok hb hne ⊢
          have hb : sha (ntext (grownR was was rest (m : Int) (partN l.length : Int) w).1.2 last) = sha (ntext (rootV (l.take (partN l.length))) (rootV (l.drop (partN l.length)))) := hb
          by_cases et : ntext (grownR was was rest (m : Int) (partN l.length : Int) w).1.2 last = ntext (rootV (l.take (partN l.length))) (rootV (l.drop (partN l.length)))
          · obtain ⟨x1, _⟩ := ntext_inj (grown_32 hw rest _ _ _ hr).2 ra et
            have e1 : (l.take (partN l.length)).take m = l.take m := by rw [List.take_take]; congr 1; omega
            have ih := grow_clash k (l.take (partN l.length)) rest m was w (by omega) h1 (by omega) (d32_take hd _) hr hw (by rw [ht]; exact hok) (by rw [ht]; exact x1) (by rw [ht, e1]; exact hne)
            rw [ht] at ih
            exact ih.more (fun x hx => by simp [hx]) (fun x hx => by simp [hx])
          · exact ⟨_, by simp, _, by simp, hb.symm, fun e => et e.symm⟩
        · rw [if_neg c] at hok hb hne ⊢
          have q1 : (m : Int) - (partN l.length : Int) = ((m - partN l.length : Nat) : Int) := by omega
          have q2 : (l.length : Int) - (partN l.length : Int) = ((l.length - partN l.length : Nat) : Int) := by omega
          rw [q1, q2] at hok hb hne ⊢
          have hb : sha (ntext last (grownR was was rest ((m - partN l.length : Nat) : Int) ((l.length - partN l.length : Nat) : Int) false).1.2) = sha (ntext (rootV (l.take (partN l.length))) (rootV (l.drop (partN l.length)))) := hb
          by_cases et : ntext last (grownR was was rest ((m - partN l.length : Nat) : Int) ((l.length - partN l.length : Nat) : Int) false).1.2 = ntext (rootV (l.take (partN l.length))) (rootV (l.drop (partN l.length)))
          · obtain ⟨x1, x2⟩ := ntext_inj hl32 ra et
            have htm : (l.take m).length = m := by rw [List.length_take]; omega
            have hpm : partN m = partN l.length := partN_same (by omega) h2
            have e3 : rootV (l.take m) = nodeV (rootV (l.take (partN l.length))) (rootV ((l.drop (partN l.length)).take (m - partN l.length))) := by
              rw [rootV_step (l := l.take m) (by omega), htm, hpm, List.take_take, List.drop_take]
              congr 3; omega
            have ih := grow_clash k (l.drop (partN l.length)) rest (m - partN l.length) was false (by omega) (by omega) (by omega) (d32_drop hd _) hr hw (by rw [hdl]; exact hok) (by rw [hdl]; exact x2) (by
              rw [hdl]
              intro e
              refine hne ?_
              rw [e3, ← x1, ← e])
            rw [hdl] at ih
            exact ih.more (fun x hx => by simp [hx]) (fun x hx => by simp [hx])
          · exact ⟨_, by simp, ntext last (grownR was was rest ((m - partN l.length : Nat) : Int) ((l.length - partN l.length : Nat) : Int) false).1.2, by simp, hb.symm, fun e => et e.symm⟩
theorem ntext_len {a b : Dig} (ha : a.length = 32) (hb : b.length = 32) : (ntext a b).length ≤ 1000000 := by
  unfold ntext
  simp only [List.length_append, List.length_cons, List.length_nil]; omega
theorem textsV_mem : ∀ (k : Nat) (l : List Dig), l.length ≤ k → d32 l → ∀ t ∈ textsV l, t.length ≤ 1000000
  | 0, l, h, _ => by
    rw [textsV_small (by omega)]
    intro t ht
    rw [List.mem_singleton] at ht; rw [ht]; simp
  | k + 1, l, h, hd => by
    by_cases h2 : l.length < 2
    · rw [textsV_small h2]
      intro t ht
      rw [List.mem_singleton] at ht; rw [ht]; simp
    · have h3 := partN_lt (n := l.length) (by omega)
      have h4 := partN_pos l.length
      rw [textsV_step h2]
      intro t ht
      rw [List.mem_append, List.mem_append, List.mem_singleton] at ht
      rcases ht with (ht | ht) | ht
      · exact textsV_mem k (l.take (partN l.length)) (by rw [List.length_take]; omega) (d32_take hd _) t ht
      · exact textsV_mem k (l.drop (partN l.length)) (by rw [List.length_drop]; omega) (d32_drop hd _) t ht
      · rw [ht]; exact ntext_len (rootV_32 _ _ (Nat.le_refl _) (d32_take hd _)) (rootV_32 _ _ (Nat.le_refl _) (d32_drop hd _))
theorem ptR_mem {leaf : Dig} (hl : leaf.length = 32) : ∀ (p : List Dig) (i n : Int), d32 p → ∀ t ∈ ptR leaf p i n, t.length ≤ 1000000
  | [], _, _, _ => by intro t ht; cases ht
  | last :: rest, i, n, hd => by
    have hl32 := hd last (by simp)
    have hr : d32 rest := fun d h => hd d (by simp [h])
    intro t ht
    unfold ptR at ht
    split at ht
    · cases ht
    · split at ht
      · rw [List.mem_append, List.mem_singleton] at ht
        rcases ht with ht | ht
        · exact ptR_mem hl rest _ _ hr t ht
        · rw [ht]; exact ntext_len (made_32 hl _ _ _) hl32
      · rw [List.mem_append, List.mem_singleton] at ht
        rcases ht with ht | ht
        · exact ptR_mem hl rest _ _ hr t ht
        · rw [ht]; exact ntext_len hl32 (made_32 hl _ _ _)
theorem gtR_mem {was : Dig} (hw : was.length = 32) : ∀ (p : List Dig) (m n : Int) (w : Bool), d32 p → ∀ t ∈ gtR was p m n w, t.length ≤ 1000000
  | [], _, _, _, _ => by intro t ht; cases ht
  | last :: rest, m, n, w, hd => by
    have hl32 := hd last (by simp)
    have hr : d32 rest := fun d h => hd d (by simp [h])
    intro t ht
    unfold gtR at ht
    split at ht
    · cases ht
    · split at ht
      · rw [List.mem_append, List.mem_singleton] at ht
        rcases ht with ht | ht
        · exact gtR_mem hw rest _ _ _ hr t ht
        · rw [ht]; exact ntext_len (grown_32 hw _ _ _ _ hr).2 hl32
      · rw [List.mem_append, List.mem_cons, List.mem_singleton] at ht
        rcases ht with ht | ht | ht
        · exact gtR_mem hw rest _ _ _ hr t ht
        · rw [ht]; exact ntext_len hl32 (grown_32 hw _ _ _ _ hr).1
        · rw [ht]; exact ntext_len hl32 (grown_32 hw _ _ _ _ hr).2
theorem d32_rev {p : List Dig} (h : d32 p) : d32 p.reverse := fun d hd => h d (List.mem_reverse.1 hd)
theorem ptV_mem {leaf : Dig} (hl : leaf.length = 32) {p : List Dig} {i n : Int} (h : d32 p) : ∀ t ∈ ptV leaf i n p, t.length ≤ 1000000 := ptR_mem hl _ _ _ (d32_rev h)
theorem gtV_mem {was : Dig} (hw : was.length = 32) {p : List Dig} {m n : Int} {w : Bool} (h : d32 p) : ∀ t ∈ gtV was m n w p, t.length ≤ 1000000 := gtR_mem hw _ _ _ _ (d32_rev h)
theorem ptV_len (leaf : Dig) (i n : Int) (p : List Dig) : (ptV leaf i n p).length ≤ p.length := by
  have := ptR_len leaf p.reverse i n; rwa [List.length_reverse] at this
theorem gtV_len (was : Dig) (m n : Int) (w : Bool) (p : List Dig) : (gtV was m n w p).length ≤ 2 * p.length := by
  have := gtR_len was p.reverse m n w; rwa [List.length_reverse] at this
-- two unlike texts of one sum
def pairV (l : List Bytes) (i k : Nat) : Bool := (sha (l.getD i []) == sha (l.getD k [])) && !(l.getD i [] == l.getD k [])
def clashB (l : List Bytes) : Bool := (List.range l.length).any fun i => (List.range i).any fun k => pairV l i k
theorem clash_mem {l : List Bytes} (h : Clashing l l) : clashB l = true := by
  obtain ⟨x, hx, y, hy, e, hne⟩ := h
  obtain ⟨i, hi, ei⟩ := List.getElem_of_mem hx
  obtain ⟨j, hj, ej⟩ := List.getElem_of_mem hy
  have key : ∀ {a b : Nat} (ha : a < l.length) (_ : b < a) (_ : sha (l.getD a []) = sha (l.getD b [])) (_ : ¬ l.getD a [] = l.getD b []), clashB l = true := fun {a b} ha hb h1 h2 => by
    unfold clashB
    rw [List.any_eq_true]
    refine ⟨a, List.mem_range.2 ha, ?_⟩
    rw [List.any_eq_true]
    refine ⟨b, List.mem_range.2 hb, ?_⟩
    unfold pairV
    simp only [Bool.and_eq_true, beq_iff_eq, Bool.not_eq_true', beq_eq_false_iff_ne, ne_eq]
    exact ⟨h1, h2⟩
  have gi : l.getD i [] = x := by rw [← ei]; exact getD_lt hi
  have gj : l.getD j [] = y := by rw [← ej]; exact getD_lt hj
  rcases Nat.lt_trichotomy i j with h | h | h
  · exact key hj h (by rw [gi, gj, e]) (by rw [gi, gj]; exact fun q => hne q.symm)
  · subst h
    exact absurd (gi.symm.trans gj) hne
  · exact key hi h (by rw [gi, gj, e]) (by rw [gi, gj]; exact hne)
theorem clash_of {l : List Bytes} {a b : Nat} (ha : a < l.length) (hb : b < a) (h : pairV l a b = true) : clashB l = true := by
  unfold clashB
  rw [List.any_eq_true]
  refine ⟨a, List.mem_range.2 ha, ?_⟩
  rw [List.any_eq_true]
  exact ⟨b, List.mem_range.2 hb, h⟩
def rowB (l : List Bytes) (a : Nat) : Bool := (List.range a).any fun k => pairV l a k
theorem rowB_none {l : List Bytes} {a : Nat} (h : ∀ b, b < a → pairV l a b = false) : rowB l a = false := by
  unfold rowB
  rw [List.any_eq_false]
  intro b hb
  rw [h b (List.mem_range.1 hb)]; decide
theorem clashB_none {l : List Bytes} (h : ∀ a, a < l.length → rowB l a = false) : clashB l = false := by
  unfold clashB
  rw [List.any_eq_false]
  intro a ha e
  have := h a (List.mem_range.1 ha)
  unfold rowB at this
  rw [this] at e; cases e
theorem in_out {root leaf : Dig} {i n : Int} {p : List Dig} (h : ¬ (0 ≤ i ∧ i < n)) : inV root leaf i n p = false := by
  unfold inV; rw [if_neg (by omega)]
theorem grownB_out {was now : Dig} {m n : Int} {p : List Dig} (h : ¬ (0 ≤ m ∧ m ≤ n)) : grownB was now m n p = false := by
  unfold grownB; rw [if_neg (by omega)]
theorem in_sound {l : List Dig} {leaf : Dig} {i : Int} {p : List Dig} (hd : d32 l) (hl : leaf.length = 32) (h : inV (rootV l) leaf i (l.length : Int) p = true) (hne : ¬ (0 ≤ i ∧ i < (l.length : Int) ∧ l.getD i.toNat T_Dig.dflt = leaf)) : Clashing (textsV l) (ptV leaf i (l.length : Int) p) := by
  have hr : 0 ≤ i ∧ i < (l.length : Int) := by
    refine Decidable.byContradiction fun c => ?_
    rw [in_out c] at h; cases h
  have ei : i = (i.toNat : Int) := by omega
  have hb : (madeV' leaf leaf i (l.length : Int) p).2 = true ∧ (madeV' leaf leaf i (l.length : Int) p).1 = rootV l := by
    unfold inV at h
    split at h
    · simpa [and_comm] using h
    · cases h
  have hs := madeR_same leaf leaf zero32 p.reverse i (l.length : Int)
  have hm : madeR leaf zero32 p.reverse i (l.length : Int) = (rootV l, true) := Prod.ext ((hs.2 hb.1).symm.trans hb.2) (hs.1.symm.trans hb.1)
  have hx := in_clash l.length l p.reverse i.toNat leaf (Nat.le_refl _) (by omega) hd hl (fun e => hne ⟨hr.1, hr.2, e.symm⟩) (by rw [← ei]; exact hm)
  rw [← ei] at hx
  exact hx
theorem grown_sound {l : List Dig} {was : Dig} {m : Int} {q : List Dig} (hd : d32 l) (hq : d32 q) (hw : was.length = 32) (h0 : 0 ≤ m) (h1 : m ≤ (l.length : Int)) (h : grownB was (rootV l) m (l.length : Int) q = true) (hne : ¬ rootV (l.take m.toNat) = was) : Clashing (textsV l) (gtV was m (l.length : Int) true q) := by
  unfold grownB at h
  split at h
  · split at h
    · rename_i hm
      rw [hm] at hne
      simp only [Bool.and_eq_true, beq_iff_eq] at h
      exact absurd ((rootV_zero rfl).trans h.1.2.symm) hne
    · simp only [Bool.and_eq_true, beq_iff_eq] at h
      have em : m = (m.toNat : Int) := by omega
      have hx := grow_clash l.length l q.reverse m.toNat was true (Nat.le_refl _) (by omega) (by omega) hd (d32_rev hq) hw (by rw [← em]; exact h.1) (by rw [← em]; exact h.2.2) (by
        rw [← em]
        intro e
        exact hne (e.symm.trans h.2.1))
      rw [← em] at hx
      exact hx
  · cases h
end Go.Sal
