/- Epochs that two sites lead, as plain data. No program in sight. -/
import Derived.Test.YtflcaomdkbnfaaaQSalChk2
import Derived.Test.YtflcaomdkbnfaaaQVseSort
namespace Go.Sal
open Go.Vse
abbrev Sites := List (Int × Int)
/-- a record more: which site leads each epoch first, and the epochs that another one leads too -/
def stepL (st : Sites × List Int) (r : Rec) : Sites × List Int :=
  bif !(r.2.2.2.1 == 1) then st else
  bif !(mget .i64 st.1 r.2.1).isSome then (mput .i64 st.1 r.2.1 r.2.2.2.2.1, st.2) else
  bif (mget .i64 st.1 r.2.1).getD 0 != r.2.2.2.2.1 then (st.1, st.2 ++ [r.2.1]) else st
def leadS (rs : List Rec) : Sites × List Int := rs.foldl stepL ([], [])
def leadsV (cats : List (List Rec)) : List Int := Lib.compact (sortL (leadS cats.flatten).2)
def isLead (r : Rec) : Prop := r.2.2.2.1 = 1
/-- two sites lead it -/
def Two (rs : List Rec) (e : Int) : Prop := ∃ a ∈ rs, ∃ b ∈ rs, isLead a ∧ isLead b ∧ a.2.1 = e ∧ b.2.1 = e ∧ a.2.2.2.2.1 ≠ b.2.2.2.2.1

theorem mgetI_cons (p : Int × Int) (r : List (Int × Int)) (x : Int) : mget .i64 (p :: r) x = if x = p.1 then some p.2 else mget .i64 r x := by
  by_cases h : x = p.1
  · rw [if_pos h]
    show (bif @decide (x = p.1) _ then some p.2 else mget .i64 r x) = _
    rw [decide_eq_true h]; rfl
  · rw [if_neg h]
    show (bif @decide (x = p.1) _ then some p.2 else mget .i64 r x) = _
    rw [decide_eq_false h]; rfl
theorem mgetI (l : List (Int × Int)) (x y z : Int) : mget .i64 (mput .i64 l x y) z = if z = x then some y else mget .i64 l z := by
  induction l with
  | nil => exact mgetI_cons (x, y) [] z
  | cons p r ih =>
    by_cases h : x = p.1
    · have : mput .i64 (p :: r) x y = (p.1, y) :: r := by
        show (bif @decide (x = p.1) _ then (p.1, y) :: r else p :: mput .i64 r x y) = _
        rw [decide_eq_true h]; rfl
      rw [this, mgetI_cons, mgetI_cons]
      simp only [h]
      split <;> rfl
    · have : mput .i64 (p :: r) x y = p :: mput .i64 r x y := by
        show (bif @decide (x = p.1) _ then (p.1, y) :: r else p :: mput .i64 r x y) = _
        rw [decide_eq_false h]; rfl
      rw [this, mgetI_cons, mgetI_cons, ih]
      split
      · rename_i h2
        rw [if_neg (fun h3 => h (h3.symm.trans h2))]
      · rfl
/-- what is known of an epoch -/
def seenL (rs : List Rec) (st : Sites × List Int) (e : Int) : Prop := match mget .i64 st.1 e with
  | none => (∀ r ∈ rs, isLead r → r.2.1 ≠ e) ∧ e ∉ st.2
  | some s => (∃ r ∈ rs, isLead r ∧ r.2.1 = e ∧ r.2.2.2.2.1 = s) ∧ (e ∈ st.2 ↔ ∃ r ∈ rs, isLead r ∧ r.2.1 = e ∧ r.2.2.2.2.1 ≠ s)
theorem seenL_nil (e : Int) : seenL [] ([], []) e := ⟨fun r hr => (by cases hr), fun h => (by cases h)⟩
theorem leadS_snoc (rs : List Rec) (r : Rec) : leadS (rs ++ [r]) = stepL (leadS rs) r := by unfold leadS; rw [List.foldl_append]; rfl
theorem seenL_step {rs : List Rec} {st : Sites × List Int} (r : Rec) (h : ∀ e, seenL rs st e) : ∀ e, seenL (rs ++ [r]) (stepL st r) e := by
  intro e
  have he := h e
  unfold stepL
  have memA : ∀ x : Rec, x ∈ rs ++ [r] ↔ x ∈ rs ∨ x = r := fun x => by simp
  by_cases hk : r.2.2.2.1 = 1
  · rw [show (r.2.2.2.1 == (1 : Int)) = true by simpa using hk, Bool.not_true, cond_false]
    have hr := h r.2.1
    cases hm : mget .i64 st.1 r.2.1 with
    | none =>
      simp only [Option.isSome_none, Bool.not_false, cond_true]
      unfold seenL
      rw [mgetI]
      unfold seenL at hr; rw [hm] at hr
      by_cases hE : e = r.2.1
      · rw [if_pos hE]
        refine ⟨⟨r, by simp, hk, hE.symm, rfl⟩, ⟨fun q => absurd (hE ▸ q) hr.2, ?_⟩⟩
        rintro ⟨x, hx, hl, h1, h2⟩
        rcases (memA x).1 hx with hx | rfl
        · exact absurd (h1.trans hE) (hr.1 x hx hl)
        · exact absurd rfl h2
      · rw [if_neg hE]
        unfold seenL at he
        cases hm2 : mget .i64 st.1 e with
        | none =>
          rw [hm2] at he
          refine ⟨fun x hx hl => ?_, he.2⟩
          rcases (memA x).1 hx with hx | rfl
          · exact he.1 x hx hl
          · exact fun q => hE q.symm
        | some s =>
          rw [hm2] at he
          refine ⟨?_, he.2.trans ⟨?_, ?_⟩⟩
          · obtain ⟨x, hx, q⟩ := he.1; exact ⟨x, (memA x).2 (.inl hx), q⟩
          · rintro ⟨x, hx, q⟩; exact ⟨x, (memA x).2 (.inl hx), q⟩
          · rintro ⟨x, hx, hl, h1, h2⟩
            rcases (memA x).1 hx with hx | rfl
            · exact ⟨x, hx, hl, h1, h2⟩
            · exact absurd h1.symm hE
    | some s0 =>
      simp only [Option.isSome_some, Bool.not_true, cond_false, Option.getD_some]
      unfold seenL at hr; rw [hm] at hr
      by_cases hs : s0 = r.2.2.2.2.1
      · rw [show (s0 != r.2.2.2.2.1) = false by simpa [bne] using hs, cond_false]
        unfold seenL
        unfold seenL at he
        cases hm2 : mget .i64 st.1 e with
        | none =>
          rw [hm2] at he
          refine ⟨fun x hx hl => ?_, he.2⟩
          rcases (memA x).1 hx with hx | rfl
          · exact he.1 x hx hl
          · intro q; rw [q, hm2] at hm; cases hm
        | some s =>
          rw [hm2] at he
          refine ⟨?_, he.2.trans ⟨?_, ?_⟩⟩
          · obtain ⟨x, hx, q⟩ := he.1; exact ⟨x, (memA x).2 (.inl hx), q⟩
          · rintro ⟨x, hx, q⟩; exact ⟨x, (memA x).2 (.inl hx), q⟩
          · rintro ⟨x, hx, hl, h1, h2⟩
            rcases (memA x).1 hx with hx | rfl
            · exact ⟨x, hx, hl, h1, h2⟩
            · rw [h1, hm2] at hm; cases hm; exact absurd hs.symm h2
      · rw [show (s0 != r.2.2.2.2.1) = true by simpa [bne] using hs, cond_true]
        unfold seenL
        unfold seenL at he
        simp only
        cases hm2 : mget .i64 st.1 e with
        | none =>
          rw [hm2] at he
          refine ⟨fun x hx hl => ?_, ?_⟩
          · rcases (memA x).1 hx with hx | rfl
            · exact he.1 x hx hl
            · intro q; rw [q, hm2] at hm; cases hm
          · intro q
            rcases List.mem_append.1 q with q | q
            · exact he.2 q
            · rw [List.mem_singleton] at q; rw [q, hm] at hm2; cases hm2
        | some s =>
          rw [hm2] at he
          refine ⟨?_, ⟨fun q => ?_, ?_⟩⟩
          · obtain ⟨x, hx, q⟩ := he.1; exact ⟨x, (memA x).2 (.inl hx), q⟩
          · rcases List.mem_append.1 q with q | q
            · obtain ⟨x, hx, q⟩ := he.2.1 q; exact ⟨x, (memA x).2 (.inl hx), q⟩
            · rw [List.mem_singleton] at q
              rw [q, hm] at hm2; cases hm2
              exact ⟨r, (memA r).2 (.inr rfl), hk, q.symm, fun q => hs q.symm⟩
          · rintro ⟨x, hx, hl, h1, h2⟩
            rcases (memA x).1 hx with hx | rfl
            · exact List.mem_append.2 (.inl (he.2.2 ⟨x, hx, hl, h1, h2⟩))
            · exact List.mem_append.2 (.inr (by rw [List.mem_singleton, h1]))
  · rw [show (r.2.2.2.1 == (1 : Int)) = false by simpa using hk, Bool.not_false, cond_true]
    unfold seenL
    unfold seenL at he
    cases hm2 : mget .i64 st.1 e with
    | none =>
      rw [hm2] at he
      refine ⟨fun x hx hl => ?_, he.2⟩
      rcases (memA x).1 hx with hx | rfl
      · exact he.1 x hx hl
      · exact absurd hl hk
    | some s =>
      rw [hm2] at he
      refine ⟨?_, he.2.trans ⟨?_, ?_⟩⟩
      · obtain ⟨x, hx, q⟩ := he.1; exact ⟨x, (memA x).2 (.inl hx), q⟩
      · rintro ⟨x, hx, q⟩; exact ⟨x, (memA x).2 (.inl hx), q⟩
      · rintro ⟨x, hx, hl, h1, h2⟩
        rcases (memA x).1 hx with hx | rfl
        · exact ⟨x, hx, hl, h1, h2⟩
        · exact absurd hl hk
theorem seenL_all (rs : List Rec) : ∀ e, seenL rs (leadS rs) e := by
  induction h : rs.length generalizing rs with
  | zero =>
    have : rs = [] := List.length_eq_zero_iff.1 h
    subst this; exact seenL_nil
  | succ n ih =>
    have hne : rs ≠ [] := fun e => by rw [e] at h; cases h
    rw [← List.dropLast_concat_getLast hne, leadS_snoc]
    exact seenL_step _ (ih _ (by rw [List.length_dropLast]; omega))
theorem mem_leadS (rs : List Rec) (e : Int) : e ∈ (leadS rs).2 ↔ Two rs e := by
  have h := seenL_all rs e
  unfold seenL at h
  cases hm : mget .i64 (leadS rs).1 e with
  | none =>
    rw [hm] at h
    constructor
    · intro q; exact absurd q h.2
    · rintro ⟨a, ha, b, hb, la, lb, ea, eb, _⟩; exact absurd ea (h.1 a ha la)
  | some s =>
    rw [hm] at h
    constructor
    · intro q
      obtain ⟨x, hx, lx, ex, sx⟩ := h.2.1 q
      obtain ⟨y, hy, ly, ey, sy⟩ := h.1
      exact ⟨x, hx, y, hy, lx, ly, ex, ey, fun q => sx (q.trans sy)⟩
    · rintro ⟨a, ha, b, hb, la, lb, ea, eb, hne⟩
      by_cases h1 : a.2.2.2.2.1 = s
      · exact h.2.2 ⟨b, hb, lb, eb, fun q => hne (h1.trans q.symm)⟩
      · exact h.2.2 ⟨a, ha, la, ea, h1⟩
theorem leadS_len (rs : List Rec) : (leadS rs).2.length ≤ rs.length := by
  induction h : rs.length generalizing rs with
  | zero =>
    have : rs = [] := List.length_eq_zero_iff.1 h
    subst this; exact Nat.le_refl _
  | succ n ih =>
    have hne : rs ≠ [] := fun e => by rw [e] at h; cases h
    have := ih rs.dropLast (by rw [List.length_dropLast]; omega)
    rw [← List.dropLast_concat_getLast hne, leadS_snoc]
    unfold stepL
    cases (!((rs.getLast hne).2.2.2.1 == (1 : Int))) with
    | true => simp only [cond_true]; omega
    | false =>
      simp only [cond_false]
      cases (!(mget .i64 (leadS rs.dropLast).1 (rs.getLast hne).2.1).isSome) with
      | true => simp only [cond_true]; omega
      | false =>
        simp only [cond_false]
        cases ((mget .i64 (leadS rs.dropLast).1 (rs.getLast hne).2.1).getD 0 != (rs.getLast hne).2.2.2.2.1) with
        | true => simp only [cond_true, List.length_append, List.length_cons, List.length_nil]; omega
        | false => simp only [cond_false]; omega

-- sorted, each once
theorem sortL_sorted (xs : List Int) : (sortL xs).Pairwise (· ≤ ·) := by
  have := List.pairwise_mergeSort (le := leI) (fun a b c h1 h2 => by unfold leI at *; simp only [decide_eq_true_eq] at *; omega) (fun a b => by unfold leI; simp only [Bool.or_eq_true, decide_eq_true_eq]; omega) xs
  exact this.imp fun h => by unfold leI at h; simpa using h
theorem get!_list (zs : List Int) {i : Nat} (h : i < zs.length) : zs.toArray[i]! = zs[i] := by
  rw [getElem!_pos _ i (by simpa using h)]; simp
theorem compact_sorted {zs : List Int} (h : zs.Pairwise (· ≤ ·)) : (Lib.compact zs).Pairwise (· < ·) := by
  have hm : ∀ i j (hj : j < zs.length) (hij : i ≤ j), zs[i]'(by omega) ≤ zs[j] := fun i j hj hij => by
    rcases Nat.lt_or_ge i j with hlt | hge
    · exact List.pairwise_iff_getElem.1 h i j (by omega) hj hlt
    · obtain rfl : i = j := by omega
      exact Int.le_refl _
  unfold Lib.compact Lib.compactUpTo
  rw [List.pairwise_map]
  refine List.Pairwise.imp_of_mem (R := fun a b => a < b) ?_ ((List.pairwise_lt_range).filter _)
  intro a b ha hb hab
  have hb' := List.mem_range.1 (List.mem_filter.1 hb).1
  have hk := (List.mem_filter.1 hb).2
  rw [get!_list zs (by omega), get!_list zs hb']
  unfold Lib.keeps at hk
  have hb0 : b ≠ 0 := by omega
  simp only [hb0, Bool.or_eq_true, bne_iff_ne, decide_eq_true_eq, false_or, ne_eq, not_false_eq_true] at hk
  rw [get!_list zs hb', get!_list zs (by omega)] at hk
  have h1 := hm a (b - 1) (by omega) (by omega)
  have h2 := hm (b - 1) b hb' (by omega)
  omega
theorem compact_all (zs : List Int) : ∀ x ∈ zs, x ∈ Lib.compact zs := by
  have key : ∀ n, ∀ i, (hi : i < zs.length) → i ≤ n → zs[i] ∈ Lib.compact zs := by
    intro n
    induction n with
    | zero =>
      intro i hi h0
      obtain rfl : i = 0 := by omega
      unfold Lib.compact Lib.compactUpTo
      refine List.mem_map.2 ⟨0, List.mem_filter.2 ⟨List.mem_range.2 hi, Lib.keeps_lt_one _ 0 (by omega)⟩, get!_list zs hi⟩
    | succ n ih =>
      intro i hi hn
      by_cases h0 : i = 0
      · exact ih i hi (by omega)
      · by_cases he : zs[i] = zs[i - 1]
        · rw [he]; exact ih (i - 1) (by omega) (by omega)
        · unfold Lib.compact Lib.compactUpTo
          refine List.mem_map.2 ⟨i, List.mem_filter.2 ⟨List.mem_range.2 hi, Lib.keeps_pos ?_⟩, get!_list zs hi⟩
          rw [get!_list zs hi, get!_list zs (by omega)]; exact he
  intro x hx
  obtain ⟨i, hi, rfl⟩ := List.getElem_of_mem hx
  exact key i i hi (Nat.le_refl _)
theorem leadsV_sorted (cats : List (List Rec)) : (leadsV cats).Pairwise (· < ·) := compact_sorted (sortL_sorted _)
theorem mem_leadsV (cats : List (List Rec)) (e : Int) : e ∈ leadsV cats ↔ Two cats.flatten e := by
  rw [← mem_leadS]
  constructor
  · intro h; exact (sortL_perm _).mem_iff.1 (compact_mem _ _ h)
  · intro h; exact compact_all _ _ ((sortL_perm _).mem_iff.2 h)
theorem leadsV_len (cats : List (List Rec)) : (leadsV cats).length ≤ cats.flatten.length :=
  Nat.le_trans (compact_len _) (by rw [(sortL_perm _).length_eq]; exact leadS_len _)
/-- the next one of a rising list is the least one above the last -/
theorem nextE_of {E : List Int} (hs : E.Pairwise (· < ·)) {n : Nat} (hn : n ≤ E.length) {b : Int} (hb : b ∈ E) (hlim : n = 0 ∨ E.getD (n - 1) 0 < b) (hmin : ∀ e ∈ E, (n = 0 ∨ E.getD (n - 1) 0 < e) → b ≤ e) : n < E.length ∧ E.getD n 0 = b := by
  have hg : ∀ {i}, (h : i < E.length) → E.getD i 0 = E[i] := fun h => by rw [List.getD_eq_getElem?_getD, List.getElem?_eq_getElem h]; rfl
  have hp := List.pairwise_iff_getElem.1 hs
  obtain ⟨j, hj, rfl⟩ := List.getElem_of_mem hb
  have hnj : n ≤ j := by
    rcases Nat.lt_or_ge j n with h | h
    · exfalso
      rcases hlim with h0 | h0
      · omega
      · rw [hg (by omega : n - 1 < E.length)] at h0
        rcases Nat.lt_or_ge j (n - 1) with h2 | h2
        · have := hp j (n - 1) hj (by omega) h2; omega
        · obtain rfl : j = n - 1 := by omega
          omega
    · exact h
  have hlt : n < E.length := by omega
  refine ⟨hlt, ?_⟩
  rw [hg hlt]
  have h1 := hmin E[n] (List.getElem_mem hlt) (by
    by_cases h0 : n = 0
    · exact .inl h0
    · right; rw [hg (by omega : n - 1 < E.length)]; exact hp (n - 1) n (by omega) hlt (by omega))
  rcases Nat.lt_or_ge n j with h2 | h2
  · have := hp n j hlt hj h2; omega
  · obtain rfl : n = j := by omega
    rfl
theorem noneE_of {E : List Int} (hs : E.Pairwise (· < ·)) {n : Nat} (hn : n ≤ E.length) (h : ∀ e ∈ E, ¬ (n = 0 ∨ E.getD (n - 1) 0 < e)) : n = E.length := by
  have hg : ∀ {i}, (h : i < E.length) → E.getD i 0 = E[i] := fun h => by rw [List.getD_eq_getElem?_getD, List.getElem?_eq_getElem h]; rfl
  rcases Nat.lt_or_ge n E.length with hlt | hge
  · exfalso
    refine h E[n] (List.getElem_mem hlt) ?_
    by_cases h0 : n = 0
    · exact .inl h0
    · right; rw [hg (by omega : n - 1 < E.length)]; exact List.pairwise_iff_getElem.1 hs (n - 1) n (by omega) hlt (by omega)
  · omega
-- by pairs
def isLeadB (r : Rec) : Bool := r.2.2.2.1 == 1
def allL (rs : List Rec) : List Rec := rs.filter isLeadB
def eAt (all : List Rec) (i : Nat) : Int := (all.getD i T_Rec.dflt).2.1
def sAt (all : List Rec) (i : Nat) : Int := (all.getD i T_Rec.dflt).2.2.2.2.1
/-- a pair that tells an epoch above the last that was found -/
def candV (all : List Rec) (out : List Int) (i k : Nat) : Bool := (eAt all k == eAt all i) && !(sAt all k == sAt all i) && !(decide (0 < (out.length : Int)) && decide (eAt all i ≤ out.getD (out.length - 1) 0))
theorem two_pairs (rs : List Rec) (e : Int) : Two rs e ↔ ∃ i k, k < i ∧ i < (allL rs).length ∧ eAt (allL rs) i = e ∧ eAt (allL rs) k = e ∧ sAt (allL rs) k ≠ sAt (allL rs) i := by
  have hg : ∀ {i}, (h : i < (allL rs).length) → (allL rs).getD i T_Rec.dflt = (allL rs)[i] := fun h => by rw [List.getD_eq_getElem?_getD, List.getElem?_eq_getElem h]; rfl
  have hl : ∀ r : Rec, isLeadB r = true ↔ isLead r := fun r => by unfold isLeadB isLead; exact beq_iff_eq
  constructor
  · rintro ⟨a, ha, b, hb, la, lb, ea, eb, hne⟩
    have ma : a ∈ allL rs := List.mem_filter.2 ⟨ha, (hl a).2 la⟩
    have mb : b ∈ allL rs := List.mem_filter.2 ⟨hb, (hl b).2 lb⟩
    obtain ⟨i, hi, ei⟩ := List.getElem_of_mem ma
    obtain ⟨k, hk, ek⟩ := List.getElem_of_mem mb
    have hik : i ≠ k := fun q => by subst q; rw [ei] at ek; subst ek; exact hne rfl
    rcases Nat.lt_or_ge k i with h | h
    · refine ⟨i, k, h, hi, ?_, ?_, ?_⟩
      · unfold eAt; rw [hg hi, ei]; exact ea
      · unfold eAt; rw [hg hk, ek]; exact eb
      · unfold sAt; rw [hg hi, ei, hg hk, ek]; exact fun q => hne q.symm
    · refine ⟨k, i, by omega, hk, ?_, ?_, ?_⟩
      · unfold eAt; rw [hg hk, ek]; exact eb
      · unfold eAt; rw [hg hi, ei]; exact ea
      · unfold sAt; rw [hg hi, ei, hg hk, ek]; exact hne
  · rintro ⟨i, k, h, hi, e1, e2, hs⟩
    have hk : k < (allL rs).length := by omega
    unfold eAt at e1 e2
    unfold sAt at hs
    rw [hg hi] at e1 hs
    rw [hg hk] at e2 hs
    have m1 := List.mem_filter.1 (show (allL rs)[i] ∈ List.filter isLeadB rs from List.getElem_mem hi)
    have m2 := List.mem_filter.1 (show (allL rs)[k] ∈ List.filter isLeadB rs from List.getElem_mem hk)
    exact ⟨_, m1.1, _, m2.1, (hl _).1 m1.2, (hl _).1 m2.2, e1, e2, fun q => hs q.symm⟩
end Go.Sal
