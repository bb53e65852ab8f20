/- Digests in order: the order, choosing the least, sorting by that; the laws of these. No program in sight. -/
import Derived.Test.YtglkhgodeghnlaaWSalRec
import Derived.Test.YtglkhgodeghnlaaWSalLess
set_option maxRecDepth 100000
namespace Go.Sal
open Go.Vse
abbrev DigP := T_Dig.den
def cmpV : Bytes → Bytes → Int
 | [], [] => 0
 | [], _ :: _ => -1
 | _ :: _, [] => 1
 | a :: r, b :: s => if a.toNat < b.toNat then -1 else if b.toNat < a.toNat then 1 else cmpV r s
def ascB (l : List DigP) (i : Nat) : Bool := decide (cmpV (l.getD i T_Dig.dflt) (l.getD (i + 1) T_Dig.dflt) < 0)
def ascV (l : List DigP) : Bool := (List.range (l.length - 1)).all (ascB l)
def sameDg (a b : List DigP) : Bool := decide (a = b)
abbrev dig0 : DigP := T_Dig.dflt
def minTo (l : List DigP) : Nat → Nat
 | 0 => 0
 | i + 1 => if lessL (l.getD i dig0) (l.getD (minTo l i) dig0) = true then i else minTo l i
def minIx (l : List DigP) : Nat := minTo l l.length
def remV (l : List DigP) : List DigP := l.take (minIx l) ++ l.drop (minIx l + 1)
def restI (l : List DigP) : Nat → List DigP
 | 0 => l
 | j + 1 => remV (restI l j)
def outI (l : List DigP) (j : Nat) : List DigP := (List.range j).map fun i => (restI l i).getD (minIx (restI l i)) dig0
def sortV (l : List DigP) : List DigP := outI l l.length
def keepB (l : List DigP) (i : Nat) : Bool := decide (i = 0) || !(l.getD i dig0 == l.getD (i - 1) dig0)
def onceI (l : List DigP) (i : Nat) : List DigP := ((List.range i).filter (keepB l)).map fun k => l.getD k dig0
def onceV (l : List DigP) : List DigP := onceI l l.length
def risV (l : List DigP) : List DigP := onceV (sortV l)
theorem cmp_less : ∀ a b : Bytes, decide (cmpV a b < 0) = lessL a b
 | [], [] => rfl
 | [], _ :: _ => rfl
 | _ :: _, [] => rfl
 | x :: a, y :: b => by
   have ih := cmp_less a b
   unfold cmpV lessL
   have e : decide (x < y) = decide (x.toNat < y.toNat) := rfl
   rw [e]
   split
   · rename_i h; simp [h]
   · rename_i h
     split
     · rename_i k
       have : ¬ x = y := fun e => by subst e; omega
       simp [h, this]
     · rename_i k
       have : x = y := BitVec.eq_of_toNat_eq (by omega)
       subst this
       simp [ih]
theorem cmp_zero : ∀ a b : Bytes, cmpV a b = 0 ↔ a = b
 | [], [] => by simp [cmpV]
 | [], _ :: _ => by simp [cmpV]
 | _ :: _, [] => by simp [cmpV]
 | x :: a, y :: b => by
   have ih := cmp_zero a b
   unfold cmpV
   split
   · rename_i h
     simp only [List.cons.injEq]
     exact ⟨fun h => absurd h (by decide), fun e => by rw [e.1] at h; omega⟩
   · split
     · rename_i h
       simp only [List.cons.injEq]
       exact ⟨fun h => absurd h (by decide), fun e => by rw [e.1] at h; omega⟩
     · rename_i h k
       have : x = y := BitVec.eq_of_toNat_eq (by omega)
       subst this
       simp [ih]
theorem minTo_lt (l : List DigP) : ∀ i, 1 ≤ i → minTo l i < i
 | 1, _ => by
   have e : minTo l 1 = 0 := by
    show (if _ then 0 else 0) = 0
    split <;> rfl
   rw [e]; omega
 | i + 2, _ => by
   have := minTo_lt l (i + 1) (by omega)
   unfold minTo
   split <;> omega
theorem minTo_least (l : List DigP) : ∀ i j, j < i → lessL (l.getD j dig0) (l.getD (minTo l i) dig0) = false
 | 0, j, h => by omega
 | i + 1, j, h => by
   unfold minTo
   by_cases hj : j < i
   · have ih := minTo_least l i j hj
     split
     · rename_i hl
       exact lessL_lele (lessL_asym hl) ih
     · exact ih
   · have : j = i := by omega
     subst this
     split
     · exact lessL_irr _
     · rename_i hl; simpa using hl
theorem minIx_lt {l : List DigP} (h : l ≠ []) : minIx l < l.length := minTo_lt l l.length (List.length_pos_iff.2 h)
theorem remV_length {l : List DigP} (h : l ≠ []) : (remV l).length = l.length - 1 := by
 have := minIx_lt h
 unfold remV
 rw [List.length_append, List.length_take, List.length_drop]
 omega
theorem restI_length (l : List DigP) : ∀ j, j ≤ l.length → (restI l j).length = l.length - j
 | 0, _ => rfl
 | j + 1, h => by
   have ih := restI_length l j (by omega)
   unfold restI
   rw [remV_length (fun e => by rw [e] at ih; simp at ih; omega), ih]
   omega
theorem remV_mem {l : List DigP} {d : DigP} (h : d ∈ remV l) : d ∈ l := by
 unfold remV at h
 rw [List.mem_append] at h
 rcases h with h | h
 · exact List.mem_of_mem_take h
 · exact List.mem_of_mem_drop h
theorem remV_perm {l : List DigP} (h : l ≠ []) : l.Perm (l.getD (minIx l) dig0 :: remV l) := by
 have hm := minIx_lt h
 have e : l = l.take (minIx l) ++ l.getD (minIx l) dig0 :: l.drop (minIx l + 1) := by
  rw [getD_lt hm, ← List.drop_eq_getElem_cons hm, List.take_append_drop]
 have := List.perm_middle (a := l.getD (minIx l) dig0) (l₁ := l.take (minIx l)) (l₂ := l.drop (minIx l + 1))
 rw [← e] at this
 exact this
theorem outI_length (l : List DigP) (j : Nat) : (outI l j).length = j := by unfold outI; simp
theorem outI_succ (l : List DigP) (j : Nat) : outI l (j + 1) = outI l j ++ [(restI l j).getD (minIx (restI l j)) dig0] := by
 unfold outI
 rw [List.range_succ, List.map_append]; rfl
theorem out_perm (l : List DigP) : ∀ j, j ≤ l.length → l.Perm (outI l j ++ restI l j)
 | 0, _ => by simp [outI, restI]
 | j + 1, h => by
   have ih := out_perm l j (by omega)
   have hl := restI_length l j (by omega)
   have hp := remV_perm (l := restI l j) (fun e => by rw [e] at hl; simp at hl; omega)
   rw [outI_succ, List.append_assoc]
   exact ih.trans (hp.append_left _)
theorem sort_perm (l : List DigP) : l.Perm (sortV l) := by
 have h := out_perm l l.length (Nat.le_refl _)
 have hl := restI_length l l.length (Nat.le_refl _)
 rw [List.eq_nil_of_length_eq_zero (by omega : (restI l l.length).length = 0), List.append_nil] at h
 exact h
theorem sort_length (l : List DigP) : (sortV l).length = l.length := outI_length l l.length
def upB (a b : Bytes) : Prop := lessL b a = false
theorem out_up (l : List DigP) : ∀ j, j ≤ l.length → (outI l j).Pairwise upB ∧ ∀ a ∈ outI l j, ∀ b ∈ restI l j, upB a b
 | 0, _ => ⟨by simp [outI], fun a h => by simp [outI] at h⟩
 | j + 1, h => by
   obtain ⟨h1, h2⟩ := out_up l j (by omega)
   have hl := restI_length l j (by omega)
   have hne : restI l j ≠ [] := fun e => by rw [e] at hl; simp at hl; omega
   have hm : (restI l j).getD (minIx (restI l j)) dig0 ∈ restI l j := by rw [getD_lt (minIx_lt hne)]; exact List.getElem_mem _
   have hleast : ∀ b ∈ restI l j, upB ((restI l j).getD (minIx (restI l j)) dig0) b := by
    intro b hb
    obtain ⟨k, hk, rfl⟩ := List.getElem_of_mem hb
    have := minTo_least (restI l j) (restI l j).length k hk
    rw [getD_lt hk] at this
    exact this
   rw [outI_succ]
   refine ⟨List.pairwise_append.2 ⟨h1, by simp, fun a ha b hb => ?_⟩, fun a ha b hb => ?_⟩
   · rw [List.mem_singleton] at hb
     subst hb
     exact h2 a ha _ hm
   · have hb' : b ∈ restI l j := remV_mem hb
     rw [List.mem_append, List.mem_singleton] at ha
     rcases ha with ha | rfl
     · exact h2 a ha b hb'
     · exact hleast b hb'
theorem sort_up (l : List DigP) : (sortV l).Pairwise upB := (out_up l l.length (Nat.le_refl _)).1
def risesB (a b : Bytes) : Prop := lessL a b = true
theorem onceI_succ (l : List DigP) (i : Nat) : onceI l (i + 1) = if keepB l i = true then onceI l i ++ [l.getD i dig0] else onceI l i := by
 unfold onceI
 rw [List.range_succ, List.filter_append, List.map_append]
 cases h : keepB l i <;> simp [h]
theorem once_rises {l : List DigP} (h : l.Pairwise upB) : ∀ i, i ≤ l.length → (onceI l i).Pairwise risesB ∧ (∀ a ∈ onceI l i, ∀ k, k + 1 = i → upB a (l.getD k dig0)) ∧ (∀ k, k < i → l.getD k dig0 ∈ onceI l i) ∧ ∀ a ∈ onceI l i, a ∈ l
 | 0, _ => ⟨by simp [onceI], fun a ha => by simp [onceI] at ha, fun k hk => by omega, fun a ha => by simp [onceI] at ha⟩
 | i + 1, hi => by
   obtain ⟨h1, h2, h3, h4⟩ := once_rises h i (by omega)
   have hge : ∀ a ∈ onceI l i, upB a (l.getD i dig0) := by
    intro a ha
    by_cases h0 : i = 0
    · subst h0; simp [onceI] at ha
    · have := h2 a ha (i - 1) (by omega)
      have hp : upB (l.getD (i - 1) dig0) (l.getD i dig0) := by
       rw [getD_lt (by omega), getD_lt (by omega)]
       exact List.pairwise_iff_getElem.1 h _ _ _ _ (by omega)
      exact lessL_lele this hp
   rw [onceI_succ]
   split
   · rename_i hk
     refine ⟨List.pairwise_append.2 ⟨h1, by simp, fun a ha b hb => ?_⟩, fun a ha k hk' => ?_, fun k hk' => ?_, fun a ha => ?_⟩
     · rw [List.mem_singleton] at hb
       subst hb
       by_cases h0 : i = 0
       · subst h0; simp [onceI] at ha
       · have hk2 : (l.getD i dig0 == l.getD (i - 1) dig0) = false := by
           unfold keepB at hk
           simpa [h0] using hk
         have ha' := h2 a ha (i - 1) (by omega)
         have hp : upB (l.getD (i - 1) dig0) (l.getD i dig0) := by
          rw [getD_lt (by omega), getD_lt (by omega)]
          exact List.pairwise_iff_getElem.1 h _ _ _ _ (by omega)
         have hlt : lessL (l.getD (i - 1) dig0) (l.getD i dig0) = true := by
          cases hq : lessL (l.getD (i - 1) dig0) (l.getD i dig0) with
          | true => rfl
          | false =>
            have := lessL_tri hq hp
            rw [this] at hk2; simp at hk2
         exact lessL_ltle ha' hlt
     · have : k = i := by omega
       subst this
       rw [List.mem_append, List.mem_singleton] at ha
       rcases ha with ha | rfl
       · exact hge a ha
       · exact lessL_irr _
     · rw [List.mem_append]
       by_cases hlt : k < i
       · exact .inl (h3 k hlt)
       · have : k = i := by omega
         subst this; exact .inr (by simp)
     · rw [List.mem_append, List.mem_singleton] at ha
       rcases ha with ha | rfl
       · exact h4 a ha
       · rw [getD_lt (by omega)]; exact List.getElem_mem _
   · rename_i hk
     have h0 : ¬ i = 0 := fun e => by subst e; simp [keepB] at hk
     have hk2 : l.getD i dig0 = l.getD (i - 1) dig0 := by
      unfold keepB at hk
      simpa [h0] using hk
     refine ⟨h1, fun a ha k hk' => ?_, fun k hk' => ?_, h4⟩
     · have : k = i := by omega
       subst this; exact hge a ha
     · by_cases hlt : k < i
       · exact h3 k hlt
       · have : k = i := by omega
         subst this
         rw [hk2]; exact h3 (k - 1) (by omega)
theorem ris_rises (l : List DigP) : (risV l).Pairwise risesB := (once_rises (sort_up l) _ (Nat.le_refl _)).1
theorem ris_mem (l : List DigP) (a : DigP) : a ∈ risV l ↔ a ∈ l := by
 obtain ⟨_, _, h3, h4⟩ := once_rises (sort_up l) _ (Nat.le_refl _)
 constructor
 · exact fun h => (sort_perm l).mem_iff.2 (h4 a h)
 · intro h
   obtain ⟨k, hk, rfl⟩ := List.getElem_of_mem ((sort_perm l).mem_iff.1 h)
   have := h3 k hk
   rw [getD_lt hk] at this
   exact this
theorem rises_ext : ∀ {l m : List DigP}, l.Pairwise risesB → m.Pairwise risesB → (∀ a, a ∈ l ↔ a ∈ m) → l = m
 | [], [], _, _, _ => rfl
 | [], b :: m, _, _, h => by have := (h b).2 (by simp); cases this
 | a :: l, [], _, _, h => by have := (h a).1 (by simp); cases this
 | a :: l, b :: m, hl, hm, h => by
   rw [List.pairwise_cons] at hl hm
   have e : a = b := by
    rcases List.mem_cons.1 ((h a).1 (by simp)) with e | h1
    · exact e
    · rcases List.mem_cons.1 ((h b).2 (by simp)) with e | h2
      · exact e.symm
      · have := lessL_trans (hl.1 b h2) (hm.1 a h1)
        rw [lessL_irr] at this; cases this
   subst e
   congr 1
   refine rises_ext hl.2 hm.2 fun c => ?_
   constructor
   · intro hc
     rcases List.mem_cons.1 ((h c).1 (List.mem_cons_of_mem _ hc)) with e | h1
     · subst e
       have := hl.1 c hc
       unfold risesB at this
       rw [lessL_irr] at this; cases this
     · exact h1
   · intro hc
     rcases List.mem_cons.1 ((h c).2 (List.mem_cons_of_mem _ hc)) with e | h1
     · subst e
       have := hm.1 c hc
       unfold risesB at this
       rw [lessL_irr] at this; cases this
     · exact h1
theorem asc_pair {l : List DigP} : ascV l = true ↔ l.Pairwise risesB := by
 unfold ascV ascB
 rw [List.all_eq_true]
 constructor
 · intro h
   have key : ∀ d i (hd : i + d + 1 < l.length), lessL (l[i]'(by omega)) (l[i + d + 1]) = true := by
    intro d
    induction d with
    | zero =>
      intro i hd
      have := h i (List.mem_range.2 (by omega))
      rw [cmp_less, getD_lt (by omega), getD_lt (by omega)] at this
      exact this
    | succ d ih =>
      intro i hd
      have h1 := ih i (by omega)
      have := h (i + d + 1) (List.mem_range.2 (by omega))
      rw [cmp_less, getD_lt (by omega), getD_lt (by omega)] at this
      exact lessL_trans h1 this
   rw [List.pairwise_iff_getElem]
   intro i j hi hj hij
   have := key (j - i - 1) i (by omega)
   have e : i + (j - i - 1) + 1 = j := by omega
   simp only [e] at this
   exact this
 · intro h i hi
   rw [List.mem_range] at hi
   rw [cmp_less, getD_lt (by omega), getD_lt (by omega)]
   exact List.pairwise_iff_getElem.1 h _ _ _ _ (by omega)
end Go.Sal
