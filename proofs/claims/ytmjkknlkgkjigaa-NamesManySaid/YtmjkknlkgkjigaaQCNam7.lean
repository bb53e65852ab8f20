/- A namespace and the document's: one has what the other has. -/
import Derived.Test.YtmjkknlkgkjigaaQCNam6
set_option maxRecDepth 100000
namespace Go.Sal
open Go.Vse Go.Sal.Nm

structure okL (es : Files) (L : List Fil) : Prop where
  perm : (es.map (·.2)).Perm L
  rise : L.Pairwise fun a b => lessL a.1 b.1 = true
  some : ∀ f ∈ L, f.1 ≠ []
  path : pathsN es
  keys : keysN es
theorem okL_nil : okL [] [] := ⟨List.Perm.refl _, List.Pairwise.nil, fun f h => (by cases h), fun p h => (by cases h), List.nodup_nil⟩
theorem okL_len {es : Files} {L : List Fil} (h : okL es L) : L.length = es.length := by
  rw [← h.perm.length_eq, List.length_map]
theorem okL_has {es : Files} {L : List Fil} (h : okL es L) (p : List (BitVec 8)) : (L.any fun f => f.1 == p) = (mget .str es p).isSome := by
  cases hg : mget .str es p with
  | some f =>
    have hm := mget_mem hg
    have h1 : f ∈ L := h.perm.mem_iff.1 (List.mem_map.2 ⟨_, hm, rfl⟩)
    rw [List.any_eq_true.2 ⟨f, h1, by simpa using h.path _ hm⟩]; rfl
  | none =>
    rw [Option.isSome_none, List.any_eq_false]
    intro f hf
    obtain ⟨q, hq, rfl⟩ := List.mem_map.1 (h.perm.mem_iff.2 hf)
    intro e
    have e : q.2.1 = p := by simpa using e
    have e2 : q.1 = p := (h.path q hq).symm.trans e
    have : mget .str es q.1 = some q.2 := (Go.Vse.mget_mem (k := .str) h.keys).2 hq
    rw [e2, hg] at this; cases this
theorem find_neg (L : List Fil) (p : List (BitVec 8)) : decide (findV L p < 0) = !(L.any fun f => f.1 == p) := by
  unfold findV hasV
  cases L.any fun f => f.1 == p with
  | true =>
    rw [cond_true]
    exact decide_eq_false (by omega)
  | false => rfl
theorem may_same {es : Files} {L : List Fil} (h : okL es L) (r : Rec) : rmayV L r = mayV es r := by
  unfold rmayV mayV
  rw [find_neg, okL_has h, okL_len h]
theorem fold_put {r : Rec} : ∀ (L acc : List Fil), L.foldl (rputS r) (acc, true) = (acc ++ L.filter fun f => f.1 != r.2.2.2.2.2.1, true)
  | [], acc => by simp
  | f :: t, acc => by
    rw [List.foldl_cons]
    have e : rputS r (acc, true) f = (bif f.1 != r.2.2.2.2.2.1 then acc ++ [f] else acc, true) := rfl
    rw [e]
    cases h : f.1 != r.2.2.2.2.2.1 with
    | true => rw [cond_true, fold_put, List.filter_cons_of_pos (by rw [h]), List.append_assoc]; rfl
    | false => rw [cond_false, fold_put, List.filter_cons_of_neg (by rw [h]; decide)]
/-- a file among the others -/
def insV (r : Rec) : List Fil → List Fil
  | [] => [fileOf r]
  | f :: t => bif lessL f.1 r.2.2.2.2.2.1 then f :: insV r t else fileOf r :: ((f :: t).filter fun f => f.1 != r.2.2.2.2.2.1)
def closeV (r : Rec) (s : List Fil × Bool) : List Fil := bif !s.2 then s.1 ++ [fileOf r] else s.1
theorem fold_ins {r : Rec} : ∀ (L acc : List Fil), closeV r (L.foldl (rputS r) (acc, false)) = acc ++ insV r L
  | [], acc => rfl
  | f :: t, acc => by
    rw [List.foldl_cons]
    unfold insV
    cases h : lessL f.1 r.2.2.2.2.2.1 with
    | true =>
      have hne : (f.1 != r.2.2.2.2.2.1) = true := by
        cases he : f.1 != r.2.2.2.2.2.1 with
        | true => rfl
        | false =>
          rw [bne_eq_false_iff_eq.1 he, lessL_irr] at h; cases h
      have e : rputS r (acc, false) f = (acc ++ [f], false) := by
        unfold rputS; rw [h, hne]; rfl
      rw [e, fold_ins, cond_true, List.append_assoc]; rfl
    | false =>
      have e : rputS r (acc, false) f = rputS r (acc ++ [fileOf r], true) f := by
        unfold rputS; rw [h]; rfl
      rw [e, ← List.foldl_cons (f := rputS r), fold_put, cond_false]
      show (acc ++ [fileOf r]) ++ _ = _
      rw [List.append_assoc]; rfl
theorem rput_eq (L : List Fil) (r : Rec) : rputV L r = bif r.2.2.2.1 == 2 then insV r L else L.filter fun f => f.1 != r.2.2.2.2.2.1 := by
  have e : rputV L r = closeV r (L.foldl (rputS r) ([], r.2.2.2.1 != 2)) := by
    unfold rputV rputK closeV
    rw [List.take_length]
  rw [e]
  cases h : r.2.2.2.1 == 2 with
  | true =>
    have h : (r.2.2.2.1 != 2) = false := by
      have : r.2.2.2.1 = 2 := by simpa using h
      rw [this]; rfl
    rw [h, fold_ins, cond_true]; rfl
  | false =>
    have h : (r.2.2.2.1 != 2) = true := by
      have : ¬ r.2.2.2.1 = 2 := by simpa using h
      simpa using this
    rw [h, fold_put, cond_false]; rfl
theorem ins_perm {r : Rec} : ∀ (L : List Fil), (insV r L).Perm (fileOf r :: L.filter fun f => f.1 != r.2.2.2.2.2.1)
  | [] => List.Perm.refl _
  | f :: t => by
    unfold insV
    cases h : lessL f.1 r.2.2.2.2.2.1 with
    | true =>
      have hne : (f.1 != r.2.2.2.2.2.1) = true := by
        cases he : f.1 != r.2.2.2.2.2.1 with
        | true => rfl
        | false => rw [bne_eq_false_iff_eq.1 he, lessL_irr] at h; cases h
      rw [cond_true, List.filter_cons_of_pos (by rw [hne])]
      exact ((ins_perm t).cons f).trans (List.Perm.swap _ _ _)
    | false => exact List.Perm.refl _
theorem ins_mem {r : Rec} {L : List Fil} {f : Fil} (h : f ∈ insV r L) : f = fileOf r ∨ f ∈ L := by
  rcases List.mem_cons.1 ((ins_perm L).mem_iff.1 h) with h | h
  · exact .inl h
  · exact .inr (List.mem_filter.1 h).1
theorem ins_rise {r : Rec} : ∀ {L : List Fil}, (L.Pairwise fun a b => lessL a.1 b.1 = true) → (insV r L).Pairwise fun a b => lessL a.1 b.1 = true
  | [], _ => List.pairwise_singleton _ _
  | f :: t, h => by
    obtain ⟨h1, h2⟩ := List.pairwise_cons.1 h
    unfold insV
    cases hl : lessL f.1 r.2.2.2.2.2.1 with
    | true =>
      rw [cond_true]
      refine List.pairwise_cons.2 ⟨fun g hg => ?_, ins_rise h2⟩
      rcases ins_mem hg with rfl | hg
      · exact hl
      · exact h1 g hg
    | false =>
      rw [cond_false]
      refine List.pairwise_cons.2 ⟨fun g hg => ?_, List.Pairwise.filter _ h⟩
      obtain ⟨g1, g2⟩ := List.mem_filter.1 hg
      have g2 : ¬ g.1 = r.2.2.2.2.2.1 := by simpa using g2
      show lessL r.2.2.2.2.2.1 g.1 = true
      cases hr : lessL r.2.2.2.2.2.1 g.1 with
      | true => rfl
      | false =>
        exfalso
        rcases List.mem_cons.1 g1 with rfl | g1
        · exact g2 (lessL_tri hl hr)
        · have := h1 g g1
          cases hb : lessL g.1 r.2.2.2.2.2.1 with
          | false => exact g2 (lessL_tri hb hr)
          | true => rw [lessL_trans this hb] at hl; cases hl
theorem filter_map {es : Files} {p : List (BitVec 8)} (hp : pathsN es) : ((es.filter fun q => haveI := T.str.deq; !decide (p = q.1)).map (·.2)) = (es.map (·.2)).filter fun f => f.1 != p := by
  rw [List.filter_map]
  congr 1
  refine List.filter_congr fun q hq => ?_
  show (!@decide (p = q.1) _) = (q.2.1 != p)
  rw [hp q hq]
  by_cases h : p = q.1
  · subst h; simp
  · have h2 : ¬ q.1 = p := fun e => h e.symm
    simp [h, h2]
theorem path_ne {r : Rec} (h : checkV r = 0) (hk : r.2.2.2.1 = 2 ∨ r.2.2.2.1 = 3) : r.2.2.2.2.2.1 ≠ [] := by
  have hf := check_fits h
  unfold fitsV at hf
  rcases hk with hk | hk
  · rw [if_neg (by rw [hk]; decide), if_neg (by rw [hk]; decide), if_pos hk] at hf
    simp only [Bool.and_eq_true] at hf
    intro e; rw [e] at hf
    exact absurd hf.1.2 (by decide)
  · rw [if_neg (by rw [hk]; decide), if_pos hk] at hf
    simp only [Bool.and_eq_true] at hf
    intro e; rw [e] at hf
    exact absurd hf.2.2 (by decide)
theorem path_lead {r : Rec} (h : checkV r = 0) (hk : r.2.2.2.1 = 1) : r.2.2.2.2.2.1 = [] := by
  have hf := check_fits h
  unfold fitsV at hf
  rw [if_pos hk] at hf
  simp only [Bool.and_eq_true, beq_iff_eq] at hf
  exact hf.1.2
theorem okL_apply {es : Files} {L : List Fil} (h : okL es L) (r : Rec) : okL (applyV es r) (rapplyV L r) := by
  unfold rapplyV applyV
  rw [may_same h]
  cases hd : decide (mayV es r = 0) with
  | false => exact h
  | true =>
    rw [cond_true, cond_true, rput_eq]
    have hc := may_check (of_decide_eq_true hd)
    cases h2 : r.2.2.2.1 == 2 with
    | true =>
      have k2 : r.2.2.2.1 = 2 := by simpa using h2
      rw [cond_true, cond_true]
      have hm := mput_perm (k := .str) r.2.2.2.2.2.1 (fileOf r) h.keys
      refine ⟨?_, ins_rise h.rise, fun f hf => ?_, fun p hp => ?_, mput_nodup (k := .str) h.keys⟩
      · refine ((hm.map _).trans ?_).trans (ins_perm L).symm
        rw [List.map_cons]
        refine List.Perm.cons _ ?_
        rw [filter_map h.path]
        exact h.perm.filter _
      · rcases ins_mem hf with rfl | hf
        · exact path_ne hc (.inl k2)
        · exact h.some f hf
      · rcases List.mem_cons.1 (hm.mem_iff.1 hp) with rfl | hp
        · rfl
        · exact h.path p (List.mem_filter.1 hp).1
    | false =>
      rw [cond_false, cond_false]
      cases h3 : r.2.2.2.1 == 3 with
      | true =>
        rw [cond_true]
        have hm := mdel_perm (k := .str) r.2.2.2.2.2.1 h.keys
        refine ⟨?_, List.Pairwise.filter _ h.rise, fun f hf => h.some f (List.mem_filter.1 hf).1, fun p hp => h.path p (mdel_memS hp), mdel_nodup (k := .str) h.keys⟩
        rw [hm, filter_map h.path]
        exact h.perm.filter _
      | false =>
        rw [cond_false]
        have k1 : r.2.2.2.1 = 1 := by
          rcases kind_of hc with k | k | k
          · exact k
          · rw [k] at h2; cases h2
          · rw [k] at h3; cases h3
        have e : (L.filter fun f => f.1 != r.2.2.2.2.2.1) = L := by
          rw [path_lead hc k1]
          exact List.filter_eq_self.2 fun f hf => by simpa using h.some f hf
        rw [e]; exact h
theorem list_same {es : Files} {L : List Fil} (h : okL es L) : listV es [] = L := by
  have e : filesV es [] = es.map (·.2) := by
    unfold filesV
    rw [show (es.filter fun p => preV p.1 []) = es from List.filter_eq_self.2 fun p hp => by simp [preV]]
  unfold listV
  rw [e]
  have ha : antiF cmpF (es.map (·.2)) := by
    rw [← e]; exact files_anti h.path h.keys
  rw [sortF_eq swoF h.perm ha]
  unfold sortF
  refine List.mergeSort_of_pairwise (h.rise.imp fun {a b} hab => ?_)
  unfold leF
  have : lessL b.1 a.1 = false := lessL_asym hab
  rw [show decide (cmpF b a < 0) = lessL b.1 a.1 from cmpS_lt _ _, this]; rfl
def rofK (l : List Rec) : Nat → List Fil
  | 0 => []
  | k + 1 => rapplyV (rofK l k) (l.getD k T_Rec.dflt)
theorem okL_K (l : List Rec) : ∀ k, okL (ofK l k) (rofK l k)
  | 0 => okL_nil
  | k + 1 => okL_apply (okL_K l k) _
theorem rofK_len (l : List Rec) (k : Nat) : (rofK l k).length ≤ 1024 := by
  rw [okL_len (okL_K l k)]; exact (ofK_ok l k).1

-- the first record that can't be done
def failI (l : List Rec) : Nat := ((List.range l.length).find? fun i => mayV (ofK l i) (l.getD i T_Rec.dflt) != 0).getD l.length
def failE (l : List Rec) : Int := mayV (ofK l (failI l)) (l.getD (failI l) T_Rec.dflt)
theorem fail_spec {l : List Rec} (h : ¬ ofOk l) : failI l < l.length ∧ failE l ≠ 0 ∧ ∀ i, i < failI l → mayV (ofK l i) (l.getD i T_Rec.dflt) = 0 := by
  unfold failE failI
  cases hf : (List.range l.length).find? fun i => mayV (ofK l i) (l.getD i T_Rec.dflt) != 0 with
  | none =>
    exfalso
    refine h fun k hk => ?_
    have := List.find?_eq_none.1 hf k (List.mem_range.2 hk)
    simpa using this
  | some i =>
    have h1 := List.find?_some hf
    have h2 := List.mem_range.1 (List.mem_of_find?_eq_some hf)
    refine ⟨h2, by simpa using h1, fun j hj => ?_⟩
    have hj : j < i := hj
    have := List.find?_range_eq_some.1 hf
    simpa using this.2.2 j hj
end Go.Sal
