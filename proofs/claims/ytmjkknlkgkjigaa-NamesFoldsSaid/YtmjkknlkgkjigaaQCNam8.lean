/- NamesFolds: what records make of no files. -/
import Derived.Test.YtmjkknlkgkjigaaQCNam7
set_option maxRecDepth 100000
namespace Go.Sal
open Go.Vse Go.Sal.Nm

def fewP (l : List Rec) : Prop := l.length ≤ 1000000 ∧ ∀ r ∈ l, r.2.2.2.2.2.2.length ≤ 1000000
def c_nOfF : PC := gF [.slc T_Rec] fun x => ⟨some (¬ ofOk x.1 ∧ x.1.length ≤ 1000000), .tup [.dv (.cst (.pointer none)), .dv (.i64 (ofN (failI x.1))), .dv (.i64 (failE x.1))], []⟩
def c_dOf : PC := gF [.slc T_Rec] fun x => ⟨some (ofOk x.1 ∧ fewP x.1), .tup [.ref (.cell 1 [] 0), .dv (.i64 x.1.length), .dv (.i64 0)], oObj [.dat T_R15] 12 (rofK x.1 x.1.length, ())⟩
def c_dOfF : PC := gF [.slc T_Rec] fun x => ⟨some (¬ ofOk x.1 ∧ fewP x.1), .tup [.dv (.cst (.pointer none)), .dv (.i64 (ofN (failI x.1))), .dv (.i64 (failE x.1))], []⟩
def an_OfFL (l : List Rec) : Nat → SState → Option LoopAnn
  | 3, S => some { X := Nat, slots := fun k => [(12, .sv (.dv (.i64 (ofN k))))], objs := fun k => (0, .gone) :: oAt T_fsN (x_cel S 5) 12 (ofK l k, ()), inv := fun k => k ≤ failI l, meas := fun k => l.length - k }
  | _, _ => none
def an_OfF (l : List Rec) : Ann := { at_ := an_OfFL l, prune := 1 }
def an_rOfL (l : List Rec) (n : Nat) : Nat → SState → Option LoopAnn
  | 3, S => some { X := Nat, slots := fun k => [(6, .sv (.dv (.i64 (ofN k))))], objs := fun k => (0, .gone) :: oAt [.dat T_R15] (x_cel S 5) 12 (rofK l k, ()), inv := fun k => k ≤ n, meas := fun k => l.length - k }
  | _, _ => none
def an_rOf (l : List Rec) (n : Nat) : Ann := { at_ := an_rOfL l n, prune := 1 }
def c_Folds1 : PC := D [.slc T_Rec] [.bool] (fun x => some (ofOk (few15 x.1))) (fun _ => (true, ()))
def an_Fo1 : Ann := { at_ := fun _ _ => none, prune := 1, rows := [1041 + STRIDE * 5] }
def an_Fo2 : Ann := { at_ := fun _ _ => none, prune := 1, rows := [1005, 1014, 1040 + STRIDE * 5, 1041 + STRIDE * 5, 1042 + STRIDE * 5, 1043 + STRIDE * 5, 1044 + STRIDE * 5, 1045 + STRIDE * 5, 1046 + STRIDE * 5] }

theorem at_fail {l : List Rec} (h : ¬ ofOk l) {x : Nat} (hx : x ≤ failI l) (hm : mayV (ofK l x) (l.getD x T_Rec.dflt) ≠ 0) : x = failI l := by
  rcases Nat.lt_or_ge x (failI l) with k | k
  · exact absurd ((fail_spec h).2.2 x k) hm
  · omega
theorem not_fail {l : List Rec} (h : ¬ ofOk l) {x : Nat} (hx : x ≤ failI l) (hm : mayV (ofK l x) (l.getD x T_Rec.dflt) = 0) : x + 1 ≤ failI l := by
  rcases Nat.lt_or_ge x (failI l) with k | k
  · exact k
  · have e : x = failI l := by omega
    subst e
    exact absurd hm (fail_spec h).2.1
theorem few_P (l : List Rec) : fewP (few15 l) := by
  refine ⟨by have := few15_len l; omega, fun r hr => ?_⟩
  unfold few15 at hr
  obtain ⟨q, _, rfl⟩ := List.mem_map.1 hr
  show (q.2.2.2.2.2.2.take 40).length ≤ _
  rw [List.length_take]; omega

theorem okSC_len {L : List Fil} (h : okHp (oObj [.dat T_R15] 2 (L, ()))) : L.length ≤ LIM := by
  have h1 : okRun (.one (.imm T_File L)) := h.1.1
  exact h1.1

theorem names_OfF_vc (l : List Rec) (h : ¬ ofOk l) (hl : l.length ≤ 1000000) :
    (∃ (x : Nat), x ≤ failI l ∧ 0 = ofN x ∧ List.Perm (nilOf (List (BitVec 8) × List (BitVec 8) × Int × Int × List (List (BitVec 8) × Int))) (ofK l x)) ∧
      ∀ (x : Nat),
      x ≤ failI l →
      (decide (ofN x < ofN (List.length l)) = true →
      within (ofN x) (List.length l) ∧
      okN (ofK l x) ∧
      ((mayV (ofK l x)
      (List.getD l (Int.toNat (ofN x))
      (T.dflt T_Rec)) !=
      0) =
      true →
      ofN x = ofN (failI l) ∧
      mayV (ofK l x)
      (List.getD l (Int.toNat (ofN x))
      (T.dflt T_Rec)) =
      failE l) ∧
      ((mayV (ofK l x)
      (List.getD l (Int.toNat (ofN x))
      (T.dflt T_Rec)) !=
      0) =
      false →
      inI64 (ofN x + 1) ∧
      ∃ (x' : Nat),
      x' ≤ failI l ∧
      List.length l - x' < List.length l - x ∧
      ofN x + 1 = ofN x' ∧
      List.Perm
      (applyV (ofK l x)
      (List.getD l (Int.toNat (ofN x))
      (T.dflt T_Rec)))
      (ofK l x'))) ∧
      (decide (ofN x < ofN (List.length l)) = false → False) := by
  obtain ⟨f1, f2, f3⟩ := fail_spec h
  refine ⟨⟨0, Nat.zero_le _, rfl, List.Perm.refl _⟩, fun x hx => ⟨fun q => ⟨wiN (ltN15 q), okF_N (ofK_ok l x), fun q2 => ?_, fun q2 => ⟨i64N (ltN15 q) (by unfold LIM; omega), x + 1, not_fail h hx (by simpa using q2), by have := ltN15 q; omega, rfl, List.Perm.refl _⟩⟩, fun q => ?_⟩⟩
  · have e := at_fail h hx (by simpa using q2)
    subst e
    exact ⟨rfl, rfl⟩
  · have := geN15 q; omega
theorem ref15_Of_vc (l : List Rec) (h : ofOk l) (hl : fewP l) :
    (∃ (x : Nat), x ≤ List.length l ∧ 0 = ofN x ∧ rofK l x = nilOf (List (BitVec 8) × Int × Int × List (List (BitVec 8) × Int))) ∧
      ∀ (x : Nat),
      x ≤ List.length l →
      (decide (ofN x < ofN (List.length l)) = true →
      within (ofN x) (List.length l) ∧
      (List.length (rofK l x) ≤ 1000000 ∧
      List.length
      (List.getD l (Int.toNat (ofN x))
      (T.dflt T_Rec)).2.2.2.2.2.2 ≤
      1000000) ∧
      ((rmayV (rofK l x)
      (List.getD l (Int.toNat (ofN x))
      (T.dflt T_Rec)) !=
      0) =
      true →
      False) ∧
      ((rmayV (rofK l x)
      (List.getD l (Int.toNat (ofN x))
      (T.dflt T_Rec)) !=
      0) =
      false →
      inI64 (ofN x + 1) ∧
      ∃ (x' : Nat),
      x' ≤ List.length l ∧
      List.length l - x' < List.length l - x ∧
      ofN x + 1 = ofN x' ∧
      rapplyV (rofK l x)
      (List.getD l (Int.toNat (ofN x))
      (T.dflt T_Rec)) =
      rofK l x')) ∧
      (decide (ofN x < ofN (List.length l)) = false → (ofN (List.length l) = ofN (List.length l) ∧ ofN 0 = 0) ∧ rofK l x = rofK l (List.length l)) := by
  refine ⟨⟨0, Nat.zero_le _, rfl, rfl⟩, fun x hx => ⟨fun q => ?_, fun q => ?_⟩⟩
  · have h1 := ltN15 q
    have hm : l.getD x T_Rec.dflt ∈ l := by rw [getD_lt h1]; exact List.getElem_mem h1
    have hr := rofK_len l x
    refine ⟨wiN h1, ⟨by omega, hl.2 _ hm⟩, fun q2 => ?_, fun q2 => ⟨i64N h1 (by have := hl.1; unfold LIM; omega), x + 1, h1, by omega, rfl, rfl⟩⟩
    rw [may_same (okL_K l x)] at q2
    have h0 : mayV (ofK l x) (List.getD l (Int.toNat (ofN x)) (T.dflt T_Rec)) = 0 := h x h1
    rw [h0] at q2
    cases q2
  · have hx2 : x = l.length := by have := geN15 q; omega
    subst hx2
    exact ⟨⟨rfl, rfl⟩, rfl⟩
theorem ref15_OfF_vc (l : List Rec) (h : ¬ ofOk l) (hl : fewP l) :
    (∃ (x : Nat), x ≤ failI l ∧ 0 = ofN x ∧ rofK l x = nilOf (List (BitVec 8) × Int × Int × List (List (BitVec 8) × Int))) ∧
      ∀ (x : Nat),
      x ≤ failI l →
      (decide (ofN x < ofN (List.length l)) = true →
      within (ofN x) (List.length l) ∧
      (List.length (rofK l x) ≤ 1000000 ∧
      List.length
      (List.getD l (Int.toNat (ofN x))
      (T.dflt T_Rec)).2.2.2.2.2.2 ≤
      1000000) ∧
      ((rmayV (rofK l x)
      (List.getD l (Int.toNat (ofN x))
      (T.dflt T_Rec)) !=
      0) =
      true →
      ofN x = ofN (failI l) ∧
      rmayV (rofK l x)
      (List.getD l (Int.toNat (ofN x))
      (T.dflt T_Rec)) =
      failE l) ∧
      ((rmayV (rofK l x)
      (List.getD l (Int.toNat (ofN x))
      (T.dflt T_Rec)) !=
      0) =
      false →
      inI64 (ofN x + 1) ∧
      ∃ (x' : Nat),
      x' ≤ failI l ∧
      List.length l - x' < List.length l - x ∧
      ofN x + 1 = ofN x' ∧
      rapplyV (rofK l x)
      (List.getD l (Int.toNat (ofN x))
      (T.dflt T_Rec)) =
      rofK l x')) ∧
      (decide (ofN x < ofN (List.length l)) = false → False) := by
  obtain ⟨f1, f2, f3⟩ := fail_spec h
  refine ⟨⟨0, Nat.zero_le _, rfl, rfl⟩, fun x hx => ⟨fun q => ?_, fun q => ?_⟩⟩
  · have h1 := ltN15 q
    have hm : l.getD x T_Rec.dflt ∈ l := by rw [getD_lt h1]; exact List.getElem_mem h1
    have hr := rofK_len l x
    rw [may_same (okL_K l x)]
    refine ⟨wiN h1, ⟨by omega, hl.2 _ hm⟩, fun q2 => ?_, fun q2 => ⟨i64N h1 (by have := hl.1; unfold LIM; omega), x + 1, not_fail h hx (by simpa using q2), by omega, rfl, rfl⟩⟩
    have e := at_fail h hx (by simpa using q2)
    subst e
    exact ⟨rfl, rfl⟩
  · have := geN15 q; omega
theorem law15_Folds1_vc (l : List Rec) (h : ofOk (few15 l)) :
    (ofOk (few15 l) ∧ List.length (few15 l) ≤ 1000000) ∧
      (ofOk (few15 l) ∧ fewP (few15 l)) ∧
      ((ofN (List.length (few15 l)) != ofN (List.length (few15 l)) || false || false) = true → false = true) ∧
      ((ofN (List.length (few15 l)) != ofN (List.length (few15 l)) || false || false) = false →
      (okN (ofK (few15 l) (List.length (few15 l))) ∧ pathsN (ofK (few15 l) (List.length (few15 l)))) ∧
      ((false || sameFs (listV (ofK (few15 l) (List.length (few15 l))) (List.map UInt8.toBitVec (nilOf UInt8))) (rofK (few15 l) (List.length (few15 l)))) && true) = true) := by
  have hok := okL_K (few15 l) (few15 l).length
  refine ⟨⟨h, (few_P l).1⟩, ⟨h, few_P l⟩, fun q => by simp at q, fun _ => ⟨⟨okF_N (ofK_ok _ _), hok.path⟩, ?_⟩⟩
  have e : listV (ofK (few15 l) (few15 l).length) (List.map UInt8.toBitVec (nilOf UInt8)) = rofK (few15 l) (few15 l).length := list_same hok
  rw [e, sameFs_eq rfl]; rfl
theorem law15_Folds2_vc (l : List Rec) (h : ¬ ofOk (few15 l)) :
    (¬ofOk (few15 l) ∧ List.length (few15 l) ≤ 1000000) ∧
      (¬ofOk (few15 l) ∧ fewP (few15 l)) ∧
      ((ofN (failI (few15 l)) != ofN (failI (few15 l)) || failE (few15 l) != failE (few15 l) || false) = true → false = true) ∧
      ((ofN (failI (few15 l)) != ofN (failI (few15 l)) || failE (few15 l) != failE (few15 l) || false) = false → true = true) := by
  exact ⟨⟨h, (few_P l).1⟩, ⟨h, few_P l⟩, fun q => by simp at q, fun _ => rfl⟩

theorem ref15_find_spec : Vse.Spec P f_ref15_Names_find c_rfind := spec_gm (l := []) trivial h_ref15_Names_find rfl rfl fun s x _ ok _ => by
  obtain ⟨L, _⟩ := s
  obtain ⟨p, _⟩ := x
  exact bodyG_ok (an_rfind L p) (ref15_find_vc L p (okSC_len ok)) (by kernel_rfl)
theorem ref15_May_spec : Vse.Spec P f_ref15_Names_May c_rMay := spec_gm (l := [(f_ref13_Check, c_Check), (f_ref15_Names_find, c_rfind)]) ⟨ref13_Check_spec, ref15_find_spec, trivial⟩ h_ref15_Names_May rfl rfl fun s x _ _ _ => by
  obtain ⟨L, _⟩ := s
  obtain ⟨r, _⟩ := x
  exact bodyG_ok an_R1 (ref15_May_vc L r) (by kernel_rfl)
theorem ref15_Apply_spec : Vse.Spec P f_ref15_Names_Apply c_rApply := spec_gm (l := [(f_ref15_Names_May, c_rMay), (f_ref13_Size, c_Size)]) ⟨ref15_May_spec, ref13_Size_spec, trivial⟩ h_ref15_Names_Apply rfl rfl fun s x h _ _ => by
  obtain ⟨L, _⟩ := s
  obtain ⟨r, _⟩ := x
  exact bodyG_ok (an_rApply L r) (ref15_Apply_vc L r h.1 h.2) (by kernel_rfl)
theorem names_OfF_spec : Vse.Spec P f_names_Of c_nOfF := spec_gf (l := [(f_names_New, c_nNew), (f_names_Names_Apply, c_nApply)]) ⟨names_New_spec, names_Apply_spec, trivial⟩ h_names_Of rfl rfl fun x h _ => by
  obtain ⟨l, _⟩ := x
  exact bodyG_ok (an_OfF l) (names_OfF_vc l h.1 h.2) (by kernel_rfl)
theorem ref15_Of_spec : Vse.Spec P f_ref15_Of c_dOf := spec_gf (l := [(f_ref15_Names_Apply, c_rApply)]) ⟨ref15_Apply_spec, trivial⟩ h_ref15_Of rfl rfl fun x h _ => by
  obtain ⟨l, _⟩ := x
  exact bodyG_ok (an_rOf l l.length) (ref15_Of_vc l h.1 h.2) (by kernel_rfl)
theorem ref15_OfF_spec : Vse.Spec P f_ref15_Of c_dOfF := spec_gf (l := [(f_ref15_Names_Apply, c_rApply)]) ⟨ref15_Apply_spec, trivial⟩ h_ref15_Of rfl rfl fun x h _ => by
  obtain ⟨l, _⟩ := x
  exact bodyG_ok (an_rOf l (failI l)) (ref15_OfF_vc l h.1 h.2) (by kernel_rfl)
theorem law15_NamesFolds_spec : Vse.Spec P f_law15_NamesFolds (c_lw15 [.slc T_Rec]) :=
  spec_fn (l := [(f_law15_few, c_few15), (f_law15_alive, c_nAlive), (f_names_Of, withAlt c_nOf c_nOfF), (f_ref15_Of, withAlt c_dOf c_dOfF), (f_names_Names_List, c_nList), (f_ref15_SameFiles, c_SameF)])
    ⟨law15_few_spec, law15_alive_spec, spec_alt names_Of_spec names_OfF_spec rfl, spec_alt ref15_Of_spec ref15_OfF_spec rfl, names_List_spec, ref15_SameFiles_spec, trivial⟩ h_law15_NamesFolds rfl rfl
    fun x _ _ => by
      by_cases h : ofOk (few15 x.1)
      · exact body_ok an_Fo1 (law15_Folds1_vc x.1 h) (by kernel_rfl)
      · exact body_ok an_Fo2 (law15_Folds2_vc x.1 h) (by kernel_rfl)
end Go.Sal
