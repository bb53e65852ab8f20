/- Contracts of names (but for what ranges over maps). -/
import Derived.Test.YtmjkknlkgkjigaaQCRec
import Derived.Test.YtmjkknlkgkjigaaQVseObj
set_option maxRecDepth 100000
namespace Go.Sal
open Go.Vse Go.Sal.Nm

abbrev T_File : T := .pair .str (.pair .i64 (.pair .i64 (.slc T_Pie)))
abbrev Fil := T_File.den
abbrev T_fsN : List OF := [.mp .str true T_File]
abbrev T_N := ofds T_fsN
abbrev Files := List (List (BitVec 8) × T_File.den)
def okN (es : Files) : Prop := es.length ≤ 1024 ∧ ∀ p ∈ es, p.2.2.2.2.length ≤ 4096
def an_N1 : Ann := { at_ := fun _ _ => none, pins := [1, 2], prune := 1 }
def an_N0 : Ann := { at_ := fun _ _ => none, prune := 1 }
def mayV (es : Files) (r : Rec) : Int := bif decide (checkV r = 0) then (bif r.2.2.2.1 == 3 && !(mget .str es r.2.2.2.2.2.1).isSome then 150 else bif r.2.2.2.1 == 2 && !(mget .str es r.2.2.2.2.2.1).isSome && decide ((1024 : Int) ≤ es.length) then 3 else 0) else checkV r
def fileOf (r : Rec) : Fil := (r.2.2.2.2.2.1, (sizeV r.2.2.2.2.2.2).1, r.1, r.2.2.2.2.2.2)
def applyV (es : Files) (r : Rec) : Files := bif decide (mayV es r = 0) then (bif r.2.2.2.1 == 2 then mput .str es r.2.2.2.2.2.1 (fileOf r) else bif r.2.2.2.1 == 3 then mdel .str es r.2.2.2.2.2.1 else es) else es
def statV (es : Files) (p : List (BitVec 8)) : Fil × Int := match mget .str es p with
  | some f => (f, 0)
  | none => (T_File.dflt, 150)
def c_nNew : PC := gF [] fun _ => ⟨none, .sv (.ref (.cell 1 [] 0)), oObj T_fsN 12 ([], ())⟩
def c_nMade : PC := gM T_fsN [] fun n _ => ⟨none, .sv (.dv (.bool true)), oObj T_fsN 2 n⟩
def c_Clone : PC := D [.slc T_Pie] [.slc T_Pie] (fun x => some (x.1.length ≤ 4096)) (fun x => (x.1, ()))
def c_own : PC := D [T_File] [T_File] (fun x => some (x.1.2.2.2.length ≤ 4096)) (fun x => (x.1, ()))
def c_nMay : PC := gM T_fsN [T_Rec] fun n x => ⟨some (okN n.1), .sv (.dv (.i64 (mayV n.1 x.1))), oObj T_fsN 2 n⟩
def c_nApply : PC := gM T_fsN [T_Rec] fun n x => ⟨some (okN n.1), .sv (.dv (.i64 (mayV n.1 x.1))), oObj T_fsN 2 (applyV n.1 x.1, ())⟩
def c_nStat : PC := gM T_fsN [.str] fun n x => ⟨some (okN n.1), .tup [svOfT T_File (statV n.1 x.1).1, .dv (.i64 (statV n.1 x.1).2)], oObj T_fsN 2 n⟩

theorem names_New_vc :
    List.Perm (nilOf (List (BitVec 8) × List (BitVec 8) × Int × Int × List (List (BitVec 8) × Int))) (nilOf (List (BitVec 8) × List (BitVec 8) × Int × Int × List (List (BitVec 8) × Int))) := by
  rfl

theorem names_made_vc (es : Files) :
    true = true ∧ List.Perm es es := by
  exact ⟨rfl, List.Perm.refl _⟩

theorem slices_Clone_vc (l : List Pie) (h : l.length ≤ 4096) :
    ∀ (q : Bool),
      (q = true → l = nilOf (T.den (T.pair (T.arr 32 T.u8) T.i64))) →
      ((q == true) = true → nilOf (List (BitVec 8) × Int) = l) ∧ ((q == true) = false → List.length (nilOf (List (BitVec 8) × Int)) + List.length l ≤ ROOM ∧ nilOf (List (BitVec 8) × Int) ++ l = l) := by
  refine fun q hq => ⟨fun q2 => (hq (by simpa using q2)).symm, fun _ => ⟨?_, rfl⟩⟩
  show 0 + l.length ≤ ROOM
  unfold ROOM; omega

theorem names_own_vc (f : Fil) (h : f.2.2.2.length ≤ 4096) :
    List.length f.2.2.2 ≤ 4096 ∧ f.1 = f.1 ∧ f.2.1 = f.2.1 ∧ f.2.2.1 = f.2.2.1 ∧ f.2.2.2 = f.2.2.2 := by
  exact ⟨h, rfl, rfl, rfl, rfl⟩

theorem names_May_vc (es : Files) (r : Rec) (h : okN es) :
    (false = true → 4 = mayV es r ∧ List.Perm es es) ∧
      (false = false →
      ((checkV r != 0) = true → checkV r = mayV es r ∧ List.Perm es es) ∧
      ((checkV r != 0) = false →
      ((r.2.2.2.1 == 3 && !Option.isSome (mget T.str es r.2.2.2.2.2.1)) = true → 150 = mayV es r ∧ List.Perm es es) ∧
      ((r.2.2.2.1 == 3 && !Option.isSome (mget T.str es r.2.2.2.2.2.1)) = false →
      ((r.2.2.2.1 == 2 && !Option.isSome (mget T.str es r.2.2.2.2.2.1)) = true → inI64 (ofN (List.length es))) ∧
      ((r.2.2.2.1 == 2 && !Option.isSome (mget T.str es r.2.2.2.2.2.1) && decide (1024 ≤ ofN (List.length es))) = true → 3 = mayV es r ∧ List.Perm es es) ∧
      ((r.2.2.2.1 == 2 && !Option.isSome (mget T.str es r.2.2.2.2.2.1) && decide (1024 ≤ ofN (List.length es))) = false → 0 = mayV es r ∧ List.Perm es es)))) := by
  refine ⟨(fun q => nomatch q), fun _ => ⟨fun q => ?_, fun q => ?_⟩⟩
  · have hd : decide (checkV r = 0) = false := by simpa using q
    exact ⟨by unfold mayV; rw [hd]; rfl, List.Perm.refl _⟩
  · have hd : decide (checkV r = 0) = true := by simpa using q
    have hM : mayV es r = bif r.2.2.2.1 == 3 && !(mget .str es r.2.2.2.2.2.1).isSome then 150 else bif r.2.2.2.1 == 2 && !(mget .str es r.2.2.2.2.2.1).isSome && decide ((1024 : Int) ≤ es.length) then 3 else 0 := by
      unfold mayV; rw [hd]; rfl
    rw [hM]
    refine ⟨fun q2 => ⟨?_, List.Perm.refl _⟩, fun q2 => ⟨fun _ => ?_, fun q3 => ⟨?_, List.Perm.refl _⟩, fun q3 => ⟨?_, List.Perm.refl _⟩⟩⟩
    · have q2' : (r.2.2.2.1 == 3 && !(mget .str es r.2.2.2.2.2.1).isSome) = true := q2
      rw [q2']; rfl
    · have := h.1
      show inI64 (es.length : Int)
      unfold inI64; omega
    · have q2' : (r.2.2.2.1 == 3 && !(mget .str es r.2.2.2.2.2.1).isSome) = false := q2
      have q3' : (r.2.2.2.1 == 2 && !(mget .str es r.2.2.2.2.2.1).isSome && decide ((1024 : Int) ≤ es.length)) = true := q3
      rw [q2', q3']; rfl
    · have q2' : (r.2.2.2.1 == 3 && !(mget .str es r.2.2.2.2.2.1).isSome) = false := q2
      have q3' : (r.2.2.2.1 == 2 && !(mget .str es r.2.2.2.2.2.1).isSome && decide ((1024 : Int) ≤ es.length)) = false := q3
      rw [q2', q3']; rfl

theorem may_check {es : Files} {r : Rec} (h : mayV es r = 0) : checkV r = 0 := by
  unfold mayV at h
  cases hd : decide (checkV r = 0) with
  | true => exact of_decide_eq_true hd
  | false => rw [hd] at h; exact h
theorem check_fits {r : Rec} (h : checkV r = 0) : fitsV r = true := by
  unfold checkV at h
  split at h
  · rename_i h1; exact h1.2.2.2.2
  · cases h
theorem pieces_ok {r : Rec} (h : checkV r = 0) (hk : r.2.2.2.1 = 2) : (sizeV r.2.2.2.2.2.2).2 = 0 := by
  have := check_fits h
  unfold fitsV at this
  rw [if_neg (by rw [hk]; decide), if_neg (by rw [hk]; decide), if_pos hk] at this
  simp only [Bool.and_eq_true, beq_iff_eq] at this
  exact this.2
theorem sizeN_ok {l : List Pie} (h : (sizeV l).2 = 0) : l.length ≤ 4096 ∧ l.all okPie = true ∧ sumP l ≤ 1048576 := by
  unfold sizeV at h
  split at h
  · rename_i h1; exact h1
  · cases h
theorem pieces_few {r : Rec} (h : checkV r = 0) (hk : r.2.2.2.1 = 2) : r.2.2.2.2.2.2.length ≤ 4096 := (sizeN_ok (pieces_ok h hk)).1

theorem names_Apply_vc (es : Files) (r : Rec) (h : okN es) :
    okN es ∧
      ((mayV es r != 0) = true → mayV es r = mayV es r ∧ List.Perm es (applyV es r)) ∧
      ((mayV es r != 0) = false →
      ((r.2.2.2.1 == 2) = true →
      List.length r.2.2.2.2.2.2 ≤ 4096 ∧ 0 = mayV es r ∧ List.Perm (mput T.str es r.2.2.2.2.2.1 (r.2.2.2.2.2.1, (sizeV r.2.2.2.2.2.2).1, r.1, r.2.2.2.2.2.2)) (applyV es r)) ∧
      ((r.2.2.2.1 == 2) = false →
      ((r.2.2.2.1 == 3) = true → 0 = mayV es r ∧ List.Perm (mdel T.str es r.2.2.2.2.2.1) (applyV es r)) ∧ ((r.2.2.2.1 == 3) = false → 0 = mayV es r ∧ List.Perm es (applyV es r)))) := by
  refine ⟨h, fun q => ⟨rfl, ?_⟩, fun q => ⟨fun q2 => ⟨?_, ?_, ?_⟩, fun q2 => ⟨fun q3 => ⟨?_, ?_⟩, fun q3 => ⟨?_, ?_⟩⟩⟩⟩
  · have hd : decide (mayV es r = 0) = false := by simpa using q
    unfold applyV; rw [hd]; rfl
  all_goals have h0 : mayV es r = 0 := by simpa using q
  all_goals first | exact h0.symm | skip
  · exact pieces_few (may_check h0) (by simpa using q2)
  · unfold applyV; rw [decide_eq_true h0, q2]; rfl
  · unfold applyV; rw [decide_eq_true h0, q2, q3]; rfl
  · unfold applyV; rw [decide_eq_true h0, q2, q3]; rfl

theorem mget_consS {v : Type} (p : List (BitVec 8) × v) (r : List (List (BitVec 8) × v)) (x : List (BitVec 8)) : mget .str (p :: r) x = if x = p.1 then some p.2 else mget .str r x := by
  by_cases h : x = p.1
  · rw [if_pos h]
    show (bif @decide (x = p.1) _ then some p.2 else mget .str r x) = _
    rw [decide_eq_true h]; rfl
  · rw [if_neg h]
    show (bif @decide (x = p.1) _ then some p.2 else mget .str r x) = _
    rw [decide_eq_false h]; rfl
theorem mget_mem {v : Type} {x : List (BitVec 8)} {f : v} : ∀ {l : List (List (BitVec 8) × v)}, mget .str l x = some f → (x, f) ∈ l
  | [], h => by cases h
  | p :: r, h => by
    rw [mget_consS] at h
    split at h
    · rename_i hx
      simp only [Option.some.injEq] at h
      subst h; subst hx
      exact List.mem_cons_self ..
    · exact List.mem_cons_of_mem _ (mget_mem h)
theorem mput_consS {v : Type} (p : List (BitVec 8) × v) (r : List (List (BitVec 8) × v)) (x : List (BitVec 8)) (y : v) : mput .str (p :: r) x y = if x = p.1 then (p.1, y) :: r else p :: mput .str r x y := by
  by_cases h : x = p.1
  · rw [if_pos h]
    show (bif @decide (x = p.1) _ then (p.1, y) :: r else p :: mput .str r x y) = _
    rw [decide_eq_true h]; rfl
  · rw [if_neg h]
    show (bif @decide (x = p.1) _ then (p.1, y) :: r else p :: mput .str r x y) = _
    rw [decide_eq_false h]; rfl
theorem mdel_consS {v : Type} (p : List (BitVec 8) × v) (r : List (List (BitVec 8) × v)) (x : List (BitVec 8)) : mdel .str (p :: r) x = if x = p.1 then r else p :: mdel .str r x := by
  by_cases h : x = p.1
  · rw [if_pos h]
    show (bif @decide (x = p.1) _ then r else p :: mdel .str r x) = _
    rw [decide_eq_true h]; rfl
  · rw [if_neg h]
    show (bif @decide (x = p.1) _ then r else p :: mdel .str r x) = _
    rw [decide_eq_false h]; rfl
theorem mput_memS {v : Type} {x : List (BitVec 8)} {y : v} {q : List (BitVec 8) × v} : ∀ {l : List (List (BitVec 8) × v)}, q ∈ mput .str l x y → q ∈ l ∨ q.2 = y
  | [], h => by
    have h : q ∈ [(x, y)] := h
    simp only [List.mem_singleton] at h
    exact .inr (by rw [h])
  | p :: r, h => by
    rw [mput_consS] at h
    split at h
    · rcases List.mem_cons.1 h with rfl | h
      · exact .inr rfl
      · exact .inl (List.mem_cons_of_mem _ h)
    · rcases List.mem_cons.1 h with rfl | h
      · exact .inl (List.mem_cons_self ..)
      · rcases mput_memS h with h | h
        · exact .inl (List.mem_cons_of_mem _ h)
        · exact .inr h
theorem mput_lenS {v : Type} {x : List (BitVec 8)} {y : v} : ∀ {l : List (List (BitVec 8) × v)}, (mput .str l x y).length = if (mget .str l x).isSome then l.length else l.length + 1
  | [] => rfl
  | p :: r => by
    rw [mput_consS, mget_consS]
    split
    · simp
    · rw [List.length_cons, mput_lenS]
      split <;> simp
theorem mdel_memS {v : Type} {x : List (BitVec 8)} {q : List (BitVec 8) × v} : ∀ {l : List (List (BitVec 8) × v)}, q ∈ mdel .str l x → q ∈ l
  | [], h => by cases h
  | p :: r, h => by
    rw [mdel_consS] at h
    split at h
    · exact List.mem_cons_of_mem _ h
    · rcases List.mem_cons.1 h with rfl | h
      · exact List.mem_cons_self ..
      · exact List.mem_cons_of_mem _ (mdel_memS h)
theorem mdel_lenS {v : Type} {x : List (BitVec 8)} : ∀ {l : List (List (BitVec 8) × v)}, (mdel .str l x).length ≤ l.length
  | [] => Nat.le_refl _
  | p :: r => by
    rw [mdel_consS]
    split
    · simp
    · rw [List.length_cons, List.length_cons]; have := mdel_lenS (x := x) (l := r); omega

theorem names_Stat_vc (es : Files) (p : List (BitVec 8)) (h : okN es) :
    (false = true →
      ((nilOf (BitVec 8) = (statV es p).1.1 ∧ ofN 0 = (statV es p).1.2.1 ∧ ofN 0 = (statV es p).1.2.2.1 ∧ nilOf (List (BitVec 8) × Int) = (statV es p).1.2.2.2) ∧ 4 = (statV es p).2) ∧ List.Perm es es) ∧
      (false = false →
      ((!Option.isSome (mget T.str es p)) = true →
      ((nilOf (BitVec 8) = (statV es p).1.1 ∧ ofN 0 = (statV es p).1.2.1 ∧ ofN 0 = (statV es p).1.2.2.1 ∧ nilOf (List (BitVec 8) × Int) = (statV es p).1.2.2.2) ∧ 150 = (statV es p).2) ∧
      List.Perm es es) ∧
      ((!Option.isSome (mget T.str es p)) = false →
      List.length (Option.getD (mget T.str es p) (T.dflt (T.pair T.str (T.pair T.i64 (T.pair T.i64 (T.slc (T.pair (T.arr 32 T.u8) T.i64))))))).2.2.2 ≤ 4096 ∧
      (((Option.getD (mget T.str es p) (T.dflt (T.pair T.str (T.pair T.i64 (T.pair T.i64 (T.slc (T.pair (T.arr 32 T.u8) T.i64))))))).1 = (statV es p).1.1 ∧
      (Option.getD (mget T.str es p) (T.dflt (T.pair T.str (T.pair T.i64 (T.pair T.i64 (T.slc (T.pair (T.arr 32 T.u8) T.i64))))))).2.1 = (statV es p).1.2.1 ∧
      (Option.getD (mget T.str es p) (T.dflt (T.pair T.str (T.pair T.i64 (T.pair T.i64 (T.slc (T.pair (T.arr 32 T.u8) T.i64))))))).2.2.1 = (statV es p).1.2.2.1 ∧
      (Option.getD (mget T.str es p) (T.dflt (T.pair T.str (T.pair T.i64 (T.pair T.i64 (T.slc (T.pair (T.arr 32 T.u8) T.i64))))))).2.2.2 = (statV es p).1.2.2.2) ∧
      0 = (statV es p).2) ∧
      List.Perm es es)) := by
  refine ⟨(fun q => nomatch q), fun _ => ⟨fun q => ?_, fun q => ?_⟩⟩
  · unfold statV
    cases hm : mget T.str es p with
    | some f => rw [hm] at q; cases q
    | none => exact ⟨⟨⟨rfl, rfl, rfl, rfl⟩, rfl⟩, List.Perm.refl _⟩
  · unfold statV
    cases hm : mget T.str es p with
    | some f => exact ⟨h.2 _ (mget_mem hm), ⟨⟨rfl, rfl, rfl, rfl⟩, rfl⟩, List.Perm.refl _⟩
    | none => rw [hm] at q; cases q

def okFile (f : Fil) : Prop := (sizeV f.2.2.2).2 = 0 ∧ f.2.1 = (sizeV f.2.2.2).1
def okF (es : Files) : Prop := es.length ≤ 1024 ∧ ∀ p ∈ es, okFile p.2
theorem okF_N {es : Files} (h : okF es) : okN es := ⟨h.1, fun p hp => (sizeN_ok (h.2 p hp).1).1⟩
theorem okF_nil : okF [] := ⟨Nat.zero_le _, fun p hp => by cases hp⟩
theorem okF_apply {es : Files} {r : Rec} (h : okF es) : okF (applyV es r) := by
  unfold applyV
  cases hd : decide (mayV es r = 0) with
  | false => exact h
  | true =>
    have h0 := of_decide_eq_true hd
    have hc := may_check h0
    rw [cond_true]
    cases h2 : r.2.2.2.1 == 2 with
    | true =>
      rw [cond_true]
      have hk : r.2.2.2.1 = 2 := by simpa using h2
      refine ⟨?_, fun p hp => ?_⟩
      · rw [mput_lenS]
        split
        · exact h.1
        · rename_i hs
          have hs : (mget .str es r.2.2.2.2.2.1).isSome = false := by simpa using hs
          unfold mayV at h0
          rw [decide_eq_true hc, cond_true, hs, hk] at h0
          cases h10 : decide ((1024 : Int) ≤ es.length) with
          | true => rw [h10] at h0; cases h0
          | false =>
            have := of_decide_eq_false h10
            omega
      · rcases mput_memS hp with hp | hp
        · exact h.2 p hp
        · rw [hp]; exact ⟨pieces_ok hc hk, rfl⟩
    | false =>
      rw [cond_false]
      cases r.2.2.2.1 == 3 with
      | true => exact ⟨Nat.le_trans mdel_lenS h.1, fun p hp => h.2 p (mdel_memS hp)⟩
      | false => exact h
def ofK (l : List Rec) : Nat → Files
  | 0 => []
  | k + 1 => applyV (ofK l k) (l.getD k T_Rec.dflt)
theorem ofK_ok (l : List Rec) : ∀ k, okF (ofK l k)
  | 0 => okF_nil
  | k + 1 => okF_apply (ofK_ok l k)
def ofOk (l : List Rec) : Prop := ∀ k, k < l.length → mayV (ofK l k) (l.getD k T_Rec.dflt) = 0

theorem names_New_spec : Vse.Spec P f_names_New c_nNew := spec_gf (l := []) trivial h_names_New rfl rfl fun _ _ _ => bodyG_ok an_N0 names_New_vc (by kernel_rfl)

theorem names_made_spec : Vse.Spec P f_names_Names_made c_nMade := spec_gm (l := []) trivial h_names_Names_made rfl rfl fun s _ _ _ _ => by
  obtain ⟨es, _⟩ := s
  exact bodyG_ok an_N1 (names_made_vc es) (by kernel_rfl)

theorem slices_Clone_spec : Vse.Spec P f_slices_Clone_Piece c_Clone := spec_fn (l := []) trivial h_slices_Clone_Piece rfl rfl fun x h _ => body_ok an_none (slices_Clone_vc x.1 h) (by kernel_rfl)

theorem names_own_spec : Vse.Spec P f_names_own c_own := spec_fn (l := [(f_slices_Clone_Piece, c_Clone)]) ⟨slices_Clone_spec, trivial⟩ h_names_own rfl rfl fun x h _ => body_ok an_none (names_own_vc x.1 h) (by kernel_rfl)

theorem names_May_spec : Vse.Spec P f_names_Names_May c_nMay := spec_gm (l := [(f_names_Names_made, c_nMade), (f_record_Check, c_Check)]) ⟨names_made_spec, record_Check_spec, trivial⟩ h_names_Names_May rfl rfl fun s x h _ _ => by
  obtain ⟨es, _⟩ := s
  obtain ⟨r, _⟩ := x
  exact bodyG_ok an_N1 (names_May_vc es r h) (by kernel_rfl)

theorem names_Apply_spec : Vse.Spec P f_names_Names_Apply c_nApply := spec_gm (l := [(f_names_Names_May, c_nMay), (f_record_Size, c_Size), (f_names_own, c_own)]) ⟨names_May_spec, record_Size_spec, names_own_spec, trivial⟩ h_names_Names_Apply rfl rfl fun s x h _ _ => by
  obtain ⟨es, _⟩ := s
  obtain ⟨r, _⟩ := x
  exact bodyG_ok an_N1 (names_Apply_vc es r h) (by kernel_rfl)

theorem names_Stat_spec : Vse.Spec P f_names_Names_Stat c_nStat := spec_gm (l := [(f_names_Names_made, c_nMade), (f_names_own, c_own)]) ⟨names_made_spec, names_own_spec, trivial⟩ h_names_Names_Stat rfl rfl fun s x h _ _ => by
  obtain ⟨es, _⟩ := s
  obtain ⟨p, _⟩ := x
  exact bodyG_ok an_N1 (names_Stat_vc es p h) (by kernel_rfl)

end Go.Sal
