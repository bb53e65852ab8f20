/- Copy, List: ranges over the map. -/
import Derived.Test.YtmjkknlkgkjigaaQCNam
import Derived.Test.YtmjkknlkgkjigaaQVseSortF
import Derived.Test.YtmjkknlkgkjigaaQSalLess
set_option maxRecDepth 100000
namespace Go.Sal
open Go.Vse Go.Sal.Nm

def x_celN (S : SState) (t : Nat) : Nat :=
  match S.get t with
  | .sv (.ref (.cell l [] 0)) => l
  | _ => 0
def an_CopyL (es : Files) : Nat → SState → Option LoopAnn
  | 5, S => match ghostOf S.hp with
    | some g => some { X := Files × Files, slots := fun _ => [], objs := fun x => (0, .gone) :: (1, .cells [.ref (.map 2)] false) :: (2, .mpi false .str true T_File es g) :: (x_celN S 14, .it false .str true T_File x.2 none g) :: oAt T_fsN (x_celN S 3) 12 (x.1, ()), inv := fun x => (x.1 ++ x.2).Perm es, meas := fun x => x.2.length }
    | none => none
  | _, _ => none
def an_Copy (es : Files) : Ann := { at_ := an_CopyL es, pins := [1, 2], prune := 1 }
def keysN (es : Files) : Prop := (es.map (·.1)).Nodup
def c_nCopy : PC := gM T_fsN [] fun n _ => ⟨some (okN n.1), .sv (.ref (.cell 3 [] 0)), app (oObj T_fsN 2 n) (oAt T_fsN 3 12 n)⟩

def preV (s p : List (BitVec 8)) : Bool := decide (p.length ≤ s.length) && s.take p.length == p
def c_HasPrefix : PC := D [.str, .str] [.bool] (fun _ => none) (fun x => (preV x.1 x.2.1, ()))
def c_isNaN : PC := D [.str] [.bool] (fun _ => none) (fun _ => (false, ()))
def cmpS (x y : List (BitVec 8)) : Int := bif lessL x y then -1 else bif lessL y x then 1 else 0
def c_cmpS : PC := D [.str, .str] [.i64] (fun _ => none) (fun x => (cmpS x.1 x.2.1, ()))
def cmpF (a b : Fil) : Int := cmpS a.1 b.1
def c_Lf1 : PC := D [T_File, T_File] [.i64] (fun _ => none) (fun x => (cmpF x.1 x.2.1, ()))
def pathsN (es : Files) : Prop := ∀ p ∈ es, p.2.1 = p.1
def filesV (es : Files) (pre : List (BitVec 8)) : List Fil := (es.filter fun p => preV p.1 pre).map (·.2)
def listV (es : Files) (pre : List (BitVec 8)) : List Fil := sortF cmpF (filesV es pre)
def an_ListL (es : Files) (pre : List (BitVec 8)) : Nat → SState → Option LoopAnn
  | 5, S => match ghostOf S.hp with
    | some g => some { X := Files × Files, slots := fun _ => [(5, .sv (.ref (.row 11)))], objs := fun x => [(x_celN S 15, .it false .str true T_File x.2 none g), (11, .row t_api_File 4 T_File (filesV x.1 pre) false)], inv := fun x => (x.1 ++ x.2).Perm es, meas := fun x => x.2.length }
    | none => none
  | _, _ => none
def an_List (es : Files) (pre : List (BitVec 8)) : Ann := { at_ := an_ListL es pre, pins := [1, 2], prune := 1 }
def c_nList : PC := gM T_fsN [.str] fun n x => ⟨some (okN n.1 ∧ pathsN n.1), .sv (.dv (.imm T_File (listV n.1 x.1))), oObj T_fsN 2 n⟩

theorem left_mem {es dn lf more : Files} {p : List (BitVec 8) × Fil} (hx : (dn ++ lf).Perm es) (hm : lf.Perm (p :: more)) : p ∈ es :=
  hx.mem_iff.1 (List.mem_append_right _ (hm.mem_iff.2 (List.mem_cons_self ..)))
theorem left_step {es dn lf more : Files} {p : List (BitVec 8) × Fil} (hx : (dn ++ lf).Perm es) (hm : lf.Perm (p :: more)) : ((dn ++ [p]) ++ more).Perm es := by
  rw [List.append_assoc]
  exact (List.Perm.append_left dn hm.symm).trans hx
theorem mput_newS {k : List (BitVec 8)} {f : Fil} : ∀ {dn : Files}, (∀ p ∈ dn, k ≠ p.1) → mput .str dn k f = dn ++ [(k, f)]
  | [], _ => rfl
  | p :: r, h => by
    rw [mput_consS, if_neg (h p (List.mem_cons_self ..)), mput_newS fun q hq => h q (List.mem_cons_of_mem _ hq)]; rfl
theorem mput_app {es dn lf more : Files} {k : List (BitVec 8)} {f : Fil} (hk : keysN es) (hx : (dn ++ lf).Perm es) (hm : lf.Perm ((k, f) :: more)) : (mput .str dn k f ++ more).Perm es := by
  have hs := left_step hx hm
  rw [mput_newS fun p hp e => ?_]
  · exact hs
  · have hk : (((dn ++ [(k, f)]) ++ more).map (·.1)).Nodup := (hs.map _).nodup_iff.2 hk
    rw [List.append_assoc, List.map_append] at hk
    exact (List.nodup_append.1 hk).2.2 p.1 (List.mem_map.2 ⟨p, hp, rfl⟩) k (by simp) e.symm

theorem cmpS_lt (x y : List (BitVec 8)) : decide (cmpS x y < 0) = lessL x y := by
  unfold cmpS
  cases lessL x y with
  | true => rfl
  | false => cases lessL y x <;> rfl
theorem swoF : Go.Sort.SWO (fun x y : Fil => decide (cmpF x y < 0)) := by
  have e : (fun x y : Fil => decide (cmpF x y < 0)) = fun x y => lessL x.1 y.1 := by
    funext x y; exact cmpS_lt _ _
  rw [e]
  exact ⟨fun x => lessL_irr _, fun x y z h k => lessL_trans h k, fun x y z h k => lessL_lele k h⟩
theorem sortF_eq {α : Type} {cf : α → α → Int} (hO : Go.Sort.SWO (fun x y => decide (cf x y < 0))) {xs ys : List α} (hp : xs.Perm ys) (ha : antiF cf xs) : sortF cf xs = sortF cf ys := by
  have hs : ∀ zs : List α, (sortF cf zs).Pairwise (fun x y => leF cf x y = true) := fun zs => by
    unfold sortF
    refine List.pairwise_mergeSort (le := leF cf) (fun a b c h1 h2 => ?_) (fun a b => ?_) zs
    · unfold leF at *
      have := hO.ntrans c b a (by simpa using h2) (by simpa using h1)
      simpa using this
    · unfold leF
      cases h1 : decide (cf b a < 0) with
      | false => rfl
      | true =>
        cases h2 : decide (cf a b < 0) with
        | false => rfl
        | true => have := hO.irrefl a; rw [hO.trans a b a h2 h1] at this; cases this
  refine List.Perm.eq_of_pairwise (le := fun x y => leF cf x y = true) ?_ (hs xs) (hs ys) (((sortF_perm cf xs).trans hp).trans (sortF_perm cf ys).symm)
  intro a b h1 h2 h3 h4
  unfold leF at h3 h4
  exact ha a ((sortF_perm cf xs).mem_iff.1 h1) b (hp.mem_iff.2 ((sortF_perm cf ys).mem_iff.1 h2)) (by simpa using h4) (by simpa using h3)
theorem filesV_perm {es fs : Files} {pre : List (BitVec 8)} (h : es.Perm fs) : (filesV es pre).Perm (filesV fs pre) := (h.filter _).map _
theorem filesV_len (es : Files) (pre : List (BitVec 8)) : (filesV es pre).length ≤ es.length := by
  unfold filesV
  rw [List.length_map]
  exact List.length_filter_le _ _
theorem nodup_same {es : Files} {p q : List (BitVec 8) × Fil} : ∀ {es : Files}, (es.map (·.1)).Nodup → p ∈ es → q ∈ es → p.1 = q.1 → p = q
  | a :: r, hn, hp, hq, e => by
    have hn' := List.nodup_cons.1 (by simpa using hn : (a.1 :: r.map (·.1)).Nodup)
    rcases List.mem_cons.1 hp with rfl | hp'
    · rcases List.mem_cons.1 hq with rfl | hq'
      · rfl
      · exact absurd (List.mem_map.2 ⟨q, hq', e.symm⟩) hn'.1
    · rcases List.mem_cons.1 hq with rfl | hq'
      · exact absurd (show q.1 ∈ r.map (·.1) from List.mem_map.2 ⟨p, hp', e⟩) hn'.1
      · exact nodup_same (es := es) hn'.2 hp' hq' e
theorem files_anti {es : Files} {pre : List (BitVec 8)} (hp : pathsN es) (hk : keysN es) : antiF cmpF (filesV es pre) := by
  intro x hx y hy h1 h2
  unfold filesV at hx hy
  obtain ⟨p, hp1, rfl⟩ := List.mem_map.1 hx
  obtain ⟨q, hq1, rfl⟩ := List.mem_map.1 hy
  have hp1 := (List.mem_filter.1 hp1).1
  have hq1 := (List.mem_filter.1 hq1).1
  have e1 : lessL p.2.1 q.2.1 = false := by rw [← cmpS_lt]; exact decide_eq_false h1
  have e2 : lessL q.2.1 p.2.1 = false := by rw [← cmpS_lt]; exact decide_eq_false h2
  have e := lessL_tri e1 e2
  rw [hp p hp1, hp q hq1] at e
  rw [nodup_same (es := []) hk hp1 hq1 e]

theorem stringslite_HasPrefix_vc (x p : List (BitVec 8)) :
    (decide (ofN (List.length p) ≤ ofN (List.length x)) = true → 0 ≤ ofN (List.length p) ∧ ofN (List.length p) ≤ ofN (List.length x)) ∧
      (decide (ofN (List.length p) ≤ ofN (List.length x)) && List.drop 0 (List.take (Int.toNat (ofN (List.length p))) x) == p) = preV x p := by
  refine ⟨fun h => ?_, ?_⟩
  · have h : (p.length : Int) ≤ (x.length : Int) := of_decide_eq_true h
    refine ⟨?_, h⟩
    show (0 : Int) ≤ (p.length : Int)
    omega
  · unfold preV
    have e : decide (ofN p.length ≤ ofN x.length) = decide (p.length ≤ x.length) := by
      show decide ((p.length : Int) ≤ (x.length : Int)) = _
      rw [decide_eq_decide]; omega
    rw [e]
    rfl
theorem strings_HasPrefix_vc (x p : List (BitVec 8)) :
    preV x p = preV x p := by
  rfl
theorem cmp_isNaN_vc (x : List (BitVec 8)) :
    (x != x) = false := by
  simp
theorem cmp_Compare_vc (x y : List (BitVec 8)) :
    (false = true → (false = true → 0 = cmpS x y) ∧ (false = false → -1 = cmpS x y)) ∧
      (false = false → (false = true → 1 = cmpS x y) ∧ (false = false → (lessL x y = true → -1 = cmpS x y) ∧ (lessL x y = false → (lessL y x = true → 1 = cmpS x y) ∧ (lessL y x = false → 0 = cmpS x y)))) := by
  refine ⟨(fun h => nomatch h), fun _ => ⟨(fun h => nomatch h), fun _ => ⟨fun h => ?_, fun h => ⟨fun k => ?_, fun k => ?_⟩⟩⟩⟩
  · unfold cmpS; rw [h]; rfl
  · unfold cmpS; rw [h, k]; rfl
  · unfold cmpS; rw [h, k]; rfl
theorem names_Lf1_vc (a b : Fil) :
    cmpS a.1 b.1 = cmpF a b := by
  rfl
theorem names_List_vc (es : Files) (pre : List (BitVec 8)) (h : okN es) (hp : pathsN es) (hk : keysN es) :
    (false = true → nilOf (List (BitVec 8) × Int × Int × List (List (BitVec 8) × Int)) = listV es pre ∧ List.Perm es es) ∧
      (false = false →
      ∀ (g : Gh),
      (∃ (x : List (List (BitVec 8) × List (BitVec 8) × Int × Int × List (List (BitVec 8) × Int)) × List (List (BitVec 8) × List (BitVec 8) × Int × Int × List (List (BitVec 8) × Int))),
      List.Perm (x.1 ++ x.2) es ∧ (List.Perm es x.2 ∧ g = g) ∧ filesV x.1 pre = nilOf (List (BitVec 8) × Int × Int × List (List (BitVec 8) × Int))) ∧
      ∀ (x : List (List (BitVec 8) × List (BitVec 8) × Int × Int × List (List (BitVec 8) × Int)) × List (List (BitVec 8) × List (BitVec 8) × Int × Int × List (List (BitVec 8) × Int))),
      List.Perm (x.1 ++ x.2) es →
      g = g ∧
      (x.2 = nilOf (T.den T.str × T.den (T.pair T.str (T.pair T.i64 (T.pair T.i64 (T.slc (T.pair (T.arr 32 T.u8) T.i64)))))) →
      (List.length (filesV x.1 pre) < 4611686018427387904 ∧
      ∀ (x_1 : List (BitVec 8) × Int × Int × List (List (BitVec 8) × Int)),
      List.Mem x_1 (filesV x.1 pre) → ∀ (y : List (BitVec 8) × Int × Int × List (List (BitVec 8) × Int)), List.Mem y (filesV x.1 pre) → ¬cmpF x_1 y < 0 → ¬cmpF y x_1 < 0 → x_1 = y) ∧
      List.mergeSort (filesV x.1 pre) (leF cmpF) = listV es pre ∧ List.Perm es es) ∧
      ∀ (x_1 : T.den T.str) (y : T.den (T.pair T.str (T.pair T.i64 (T.pair T.i64 (T.slc (T.pair (T.arr 32 T.u8) T.i64))))))
      (more : List (T.den T.str × T.den (T.pair T.str (T.pair T.i64 (T.pair T.i64 (T.slc (T.pair (T.arr 32 T.u8) T.i64))))))),
      List.Perm x.2 ((x_1, y) :: more) →
      g = g ∧
      (preV x_1 pre = true →
      List.length y.2.2.2 ≤ 4096 ∧
      List.length (filesV x.1 pre) + List.length [y] ≤ ROOM ∧
      ∃ (x' :
      List (List (BitVec 8) × List (BitVec 8) × Int × Int × List (List (BitVec 8) × Int)) ×
      List (List (BitVec 8) × List (BitVec 8) × Int × Int × List (List (BitVec 8) × Int))),
      List.Perm (x'.1 ++ x'.2) es ∧ List.length x'.2 < List.length x.2 ∧ (List.Perm more x'.2 ∧ g = g) ∧ filesV x.1 pre ++ [y] = filesV x'.1 pre) ∧
      (preV x_1 pre = false →
      ∃ (x' :
      List (List (BitVec 8) × List (BitVec 8) × Int × Int × List (List (BitVec 8) × Int)) × List (List (BitVec 8) × List (BitVec 8) × Int × Int × List (List (BitVec 8) × Int))),
      List.Perm (x'.1 ++ x'.2) es ∧ List.length x'.2 < List.length x.2 ∧ (List.Perm more x'.2 ∧ g = g) ∧ filesV x.1 pre = filesV x'.1 pre)) := by
  refine ⟨(fun q => nomatch q), fun _ g => ⟨⟨([], es), List.Perm.refl _, ⟨List.Perm.refl _, rfl⟩, rfl⟩, fun x hx => ⟨rfl, fun h0 => ?_, fun k f more hm => ⟨rfl, fun q => ⟨h.2 (k, f) (left_mem hx hm), ?_, (x.1 ++ [(k, f)], more), left_step hx hm, ?_, ⟨List.Perm.refl _, rfl⟩, ?_⟩, fun q => ⟨(x.1 ++ [(k, f)], more), left_step hx hm, ?_, ⟨List.Perm.refl _, rfl⟩, ?_⟩⟩⟩⟩⟩
  · have h0 : x.2 = [] := h0
    rw [h0, List.append_nil] at hx
    have hlen := filesV_len x.1 pre
    have hl2 := hx.length_eq
    have hl3 := h.1
    have ha : antiF cmpF (filesV x.1 pre) := files_anti (fun p hp' => hp p (hx.mem_iff.1 hp')) ((hx.map _).nodup_iff.2 hk)
    exact ⟨⟨by omega, ha⟩, sortF_eq swoF (filesV_perm hx) ha, List.Perm.refl _⟩
  · have hlen := filesV_len x.1 pre
    have hl2 := hx.length_eq
    have hl3 := h.1
    rw [List.length_append] at hl2
    show (filesV x.1 pre).length + 1 ≤ ROOM
    unfold ROOM; omega
  · rw [hm.length_eq]; exact Nat.lt_succ_self _
  · have q : preV k pre = true := q
    unfold filesV
    rw [List.filter_append, List.filter_cons_of_pos (by exact q), List.map_append]; rfl
  · rw [hm.length_eq]; exact Nat.lt_succ_self _
  · have q : preV k pre = false := q
    unfold filesV
    rw [List.filter_append, List.filter_cons_of_neg (by rw [q]; decide), List.filter_nil, List.append_nil]

theorem names_Copy_vc (es : Files) (h : okN es) (hk : keysN es) :
    (false = true → False) ∧
      (false = false →
      ∀ (g : Gh),
      (∃ (x : List (List (BitVec 8) × List (BitVec 8) × Int × Int × List (List (BitVec 8) × Int)) × List (List (BitVec 8) × List (BitVec 8) × Int × Int × List (List (BitVec 8) × Int))),
      List.Perm (x.1 ++ x.2) es ∧ (List.Perm es es ∧ g = g) ∧ (List.Perm es x.2 ∧ g = g) ∧ List.Perm (nilOf (List (BitVec 8) × List (BitVec 8) × Int × Int × List (List (BitVec 8) × Int))) x.1) ∧
      ∀ (x : List (List (BitVec 8) × List (BitVec 8) × Int × Int × List (List (BitVec 8) × Int)) × List (List (BitVec 8) × List (BitVec 8) × Int × Int × List (List (BitVec 8) × Int))),
      List.Perm (x.1 ++ x.2) es →
      g = g ∧
      (x.2 = nilOf (T.den T.str × T.den (T.pair T.str (T.pair T.i64 (T.pair T.i64 (T.slc (T.pair (T.arr 32 T.u8) T.i64)))))) → List.Perm es es ∧ List.Perm x.1 es) ∧
      ∀ (x_1 : T.den T.str) (y : T.den (T.pair T.str (T.pair T.i64 (T.pair T.i64 (T.slc (T.pair (T.arr 32 T.u8) T.i64))))))
      (more : List (T.den T.str × T.den (T.pair T.str (T.pair T.i64 (T.pair T.i64 (T.slc (T.pair (T.arr 32 T.u8) T.i64))))))),
      List.Perm x.2 ((x_1, y) :: more) →
      g = g ∧
      List.length y.2.2.2 ≤ 4096 ∧
      ∃ (x' :
      List (List (BitVec 8) × List (BitVec 8) × Int × Int × List (List (BitVec 8) × Int)) × List (List (BitVec 8) × List (BitVec 8) × Int × Int × List (List (BitVec 8) × Int))),
      List.Perm (x'.1 ++ x'.2) es ∧ List.length x'.2 < List.length x.2 ∧ (List.Perm es es ∧ g = g) ∧ (List.Perm more x'.2 ∧ g = g) ∧ List.Perm (mput T.str x.1 x_1 y) x'.1) := by
  refine ⟨(fun q => nomatch q), fun _ g => ⟨⟨([], es), List.Perm.refl _, ⟨List.Perm.refl _, rfl⟩, ⟨List.Perm.refl _, rfl⟩, List.Perm.refl _⟩, fun x hx => ⟨rfl, fun h0 => ⟨List.Perm.refl _, ?_⟩, fun k f more hm => ⟨rfl, ?_, (mput .str x.1 k f, more), ?_, ?_, ⟨List.Perm.refl _, rfl⟩, ⟨List.Perm.refl _, rfl⟩, List.Perm.refl _⟩⟩⟩⟩
  · have h0 : x.2 = [] := h0
    rw [h0, List.append_nil] at hx
    exact hx
  · exact h.2 (k, f) (left_mem hx hm)
  · exact (mput_app hk hx hm)
  · rw [hm.length_eq]; exact Nat.lt_succ_self _

theorem names_Copy_spec : Vse.Spec P f_names_Names_Copy c_nCopy := spec_gm (l := [(f_names_Names_made, c_nMade), (f_names_New, c_nNew), (f_names_own, c_own)]) ⟨names_made_spec, names_New_spec, names_own_spec, trivial⟩ h_names_Names_Copy rfl rfl fun s x h ok _ => by
  obtain ⟨es, _⟩ := s
  exact bodyG_ok (an_Copy es) (names_Copy_vc es h ok.2.1) (by kernel_rfl)
end Go.Sal
