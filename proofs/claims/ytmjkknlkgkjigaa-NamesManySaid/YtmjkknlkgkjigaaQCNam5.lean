/- NamesLast: the last word counts. -/
import Derived.Test.YtmjkknlkgkjigaaQCNam4
import Derived.Test.YtmjkknlkgkjigaaQCAli15
set_option maxRecDepth 100000
namespace Go.Sal
open Go.Vse Go.Sal.Nm

def light15 (r : Rec) : Rec := (r.1, r.2.1, r.2.2.1, r.2.2.2.1, r.2.2.2.2.1, r.2.2.2.2.2.1.take 300, r.2.2.2.2.2.2.take 40)
def few15 (l : List Rec) : List Rec := (l.take 25).map light15
def fewK15 (l : List Rec) (k : Nat) : List Rec := (l.take k).map light15
def c_few15 : PC := D [.slc T_Rec] [.slc T_Rec] (fun _ => none) (fun x => (few15 x.1, ()))
def an_few15L (l : List Rec) : Nat → SState → Option LoopAnn
  | 3, S => some { X := Nat, slots := fun k => [(4, .sv (.dv (.i64 (ofN k)))), (3, .sv (.own 10 T_Rec (fewK15 l k)))], objs := fun _ => [(10, .tok t_api_Record 38), (x_tok S 3, .gone)], inv := fun k => k ≤ l.length ∧ k ≤ 25, meas := fun k => l.length - k }
  | _, _ => none
def an_few15 (l : List Rec) : Ann := { at_ := an_few15L l, prune := 1 }
def sameFs (a b : List (List (BitVec 8) × Int × Int × List (List (BitVec 8) × Int))) : Bool := decide (a = b)
def c_SameF : PC := D [.slc T_File, .slc T_File] [.bool] (fun _ => none) (fun x => (sameFs x.1 x.2.1, ()))
def pcsN (l : List Fil) (i : Nat) : List Pie := (l.getD i T_File.dflt).2.2.2
def an_SameFL (a b : List Fil) : Nat → SState → Option LoopAnn
  | 4, _ => some { X := Nat, slots := fun k => [(5, .sv (.dv (.i64 (ofN k))))], objs := fun _ => [], inv := fun k => k ≤ a.length ∧ a.take k = b.take k, meas := fun k => a.length - k }
  | 9, S => some { X := Nat, slots := fun k => [(6, .sv (.dv (.i64 (ofN k))))], objs := fun _ => [], inv := fun k => k ≤ (pcsN a (x_nat S 5).toNat).length ∧ (pcsN a (x_nat S 5).toNat).take k = (pcsN b (x_nat S 5).toNat).take k, meas := fun k => (pcsN a (x_nat S 5).toNat).length - k }
  | _, _ => none
def an_SameF (a b : List Fil) : Ann := { at_ := an_SameFL a b, prune := 1 }
def x_mapN (S : SState) (t : Nat) : Nat :=
  match Go.Vse.look (x_celN S t) S.hp with
  | .cells [.ref (.map m)] _ => m
  | _ => 0
def lastL (l : List Rec) (r : Rec) : List Rec := few15 (l ++ [r])
def an_LastL (l : List Rec) (r : Rec) : Nat → SState → Option LoopAnn
  | 9, S => some { X := Nat, slots := fun k => [(8, .sv (.dv (.i64 (ofN k))))], objs := fun k => oAt T_fsN (x_celN S 7) (x_mapN S 7) (ofK (lastL l r) k, ()), inv := fun k => k + 1 ≤ (lastL l r).length, meas := fun k => (lastL l r).length - k }
  | _, _ => none
def an_Last (l : List Rec) (r : Rec) : Ann := { at_ := an_LastL l r, prune := 1 }

theorem sameFs_ne {a b : List (List (BitVec 8) × Int × Int × List (List (BitVec 8) × Int))} (h : a ≠ b) : sameFs a b = false := by
  unfold sameFs; exact decide_eq_false h
theorem sameFs_eq {a b : List (List (BitVec 8) × Int × Int × List (List (BitVec 8) × Int))} (h : a = b) : sameFs a b = true := by
  unfold sameFs; exact decide_eq_true h
theorem wiN {k n : Nat} (h : k < n) : within (ofN k) n := ⟨by show (0 : Int) ≤ (k : Int); omega, by show (k : Int) < (n : Int); omega⟩
theorem ltN15 {k n : Nat} (h : decide (ofN k < ofN n) = true) : k < n := by
  have h : (k : Int) < (n : Int) := of_decide_eq_true h
  omega
theorem geN15 {k n : Nat} (h : decide (ofN k < ofN n) = false) : n ≤ k := by
  have h : ¬ (k : Int) < (n : Int) := of_decide_eq_false h
  omega
theorem i64N {k n : Nat} (h : k < n) (hn : n ≤ LIM) : inI64 (ofN k + 1) := by
  unfold LIM at hn
  show inI64 ((k : Int) + 1)
  unfold inI64; omega
theorem fewK15_succ {l : List Rec} {x : Nat} (h : x < l.length) : fewK15 l (x + 1) = fewK15 l x ++ [light15 (l.getD x T_Rec.dflt)] := by
  unfold fewK15
  rw [take_snoc' (d := T_Rec.dflt) h, List.map_append]; rfl
theorem few15_tail {l : List Rec} {x : Nat} (h : x < l.length) (h25 : x < 25) {e r : Rec} (hr : l.getD x T_Rec.dflt = r) (he : e = light15 r) : (fewK15 l x).length + [e].length ≤ ROOM ∧ inI64 (ofN x + 1) ∧ ∃ x', (x' ≤ l.length ∧ x' ≤ 25) ∧ l.length - x' < l.length - x ∧ ofN x + 1 = ofN x' ∧ fewK15 l x ++ [e] = fewK15 l x' := by
  refine ⟨?_, i64N h25 (by unfold LIM; omega), x + 1, ⟨h, h25⟩, by omega, rfl, by rw [fewK15_succ h, he, hr]⟩
  unfold fewK15
  rw [List.length_map, List.length_take]
  show _ + 1 ≤ ROOM
  unfold ROOM; omega
theorem le_of40 {n m : Nat} (h : decide ((m : Int) < ofN n) = false) : n ≤ m := by
  have h : ¬ (m : Int) < (n : Int) := of_decide_eq_false h
  omega

theorem mget_put {k : List (BitVec 8)} {f : Fil} {x : List (BitVec 8)} : ∀ {es : Files}, mget .str (mput .str es k f) x = if x = k then some f else mget .str es x
  | [] => by
    show mget .str [(k, f)] x = _
    rw [mget_consS]
  | p :: r => by
    rw [mput_consS]
    split
    · rename_i h
      rw [mget_consS, mget_consS, h]
      split <;> rfl
    · rename_i h
      rw [mget_consS, mget_consS, mget_put]
      split
      · rename_i h2
        rw [if_neg (by rw [h2]; exact fun e => h e.symm)]
      · rfl
theorem mget_noneS {x : List (BitVec 8)} : ∀ {es : Files}, (∀ p ∈ es, p.1 ≠ x) → mget .str es x = none
  | [], _ => rfl
  | p :: r, h => by
    rw [mget_consS, if_neg (fun e => h p (List.mem_cons_self ..) e.symm)]
    exact mget_noneS fun q hq => h q (List.mem_cons_of_mem _ hq)
theorem mget_del {k x : List (BitVec 8)} : ∀ {es : Files}, keysN es → mget .str (mdel .str es k) x = if x = k then none else mget .str es x
  | [], _ => by
    show none = _
    split <;> rfl
  | p :: r, hn => by
    have hn : (p.1 :: r.map (·.1)).Nodup := hn
    have hn' := List.nodup_cons.1 hn
    rw [mdel_consS]
    split
    · rename_i h
      split
      · rename_i h2
        exact mget_noneS fun q hq e => hn'.1 (by rw [← h, ← h2, ← e]; exact List.mem_map.2 ⟨q, hq, rfl⟩)
      · rename_i h2
        rw [mget_consS, if_neg (by rw [← h]; exact h2)]
    · rename_i h
      rw [mget_consS, mget_del hn'.2, mget_consS]
      split
      · rename_i h2
        rw [if_neg (by rw [h2]; exact fun e => h e.symm)]
      · rfl
theorem keysN_apply {es : Files} {r : Rec} (h : keysN es) : keysN (applyV es r) := by
  unfold applyV
  cases decide (mayV es r = 0) with
  | false => exact h
  | true =>
    rw [cond_true]
    cases r.2.2.2.1 == 2 with
    | true => exact mput_nodup (k := .str) h
    | false =>
      rw [cond_false]
      cases r.2.2.2.1 == 3 with
      | true => exact mdel_nodup (k := .str) h
      | false => exact h
theorem keysN_ofK (l : List Rec) : ∀ k, keysN (ofK l k)
  | 0 => List.nodup_nil
  | k + 1 => keysN_apply (keysN_ofK l k)
theorem stat_same {es : Files} {r : Rec} {p : List (BitVec 8)} (hn : keysN es) (h : (mayV es r != 0 || r.2.2.2.1 == 1 || r.2.2.2.2.2.1 != p) = true) : statV (applyV es r) p = statV es p := by
  have hm : mget .str (applyV es r) p = mget .str es p := by
    unfold applyV
    cases hd : decide (mayV es r = 0) with
    | false => rfl
    | true =>
      rw [cond_true]
      have h0 := of_decide_eq_true hd
      rw [h0] at h
      cases h2 : r.2.2.2.1 == 2 with
      | true =>
        have k2 : r.2.2.2.1 = 2 := by simpa using h2
        rw [k2] at h
        have h : (r.2.2.2.2.2.1 != p) = true := h
        rw [cond_true, mget_put, if_neg (fun e => by rw [e] at h; simp at h)]
      | false =>
        rw [cond_false]
        cases h3 : r.2.2.2.1 == 3 with
        | true =>
          have k3 : r.2.2.2.1 = 3 := by simpa using h3
          rw [k3] at h
          have h : (r.2.2.2.2.2.1 != p) = true := h
          rw [cond_true, mget_del hn, if_neg (fun e => by rw [e] at h; simp at h)]
        | false => rfl
  unfold statV
  rw [hm]
theorem stat_del {es : Files} {r : Rec} {p : List (BitVec 8)} (hn : keysN es) (h0 : mayV es r = 0) (hp : r.2.2.2.2.2.1 = p) (h3 : r.2.2.2.1 = 3) : (statV (applyV es r) p).2 = 150 := by
  have hm : mget .str (applyV es r) p = none := by
    unfold applyV
    rw [decide_eq_true h0, h3, cond_true]
    show mget .str (mdel .str es r.2.2.2.2.2.1) p = _
    rw [mget_del hn, if_pos hp.symm]
  unfold statV
  rw [hm]
theorem stat_put {es : Files} {r : Rec} {p : List (BitVec 8)} (h0 : mayV es r = 0) (hp : r.2.2.2.2.2.1 = p) (h2 : r.2.2.2.1 = 2) : statV (applyV es r) p = (fileOf r, 0) := by
  have hm : mget .str (applyV es r) p = some (fileOf r) := by
    unfold applyV
    rw [decide_eq_true h0, h2, cond_true]
    show mget .str (mput .str es r.2.2.2.2.2.1 (fileOf r)) p = _
    rw [mget_put, if_pos hp.symm]
  unfold statV
  rw [hm]
theorem kind_of {r : Rec} (h : checkV r = 0) : r.2.2.2.1 = 1 ∨ r.2.2.2.1 = 2 ∨ r.2.2.2.1 = 3 := by
  have hf := check_fits h
  unfold fitsV at hf
  split at hf
  · exact .inl (by assumption)
  · split at hf
    · exact .inr (.inr (by assumption))
    · split at hf
      · exact .inr (.inl (by assumption))
      · cases hf
theorem few15_len (l : List Rec) : (few15 l).length ≤ 25 := by
  unfold few15
  rw [List.length_map, List.length_take]
  exact Nat.min_le_left _ _

theorem law15_few_vc (l : List Rec) :
    (∃ (x : Nat), (x ≤ List.length l ∧ x ≤ 25) ∧ 0 = ofN x ∧ fewK15 l x = nilOf (Int × Int × List (BitVec 8) × Int × Int × List (BitVec 8) × List (List (BitVec 8) × Int))) ∧
      ∀ (x : Nat),
      x ≤ List.length l ∧ x ≤ 25 →
      ((decide (ofN x < ofN (List.length l)) && decide (ofN x < 25)) = true →
      within (ofN x) (List.length l) ∧
      (decide
      (40 <
      ofN
      (List.length
      (List.getD l (Int.toNat (ofN x))
      (T.dflt
      T_Rec)).2.2.2.2.2.2)) =
      true →
      (ofN 0 ≤ 40 ∧
      40 ≤
      ofN
      (List.length
      (List.getD l (Int.toNat (ofN x))
      (T.dflt
      T_Rec)).2.2.2.2.2.2)) ∧
      (decide
      (300 <
      ofN
      (List.length
      (List.getD l (Int.toNat (ofN x))
      (T.dflt
      T_Rec)).2.2.2.2.2.1)) =
      true →
      (ofN 0 ≤ 300 ∧
      300 ≤
      ofN
      (List.length
      (List.getD l (Int.toNat (ofN x))
      (T.dflt
      T_Rec)).2.2.2.2.2.1)) ∧
      List.length (fewK15 l x) +
      List.length
      [((List.getD l (Int.toNat (ofN x))
      (T.dflt T_Rec)).1,
      (List.getD l (Int.toNat (ofN x))
      (T.dflt T_Rec)).2.1,
      (List.getD l (Int.toNat (ofN x))
      (T.dflt T_Rec)).2.2.1,
      (List.getD l (Int.toNat (ofN x))
      (T.dflt
      T_Rec)).2.2.2.1,
      (List.getD l (Int.toNat (ofN x))
      (T.dflt
      T_Rec)).2.2.2.2.1,
      List.drop 0
      (List.take (Int.toNat 300)
      (List.getD l (Int.toNat (ofN x))
      (T.dflt
      T_Rec)).2.2.2.2.2.1),
      List.drop 0
      (List.take (Int.toNat 40)
      (List.getD l (Int.toNat (ofN x))
      (T.dflt
      T_Rec)).2.2.2.2.2.2))] ≤
      ROOM ∧
      inI64 (ofN x + 1) ∧
      ∃ (x' : Nat),
      (x' ≤ List.length l ∧ x' ≤ 25) ∧
      List.length l - x' < List.length l - x ∧
      ofN x + 1 = ofN x' ∧
      fewK15 l x ++
      [((List.getD l (Int.toNat (ofN x))
      (T.dflt T_Rec)).1,
      (List.getD l (Int.toNat (ofN x))
      (T.dflt
      T_Rec)).2.1,
      (List.getD l (Int.toNat (ofN x))
      (T.dflt
      T_Rec)).2.2.1,
      (List.getD l (Int.toNat (ofN x))
      (T.dflt
      T_Rec)).2.2.2.1,
      (List.getD l (Int.toNat (ofN x))
      (T.dflt
      T_Rec)).2.2.2.2.1,
      List.drop 0
      (List.take (Int.toNat 300)
      (List.getD l (Int.toNat (ofN x))
      (T.dflt
      T_Rec)).2.2.2.2.2.1),
      List.drop 0
      (List.take (Int.toNat 40)
      (List.getD l (Int.toNat (ofN x))
      (T.dflt
      T_Rec)).2.2.2.2.2.2))] =
      fewK15 l x') ∧
      (decide
      (300 <
      ofN
      (List.length
      (List.getD l (Int.toNat (ofN x))
      (T.dflt
      T_Rec)).2.2.2.2.2.1)) =
      false →
      List.length (fewK15 l x) +
      List.length
      [((List.getD l (Int.toNat (ofN x))
      (T.dflt T_Rec)).1,
      (List.getD l (Int.toNat (ofN x))
      (T.dflt T_Rec)).2.1,
      (List.getD l (Int.toNat (ofN x))
      (T.dflt T_Rec)).2.2.1,
      (List.getD l (Int.toNat (ofN x))
      (T.dflt
      T_Rec)).2.2.2.1,
      (List.getD l (Int.toNat (ofN x))
      (T.dflt
      T_Rec)).2.2.2.2.1,
      (List.getD l (Int.toNat (ofN x))
      (T.dflt
      T_Rec)).2.2.2.2.2.1,
      List.drop 0
      (List.take (Int.toNat 40)
      (List.getD l (Int.toNat (ofN x))
      (T.dflt
      T_Rec)).2.2.2.2.2.2))] ≤
      ROOM ∧
      inI64 (ofN x + 1) ∧
      ∃ (x' : Nat),
      (x' ≤ List.length l ∧ x' ≤ 25) ∧
      List.length l - x' < List.length l - x ∧
      ofN x + 1 = ofN x' ∧
      fewK15 l x ++
      [((List.getD l (Int.toNat (ofN x))
      (T.dflt T_Rec)).1,
      (List.getD l (Int.toNat (ofN x))
      (T.dflt
      T_Rec)).2.1,
      (List.getD l (Int.toNat (ofN x))
      (T.dflt
      T_Rec)).2.2.1,
      (List.getD l (Int.toNat (ofN x))
      (T.dflt
      T_Rec)).2.2.2.1,
      (List.getD l (Int.toNat (ofN x))
      (T.dflt
      T_Rec)).2.2.2.2.1,
      (List.getD l (Int.toNat (ofN x))
      (T.dflt
      T_Rec)).2.2.2.2.2.1,
      List.drop 0
      (List.take (Int.toNat 40)
      (List.getD l (Int.toNat (ofN x))
      (T.dflt
      T_Rec)).2.2.2.2.2.2))] =
      fewK15 l x')) ∧
      (decide
      (40 <
      ofN
      (List.length
      (List.getD l (Int.toNat (ofN x))
      (T.dflt
      T_Rec)).2.2.2.2.2.2)) =
      false →
      (decide
      (300 <
      ofN
      (List.length
      (List.getD l (Int.toNat (ofN x))
      (T.dflt
      T_Rec)).2.2.2.2.2.1)) =
      true →
      (ofN 0 ≤ 300 ∧
      300 ≤
      ofN
      (List.length
      (List.getD l (Int.toNat (ofN x))
      (T.dflt
      T_Rec)).2.2.2.2.2.1)) ∧
      List.length (fewK15 l x) +
      List.length
      [((List.getD l (Int.toNat (ofN x))
      (T.dflt T_Rec)).1,
      (List.getD l (Int.toNat (ofN x))
      (T.dflt T_Rec)).2.1,
      (List.getD l (Int.toNat (ofN x))
      (T.dflt T_Rec)).2.2.1,
      (List.getD l (Int.toNat (ofN x))
      (T.dflt
      T_Rec)).2.2.2.1,
      (List.getD l (Int.toNat (ofN x))
      (T.dflt
      T_Rec)).2.2.2.2.1,
      List.drop 0
      (List.take (Int.toNat 300)
      (List.getD l (Int.toNat (ofN x))
      (T.dflt
      T_Rec)).2.2.2.2.2.1),
      (List.getD l (Int.toNat (ofN x))
      (T.dflt
      T_Rec)).2.2.2.2.2.2)] ≤
      ROOM ∧
      inI64 (ofN x + 1) ∧
      ∃ (x' : Nat),
      (x' ≤ List.length l ∧ x' ≤ 25) ∧
      List.length l - x' < List.length l - x ∧
      ofN x + 1 = ofN x' ∧
      fewK15 l x ++
      [((List.getD l (Int.toNat (ofN x))
      (T.dflt T_Rec)).1,
      (List.getD l (Int.toNat (ofN x))
      (T.dflt
      T_Rec)).2.1,
      (List.getD l (Int.toNat (ofN x))
      (T.dflt
      T_Rec)).2.2.1,
      (List.getD l (Int.toNat (ofN x))
      (T.dflt
      T_Rec)).2.2.2.1,
      (List.getD l (Int.toNat (ofN x))
      (T.dflt
      T_Rec)).2.2.2.2.1,
      List.drop 0
      (List.take (Int.toNat 300)
      (List.getD l (Int.toNat (ofN x))
      (T.dflt
      T_Rec)).2.2.2.2.2.1),
      (List.getD l (Int.toNat (ofN x))
      (T.dflt
      T_Rec)).2.2.2.2.2.2)] =
      fewK15 l x') ∧
      (decide
      (300 <
      ofN
      (List.length
      (List.getD l (Int.toNat (ofN x))
      (T.dflt
      T_Rec)).2.2.2.2.2.1)) =
      false →
      List.length (fewK15 l x) +
      List.length
      [List.getD l (Int.toNat (ofN x))
      (T.dflt T_Rec)] ≤
      ROOM ∧
      inI64 (ofN x + 1) ∧
      ∃ (x' : Nat),
      (x' ≤ List.length l ∧ x' ≤ 25) ∧
      List.length l - x' < List.length l - x ∧
      ofN x + 1 = ofN x' ∧
      fewK15 l x ++
      [List.getD l (Int.toNat (ofN x))
      (T.dflt T_Rec)] =
      fewK15 l x'))) ∧
      ((decide (ofN x < ofN (List.length l)) && decide (ofN x < 25)) = false → fewK15 l x = few15 l) := by
  refine ⟨⟨0, ⟨Nat.zero_le _, Nat.zero_le _⟩, rfl, rfl⟩, fun x hx => ⟨fun q => ?_, fun q => ?_⟩⟩
  · simp only [Bool.and_eq_true] at q
    have h1 := ltN15 q.1
    have h2 : x < 25 := ltN15 (n := 25) q.2
    have hg : ∀ {m n : Nat}, decide ((m : Int) < ofN n) = true → ofN 0 ≤ (m : Int) ∧ (m : Int) ≤ ofN n := fun {m n} h => by
      have h : (m : Int) < (n : Int) := of_decide_eq_true h
      refine ⟨?_, ?_⟩
      · show (0 : Int) ≤ (m : Int); omega
      · show (m : Int) ≤ (n : Int); omega
    generalize hr : List.getD l (Int.toNat (ofN x)) (T.dflt T_Rec) = r
    refine ⟨wiN h1, fun q40 => ⟨hg (m := 40) q40, fun q3 => ⟨hg (m := 300) q3, few15_tail h1 h2 hr rfl⟩, fun q3 => few15_tail h1 h2 hr ?_⟩, fun q40 => ⟨fun q3 => ⟨hg (m := 300) q3, few15_tail h1 h2 hr ?_⟩, fun q3 => few15_tail h1 h2 hr ?_⟩⟩
    · unfold light15
      rw [List.take_of_length_le (le_of40 (m := 300) q3)]; rfl
    · unfold light15
      rw [List.take_of_length_le (le_of40 (m := 40) q40)]; rfl
    · unfold light15
      rw [List.take_of_length_le (le_of40 (m := 40) q40), List.take_of_length_le (le_of40 (m := 300) q3)]
  · unfold fewK15 few15
    congr 1
    rw [Bool.and_eq_false_iff] at q
    rcases q with q | q
    · have := geN15 q
      rw [List.take_of_length_le this, List.take_of_length_le (by omega)]
    · have := geN15 (n := 25) q
      rw [show x = 25 by omega]
theorem ref15_SameFiles_vc (a b : List Fil) (ha : a.length ≤ LIM) (hp : ∀ f ∈ a, f.2.2.2.length ≤ LIM) :
    ((ofN (List.length a) != ofN (List.length b)) = true → false = sameFs a b) ∧
      ((ofN (List.length a) != ofN (List.length b)) = false →
      (∃ (x : Nat), (x ≤ List.length a ∧ List.take x a = List.take x b) ∧ 0 = ofN x) ∧
      ∀ (x : Nat),
      x ≤ List.length a ∧ List.take x a = List.take x b →
      (decide (ofN x < ofN (List.length a)) = true →
      within (ofN x) (List.length a) ∧
      within (ofN x) (List.length b) ∧
      (((List.getD a (Int.toNat (ofN x)) (T.dflt (T.pair T.str (T.pair T.i64 (T.pair T.i64 (T.slc (T.pair (T.arr 32 T.u8) T.i64))))))).1 !=
      (List.getD b (Int.toNat (ofN x)) (T.dflt (T.pair T.str (T.pair T.i64 (T.pair T.i64 (T.slc (T.pair (T.arr 32 T.u8) T.i64))))))).1) =
      false →
      within (ofN x) (List.length a)) ∧
      (((List.getD a (Int.toNat (ofN x)) (T.dflt (T.pair T.str (T.pair T.i64 (T.pair T.i64 (T.slc (T.pair (T.arr 32 T.u8) T.i64))))))).1 !=
      (List.getD b (Int.toNat (ofN x)) (T.dflt (T.pair T.str (T.pair T.i64 (T.pair T.i64 (T.slc (T.pair (T.arr 32 T.u8) T.i64))))))).1) =
      false →
      within (ofN x) (List.length b)) ∧
      (((List.getD a (Int.toNat (ofN x)) (T.dflt (T.pair T.str (T.pair T.i64 (T.pair T.i64 (T.slc (T.pair (T.arr 32 T.u8) T.i64))))))).1 !=
      (List.getD b (Int.toNat (ofN x)) (T.dflt (T.pair T.str (T.pair T.i64 (T.pair T.i64 (T.slc (T.pair (T.arr 32 T.u8) T.i64))))))).1 ||
      (List.getD a (Int.toNat (ofN x)) (T.dflt (T.pair T.str (T.pair T.i64 (T.pair T.i64 (T.slc (T.pair (T.arr 32 T.u8) T.i64))))))).2.1 !=
      (List.getD b (Int.toNat (ofN x)) (T.dflt (T.pair T.str (T.pair T.i64 (T.pair T.i64 (T.slc (T.pair (T.arr 32 T.u8) T.i64))))))).2.1) =
      false →
      within (ofN x) (List.length a)) ∧
      (((List.getD a (Int.toNat (ofN x)) (T.dflt (T.pair T.str (T.pair T.i64 (T.pair T.i64 (T.slc (T.pair (T.arr 32 T.u8) T.i64))))))).1 !=
      (List.getD b (Int.toNat (ofN x)) (T.dflt (T.pair T.str (T.pair T.i64 (T.pair T.i64 (T.slc (T.pair (T.arr 32 T.u8) T.i64))))))).1 ||
      (List.getD a (Int.toNat (ofN x)) (T.dflt (T.pair T.str (T.pair T.i64 (T.pair T.i64 (T.slc (T.pair (T.arr 32 T.u8) T.i64))))))).2.1 !=
      (List.getD b (Int.toNat (ofN x)) (T.dflt (T.pair T.str (T.pair T.i64 (T.pair T.i64 (T.slc (T.pair (T.arr 32 T.u8) T.i64))))))).2.1) =
      false →
      within (ofN x) (List.length b)) ∧
      (((List.getD a (Int.toNat (ofN x)) (T.dflt (T.pair T.str (T.pair T.i64 (T.pair T.i64 (T.slc (T.pair (T.arr 32 T.u8) T.i64))))))).1 !=
      (List.getD b (Int.toNat (ofN x)) (T.dflt (T.pair T.str (T.pair T.i64 (T.pair T.i64 (T.slc (T.pair (T.arr 32 T.u8) T.i64))))))).1 ||
      (List.getD a (Int.toNat (ofN x)) (T.dflt (T.pair T.str (T.pair T.i64 (T.pair T.i64 (T.slc (T.pair (T.arr 32 T.u8) T.i64))))))).2.1 !=
      (List.getD b (Int.toNat (ofN x)) (T.dflt (T.pair T.str (T.pair T.i64 (T.pair T.i64 (T.slc (T.pair (T.arr 32 T.u8) T.i64))))))).2.1 ||
      (List.getD a (Int.toNat (ofN x)) (T.dflt (T.pair T.str (T.pair T.i64 (T.pair T.i64 (T.slc (T.pair (T.arr 32 T.u8) T.i64))))))).2.2.1 !=
      (List.getD b (Int.toNat (ofN x)) (T.dflt (T.pair T.str (T.pair T.i64 (T.pair T.i64 (T.slc (T.pair (T.arr 32 T.u8) T.i64))))))).2.2.1) =
      false →
      within (ofN x) (List.length a)) ∧
      (((List.getD a (Int.toNat (ofN x)) (T.dflt (T.pair T.str (T.pair T.i64 (T.pair T.i64 (T.slc (T.pair (T.arr 32 T.u8) T.i64))))))).1 !=
      (List.getD b (Int.toNat (ofN x)) (T.dflt (T.pair T.str (T.pair T.i64 (T.pair T.i64 (T.slc (T.pair (T.arr 32 T.u8) T.i64))))))).1 ||
      (List.getD a (Int.toNat (ofN x)) (T.dflt (T.pair T.str (T.pair T.i64 (T.pair T.i64 (T.slc (T.pair (T.arr 32 T.u8) T.i64))))))).2.1 !=
      (List.getD b (Int.toNat (ofN x)) (T.dflt (T.pair T.str (T.pair T.i64 (T.pair T.i64 (T.slc (T.pair (T.arr 32 T.u8) T.i64))))))).2.1 ||
      (List.getD a (Int.toNat (ofN x)) (T.dflt (T.pair T.str (T.pair T.i64 (T.pair T.i64 (T.slc (T.pair (T.arr 32 T.u8) T.i64))))))).2.2.1 !=
      (List.getD b (Int.toNat (ofN x)) (T.dflt (T.pair T.str (T.pair T.i64 (T.pair T.i64 (T.slc (T.pair (T.arr 32 T.u8) T.i64))))))).2.2.1) =
      false →
      within (ofN x) (List.length b)) ∧
      (((List.getD a (Int.toNat (ofN x)) (T.dflt (T.pair T.str (T.pair T.i64 (T.pair T.i64 (T.slc (T.pair (T.arr 32 T.u8) T.i64))))))).1 !=
      (List.getD b (Int.toNat (ofN x)) (T.dflt (T.pair T.str (T.pair T.i64 (T.pair T.i64 (T.slc (T.pair (T.arr 32 T.u8) T.i64))))))).1 ||
      (List.getD a (Int.toNat (ofN x)) (T.dflt (T.pair T.str (T.pair T.i64 (T.pair T.i64 (T.slc (T.pair (T.arr 32 T.u8) T.i64))))))).2.1 !=
      (List.getD b (Int.toNat (ofN x)) (T.dflt (T.pair T.str (T.pair T.i64 (T.pair T.i64 (T.slc (T.pair (T.arr 32 T.u8) T.i64))))))).2.1 ||
      (List.getD a (Int.toNat (ofN x)) (T.dflt (T.pair T.str (T.pair T.i64 (T.pair T.i64 (T.slc (T.pair (T.arr 32 T.u8) T.i64))))))).2.2.1 !=
      (List.getD b (Int.toNat (ofN x)) (T.dflt (T.pair T.str (T.pair T.i64 (T.pair T.i64 (T.slc (T.pair (T.arr 32 T.u8) T.i64))))))).2.2.1 ||
      ofN (List.length (List.getD a (Int.toNat (ofN x)) (T.dflt (T.pair T.str (T.pair T.i64 (T.pair T.i64 (T.slc (T.pair (T.arr 32 T.u8) T.i64))))))).2.2.2) !=
      ofN (List.length (List.getD b (Int.toNat (ofN x)) (T.dflt (T.pair T.str (T.pair T.i64 (T.pair T.i64 (T.slc (T.pair (T.arr 32 T.u8) T.i64))))))).2.2.2)) =
      true →
      false = sameFs a b) ∧
      (((List.getD a (Int.toNat (ofN x)) (T.dflt (T.pair T.str (T.pair T.i64 (T.pair T.i64 (T.slc (T.pair (T.arr 32 T.u8) T.i64))))))).1 !=
      (List.getD b (Int.toNat (ofN x)) (T.dflt (T.pair T.str (T.pair T.i64 (T.pair T.i64 (T.slc (T.pair (T.arr 32 T.u8) T.i64))))))).1 ||
      (List.getD a (Int.toNat (ofN x)) (T.dflt (T.pair T.str (T.pair T.i64 (T.pair T.i64 (T.slc (T.pair (T.arr 32 T.u8) T.i64))))))).2.1 !=
      (List.getD b (Int.toNat (ofN x)) (T.dflt (T.pair T.str (T.pair T.i64 (T.pair T.i64 (T.slc (T.pair (T.arr 32 T.u8) T.i64))))))).2.1 ||
      (List.getD a (Int.toNat (ofN x)) (T.dflt (T.pair T.str (T.pair T.i64 (T.pair T.i64 (T.slc (T.pair (T.arr 32 T.u8) T.i64))))))).2.2.1 !=
      (List.getD b (Int.toNat (ofN x)) (T.dflt (T.pair T.str (T.pair T.i64 (T.pair T.i64 (T.slc (T.pair (T.arr 32 T.u8) T.i64))))))).2.2.1 ||
      ofN (List.length (List.getD a (Int.toNat (ofN x)) (T.dflt (T.pair T.str (T.pair T.i64 (T.pair T.i64 (T.slc (T.pair (T.arr 32 T.u8) T.i64))))))).2.2.2) !=
      ofN (List.length (List.getD b (Int.toNat (ofN x)) (T.dflt (T.pair T.str (T.pair T.i64 (T.pair T.i64 (T.slc (T.pair (T.arr 32 T.u8) T.i64))))))).2.2.2)) =
      false →
      (∃ (x_1 : Nat),
      (x_1 ≤ List.length (pcsN a (Int.toNat (ofN x))) ∧ List.take x_1 (pcsN a (Int.toNat (ofN x))) = List.take x_1 (pcsN b (Int.toNat (ofN x)))) ∧ 0 = ofN x_1) ∧
      ∀ (x_1 : Nat),
      x_1 ≤ List.length (pcsN a (Int.toNat (ofN x))) ∧ List.take x_1 (pcsN a (Int.toNat (ofN x))) = List.take x_1 (pcsN b (Int.toNat (ofN x))) →
      within (ofN x) (List.length a) ∧
      (decide
      (ofN x_1 <
      ofN
      (List.length
      (List.getD a (Int.toNat (ofN x)) (T.dflt (T.pair T.str (T.pair T.i64 (T.pair T.i64 (T.slc (T.pair (T.arr 32 T.u8) T.i64))))))).2.2.2)) =
      true →
      within (ofN x) (List.length a) ∧
      within (ofN x_1)
      (List.length (List.getD a (Int.toNat (ofN x)) (T.dflt (T.pair T.str (T.pair T.i64 (T.pair T.i64 (T.slc (T.pair (T.arr 32 T.u8) T.i64))))))).2.2.2) ∧
      within (ofN x) (List.length b) ∧
      within (ofN x_1)
      (List.length
      (List.getD b (Int.toNat (ofN x)) (T.dflt (T.pair T.str (T.pair T.i64 (T.pair T.i64 (T.slc (T.pair (T.arr 32 T.u8) T.i64))))))).2.2.2) ∧
      ((!(eqL T.u8
      (List.getD
      (List.getD a (Int.toNat (ofN x))
      (T.dflt (T.pair T.str (T.pair T.i64 (T.pair T.i64 (T.slc (T.pair (T.arr 32 T.u8) T.i64))))))).2.2.2
      (Int.toNat (ofN x_1)) (T.dflt (T.pair (T.arr 32 T.u8) T.i64))).1
      (List.getD
      (List.getD b (Int.toNat (ofN x))
      (T.dflt (T.pair T.str (T.pair T.i64 (T.pair T.i64 (T.slc (T.pair (T.arr 32 T.u8) T.i64))))))).2.2.2
      (Int.toNat (ofN x_1)) (T.dflt (T.pair (T.arr 32 T.u8) T.i64))).1 &&
      (List.getD
      (List.getD a (Int.toNat (ofN x))
      (T.dflt (T.pair T.str (T.pair T.i64 (T.pair T.i64 (T.slc (T.pair (T.arr 32 T.u8) T.i64))))))).2.2.2
      (Int.toNat (ofN x_1)) (T.dflt (T.pair (T.arr 32 T.u8) T.i64))).2 ==
      (List.getD
      (List.getD b (Int.toNat (ofN x))
      (T.dflt (T.pair T.str (T.pair T.i64 (T.pair T.i64 (T.slc (T.pair (T.arr 32 T.u8) T.i64))))))).2.2.2
      (Int.toNat (ofN x_1)) (T.dflt (T.pair (T.arr 32 T.u8) T.i64))).2)) =
      true →
      false = sameFs a b) ∧
      ((!(eqL T.u8
      (List.getD
      (List.getD a (Int.toNat (ofN x))
      (T.dflt (T.pair T.str (T.pair T.i64 (T.pair T.i64 (T.slc (T.pair (T.arr 32 T.u8) T.i64))))))).2.2.2
      (Int.toNat (ofN x_1)) (T.dflt (T.pair (T.arr 32 T.u8) T.i64))).1
      (List.getD
      (List.getD b (Int.toNat (ofN x))
      (T.dflt (T.pair T.str (T.pair T.i64 (T.pair T.i64 (T.slc (T.pair (T.arr 32 T.u8) T.i64))))))).2.2.2
      (Int.toNat (ofN x_1)) (T.dflt (T.pair (T.arr 32 T.u8) T.i64))).1 &&
      (List.getD
      (List.getD a (Int.toNat (ofN x))
      (T.dflt (T.pair T.str (T.pair T.i64 (T.pair T.i64 (T.slc (T.pair (T.arr 32 T.u8) T.i64))))))).2.2.2
      (Int.toNat (ofN x_1)) (T.dflt (T.pair (T.arr 32 T.u8) T.i64))).2 ==
      (List.getD
      (List.getD b (Int.toNat (ofN x))
      (T.dflt (T.pair T.str (T.pair T.i64 (T.pair T.i64 (T.slc (T.pair (T.arr 32 T.u8) T.i64))))))).2.2.2
      (Int.toNat (ofN x_1)) (T.dflt (T.pair (T.arr 32 T.u8) T.i64))).2)) =
      false →
      inI64 (ofN x_1 + 1) ∧
      ∃ (x' : Nat),
      (x' ≤ List.length (pcsN a (Int.toNat (ofN x))) ∧ List.take x' (pcsN a (Int.toNat (ofN x))) = List.take x' (pcsN b (Int.toNat (ofN x)))) ∧
      List.length (pcsN a (Int.toNat (ofN x))) - x' < List.length (pcsN a (Int.toNat (ofN x))) - x_1 ∧ ofN x_1 + 1 = ofN x')) ∧
      (decide
      (ofN x_1 <
      ofN
      (List.length
      (List.getD a (Int.toNat (ofN x)) (T.dflt (T.pair T.str (T.pair T.i64 (T.pair T.i64 (T.slc (T.pair (T.arr 32 T.u8) T.i64))))))).2.2.2)) =
      false →
      inI64 (ofN x + 1) ∧
      ∃ (x' : Nat), (x' ≤ List.length a ∧ List.take x' a = List.take x' b) ∧ List.length a - x' < List.length a - x ∧ ofN x + 1 = ofN x'))) ∧
      (decide (ofN x < ofN (List.length a)) = false → true = sameFs a b)) := by
  have hne : a ≠ b → false = sameFs a b := fun h => (sameFs_ne h).symm
  refine ⟨fun q => hne fun e => ?_, fun q => ⟨⟨0, ⟨Nat.zero_le _, rfl⟩, rfl⟩, fun x hx => ⟨fun q1 => ?_, fun q1 => ?_⟩⟩⟩
  · rw [e] at q; simp at q
  · have hx1 := ltN15 q1
    have hlen : a.length = b.length := by
      have q : ((a.length : Int) != (b.length : Int)) = false := q
      simp at q; omega
    have hx2 : x < b.length := hlen ▸ hx1
    have w1 := wiN hx1
    have w2 := wiN hx2
    have hmem : a.getD x T_File.dflt ∈ a := by
      rw [getD_lt hx1]; exact List.getElem_mem hx1
    have hpl := hp _ hmem
    refine ⟨w1, w2, fun _ => w1, fun _ => w2, fun _ => w1, fun _ => w2, fun _ => w1, fun _ => w2, fun q2 => hne fun e => ?_, fun q2 => ?_⟩
    · rw [e] at q2; simp at q2
    simp only [Bool.or_eq_false_iff, bne_eq_false_iff_eq] at q2
    obtain ⟨⟨⟨e1, e2⟩, e3⟩, e4⟩ := q2
    have e4 : (a.getD x T_File.dflt).2.2.2.length = (b.getD x T_File.dflt).2.2.2.length := by
      have e4 : ((a.getD x T_File.dflt).2.2.2.length : Int) = ((b.getD x T_File.dflt).2.2.2.length : Int) := e4
      omega
    refine ⟨⟨0, ⟨Nat.zero_le _, rfl⟩, rfl⟩, fun k hk => ⟨w1, fun q3 => ?_, fun q3 => ⟨i64N hx1 ha, x + 1, ⟨hx1, ?_⟩, by omega, rfl⟩⟩⟩
    · have hk1 : k < (a.getD x T_File.dflt).2.2.2.length := ltN15 q3
      have hk2 : k < (b.getD x T_File.dflt).2.2.2.length := e4 ▸ hk1
      refine ⟨w1, wiN hk1, w2, wiN hk2, fun q4 => hne fun e => ?_, fun q4 => ⟨i64N hk1 hpl, k + 1, ⟨hk1, ?_⟩, ?_, rfl⟩⟩
      · rw [e, eqL_u8] at q4; simp at q4
      · have q4 : (!(eqL T.u8 ((a.getD x T_File.dflt).2.2.2.getD k T_Pie.dflt).1 ((b.getD x T_File.dflt).2.2.2.getD k T_Pie.dflt).1 && ((a.getD x T_File.dflt).2.2.2.getD k T_Pie.dflt).2 == ((b.getD x T_File.dflt).2.2.2.getD k T_Pie.dflt).2)) = false := q4
        rw [eqL_u8] at q4
        simp only [Bool.not_eq_false', Bool.and_eq_true, beq_iff_eq] at q4
        show List.take (k + 1) (a.getD x T_File.dflt).2.2.2 = List.take (k + 1) (b.getD x T_File.dflt).2.2.2
        have hk3 : List.take k (a.getD x T_File.dflt).2.2.2 = List.take k (b.getD x T_File.dflt).2.2.2 := hk.2
        rw [take_snoc' (d := T_Pie.dflt) hk1, take_snoc' (d := T_Pie.dflt) hk2, hk3]
        congr 2
        exact Prod.ext q4.1 q4.2
      · show (a.getD x T_File.dflt).2.2.2.length - (k + 1) < (a.getD x T_File.dflt).2.2.2.length - k
        omega
    · have hk0 : (a.getD x T_File.dflt).2.2.2.length ≤ k := geN15 q3
      have hk3 : List.take k (a.getD x T_File.dflt).2.2.2 = List.take k (b.getD x T_File.dflt).2.2.2 := hk.2
      rw [List.take_of_length_le hk0, List.take_of_length_le (e4 ▸ hk0)] at hk3
      rw [take_snoc' (d := T_File.dflt) hx1, take_snoc' (d := T_File.dflt) hx2, hx.2]
      congr 2
      exact Prod.ext e1 (Prod.ext e2 (Prod.ext e3 hk3))
  · have := geN15 q1
    have hlen : a.length = b.length := by
      have q : ((a.length : Int) != (b.length : Int)) = false := q
      simp at q; omega
    have e := hx.2
    rw [List.take_of_length_le (by omega), List.take_of_length_le (by omega)] at e
    exact (sameFs_eq e).symm
theorem law15_NamesLast_vc (l : List Rec) (r : Rec) (path : List (BitVec 8)) (hl : l.length ≤ 1048576) :
    List.length (nilOf (Int × Int × List (BitVec 8) × Int × Int × List (BitVec 8) × List (List (BitVec 8) × Int))) + List.length l ≤ ROOM ∧
      List.length (nilOf (Int × Int × List (BitVec 8) × Int × Int × List (BitVec 8) × List (List (BitVec 8) × Int)) ++ l) + List.length [r] ≤ ROOM ∧
      ((ofN (List.length (few15 (nilOf (Int × Int × List (BitVec 8) × Int × Int × List (BitVec 8) × List (List (BitVec 8) × Int)) ++ l ++ [r]))) == 0) = true → true = true) ∧
      ((ofN (List.length (few15 (nilOf (Int × Int × List (BitVec 8) × Int × Int × List (BitVec 8) × List (List (BitVec 8) × Int)) ++ l ++ [r]))) == 0) = false →
      inI64 (ofN (List.length (few15 (nilOf (Int × Int × List (BitVec 8) × Int × Int × List (BitVec 8) × List (List (BitVec 8) × Int)) ++ l ++ [r]))) - 1) ∧
      within (ofN (List.length (few15 (nilOf (Int × Int × List (BitVec 8) × Int × Int × List (BitVec 8) × List (List (BitVec 8) × Int)) ++ l ++ [r]))) - 1)
      (List.length (few15 (nilOf (Int × Int × List (BitVec 8) × Int × Int × List (BitVec 8) × List (List (BitVec 8) × Int)) ++ l ++ [r]))) ∧
      (false = true → false = true) ∧
      (false = false →
      (∃ (x : Nat), x + 1 ≤ List.length (lastL l r) ∧ 0 = ofN x ∧ List.Perm (nilOf (List (BitVec 8) × List (BitVec 8) × Int × Int × List (List (BitVec 8) × Int))) (ofK (lastL l r) x)) ∧
      ∀ (x : Nat),
      x + 1 ≤ List.length (lastL l r) →
      inI64 (ofN (List.length (few15 (nilOf (Int × Int × List (BitVec 8) × Int × Int × List (BitVec 8) × List (List (BitVec 8) × Int)) ++ l ++ [r]))) - 1) ∧
      (decide (ofN x < ofN (List.length (few15 (nilOf (Int × Int × List (BitVec 8) × Int × Int × List (BitVec 8) × List (List (BitVec 8) × Int)) ++ l ++ [r]))) - 1) = true →
      within (ofN x) (List.length (few15 (nilOf (Int × Int × List (BitVec 8) × Int × Int × List (BitVec 8) × List (List (BitVec 8) × Int)) ++ l ++ [r]))) ∧
      okN (ofK (lastL l r) x) ∧
      inI64 (ofN x + 1) ∧
      ∃ (x' : Nat),
      x' + 1 ≤ List.length (lastL l r) ∧
      List.length (lastL l r) - x' < List.length (lastL l r) - x ∧
      ofN x + 1 = ofN x' ∧
      List.Perm
      (applyV (ofK (lastL l r) x)
      (List.getD (few15 (nilOf (Int × Int × List (BitVec 8) × Int × Int × List (BitVec 8) × List (List (BitVec 8) × Int)) ++ l ++ [r])) (Int.toNat (ofN x))
      (T.dflt T_Rec)))
      (ofK (lastL l r) x')) ∧
      (decide (ofN x < ofN (List.length (few15 (nilOf (Int × Int × List (BitVec 8) × Int × Int × List (BitVec 8) × List (List (BitVec 8) × Int)) ++ l ++ [r]))) - 1) = false →
      okN (ofK (lastL l r) x) ∧
      okN (ofK (lastL l r) x) ∧
      (false = true → false = true) ∧
      (false = false →
      okN (ofK (lastL l r) x) ∧
      okN
      (applyV (ofK (lastL l r) x)
      (List.getD (few15 (nilOf (Int × Int × List (BitVec 8) × Int × Int × List (BitVec 8) × List (List (BitVec 8) × Int)) ++ l ++ [r]))
      (Int.toNat (ofN (List.length (few15 (nilOf (Int × Int × List (BitVec 8) × Int × Int × List (BitVec 8) × List (List (BitVec 8) × Int)) ++ l ++ [r]))) - 1))
      (T.dflt T_Rec))) ∧
      okN (ofK (lastL l r) x) ∧
      ((!sameFs [(statV (ofK (lastL l r) x) path).1] [(statV (ofK (lastL l r) x) path).1] ||
      (statV (ofK (lastL l r) x) path).2 != (statV (ofK (lastL l r) x) path).2) =
      true →
      false = true) ∧
      ((!sameFs [(statV (ofK (lastL l r) x) path).1] [(statV (ofK (lastL l r) x) path).1] ||
      (statV (ofK (lastL l r) x) path).2 != (statV (ofK (lastL l r) x) path).2) =
      false →
      ((mayV (ofK (lastL l r) x)
      (List.getD (few15 (nilOf (Int × Int × List (BitVec 8) × Int × Int × List (BitVec 8) × List (List (BitVec 8) × Int)) ++ l ++ [r]))
      (Int.toNat
      (ofN
      (List.length
      (few15 (nilOf (Int × Int × List (BitVec 8) × Int × Int × List (BitVec 8) × List (List (BitVec 8) × Int)) ++ l ++ [r]))) -
      1))
      (T.dflt
      T_Rec)) !=
      0 ||
      (List.getD (few15 (nilOf (Int × Int × List (BitVec 8) × Int × Int × List (BitVec 8) × List (List (BitVec 8) × Int)) ++ l ++ [r]))
      (Int.toNat
      (ofN
      (List.length
      (few15 (nilOf (Int × Int × List (BitVec 8) × Int × Int × List (BitVec 8) × List (List (BitVec 8) × Int)) ++ l ++ [r]))) -
      1))
      (T.dflt
      T_Rec)).2.2.2.1 ==
      1 ||
      (List.getD (few15 (nilOf (Int × Int × List (BitVec 8) × Int × Int × List (BitVec 8) × List (List (BitVec 8) × Int)) ++ l ++ [r]))
      (Int.toNat
      (ofN
      (List.length
      (few15 (nilOf (Int × Int × List (BitVec 8) × Int × Int × List (BitVec 8) × List (List (BitVec 8) × Int)) ++ l ++ [r]))) -
      1))
      (T.dflt
      T_Rec)).2.2.2.2.2.1 !=
      path) =
      true →
      (sameFs [(statV (ofK (lastL l r) x) path).1]
      [(statV
      (applyV (ofK (lastL l r) x)
      (List.getD (few15 (nilOf (Int × Int × List (BitVec 8) × Int × Int × List (BitVec 8) × List (List (BitVec 8) × Int)) ++ l ++ [r]))
      (Int.toNat
      (ofN
      (List.length
      (few15 (nilOf (Int × Int × List (BitVec 8) × Int × Int × List (BitVec 8) × List (List (BitVec 8) × Int)) ++ l ++ [r]))) -
      1))
      (T.dflt
      T_Rec)))
      path).1] &&
      (statV (ofK (lastL l r) x) path).2 ==
      (statV
      (applyV (ofK (lastL l r) x)
      (List.getD (few15 (nilOf (Int × Int × List (BitVec 8) × Int × Int × List (BitVec 8) × List (List (BitVec 8) × Int)) ++ l ++ [r]))
      (Int.toNat
      (ofN
      (List.length
      (few15 (nilOf (Int × Int × List (BitVec 8) × Int × Int × List (BitVec 8) × List (List (BitVec 8) × Int)) ++ l ++ [r]))) -
      1))
      (T.dflt
      T_Rec)))
      path).2 &&
      true) =
      true) ∧
      ((mayV (ofK (lastL l r) x)
      (List.getD (few15 (nilOf (Int × Int × List (BitVec 8) × Int × Int × List (BitVec 8) × List (List (BitVec 8) × Int)) ++ l ++ [r]))
      (Int.toNat
      (ofN
      (List.length
      (few15 (nilOf (Int × Int × List (BitVec 8) × Int × Int × List (BitVec 8) × List (List (BitVec 8) × Int)) ++ l ++ [r]))) -
      1))
      (T.dflt
      T_Rec)) !=
      0 ||
      (List.getD (few15 (nilOf (Int × Int × List (BitVec 8) × Int × Int × List (BitVec 8) × List (List (BitVec 8) × Int)) ++ l ++ [r]))
      (Int.toNat
      (ofN
      (List.length
      (few15 (nilOf (Int × Int × List (BitVec 8) × Int × Int × List (BitVec 8) × List (List (BitVec 8) × Int)) ++ l ++ [r]))) -
      1))
      (T.dflt
      T_Rec)).2.2.2.1 ==
      1 ||
      (List.getD (few15 (nilOf (Int × Int × List (BitVec 8) × Int × Int × List (BitVec 8) × List (List (BitVec 8) × Int)) ++ l ++ [r]))
      (Int.toNat
      (ofN
      (List.length
      (few15 (nilOf (Int × Int × List (BitVec 8) × Int × Int × List (BitVec 8) × List (List (BitVec 8) × Int)) ++ l ++ [r]))) -
      1))
      (T.dflt
      T_Rec)).2.2.2.2.2.1 !=
      path) =
      false →
      (((List.getD (few15 (nilOf (Int × Int × List (BitVec 8) × Int × Int × List (BitVec 8) × List (List (BitVec 8) × Int)) ++ l ++ [r]))
      (Int.toNat
      (ofN
      (List.length
      (few15 (nilOf (Int × Int × List (BitVec 8) × Int × Int × List (BitVec 8) × List (List (BitVec 8) × Int)) ++ l ++ [r]))) -
      1))
      (T.dflt
      T_Rec)).2.2.2.1 ==
      3) =
      true →
      ((statV
      (applyV (ofK (lastL l r) x)
      (List.getD (few15 (nilOf (Int × Int × List (BitVec 8) × Int × Int × List (BitVec 8) × List (List (BitVec 8) × Int)) ++ l ++ [r]))
      (Int.toNat
      (ofN
      (List.length
      (few15 (nilOf (Int × Int × List (BitVec 8) × Int × Int × List (BitVec 8) × List (List (BitVec 8) × Int)) ++ l ++ [r]))) -
      1))
      (T.dflt
      T_Rec)))
      path).2 ==
      150 &&
      true) =
      true) ∧
      (((List.getD (few15 (nilOf (Int × Int × List (BitVec 8) × Int × Int × List (BitVec 8) × List (List (BitVec 8) × Int)) ++ l ++ [r]))
      (Int.toNat
      (ofN
      (List.length
      (few15 (nilOf (Int × Int × List (BitVec 8) × Int × Int × List (BitVec 8) × List (List (BitVec 8) × Int)) ++ l ++ [r]))) -
      1))
      (T.dflt
      T_Rec)).2.2.2.1 ==
      3) =
      false →
      ((statV
      (applyV (ofK (lastL l r) x)
      (List.getD
      (few15 (nilOf (Int × Int × List (BitVec 8) × Int × Int × List (BitVec 8) × List (List (BitVec 8) × Int)) ++ l ++ [r]))
      (Int.toNat
      (ofN
      (List.length
      (few15
      (nilOf (Int × Int × List (BitVec 8) × Int × Int × List (BitVec 8) × List (List (BitVec 8) × Int)) ++ l ++ [r]))) -
      1))
      (T.dflt
      T_Rec)))
      path).2 ==
      0 &&
      (statV
      (applyV (ofK (lastL l r) x)
      (List.getD
      (few15 (nilOf (Int × Int × List (BitVec 8) × Int × Int × List (BitVec 8) × List (List (BitVec 8) × Int)) ++ l ++ [r]))
      (Int.toNat
      (ofN
      (List.length
      (few15
      (nilOf (Int × Int × List (BitVec 8) × Int × Int × List (BitVec 8) × List (List (BitVec 8) × Int)) ++ l ++
      [r]))) -
      1))
      (T.dflt
      T_Rec)))
      path).1.2.2.1 ==
      (List.getD (few15 (nilOf (Int × Int × List (BitVec 8) × Int × Int × List (BitVec 8) × List (List (BitVec 8) × Int)) ++ l ++ [r]))
      (Int.toNat
      (ofN
      (List.length
      (few15 (nilOf (Int × Int × List (BitVec 8) × Int × Int × List (BitVec 8) × List (List (BitVec 8) × Int)) ++ l ++ [r]))) -
      1))
      (T.dflt
      T_Rec)).1 &&
      (statV
      (applyV (ofK (lastL l r) x)
      (List.getD
      (few15 (nilOf (Int × Int × List (BitVec 8) × Int × Int × List (BitVec 8) × List (List (BitVec 8) × Int)) ++ l ++ [r]))
      (Int.toNat
      (ofN
      (List.length
      (few15
      (nilOf (Int × Int × List (BitVec 8) × Int × Int × List (BitVec 8) × List (List (BitVec 8) × Int)) ++ l ++ [r]))) -
      1))
      (T.dflt
      T_Rec)))
      path).1.1 ==
      path &&
      ofN
      (List.length
      (statV
      (applyV (ofK (lastL l r) x)
      (List.getD
      (few15 (nilOf (Int × Int × List (BitVec 8) × Int × Int × List (BitVec 8) × List (List (BitVec 8) × Int)) ++ l ++ [r]))
      (Int.toNat
      (ofN
      (List.length
      (few15
      (nilOf (Int × Int × List (BitVec 8) × Int × Int × List (BitVec 8) × List (List (BitVec 8) × Int)) ++ l ++
      [r]))) -
      1))
      (T.dflt
      T_Rec)))
      path).1.2.2.2) ==
      ofN
      (List.length
      (List.getD (few15 (nilOf (Int × Int × List (BitVec 8) × Int × Int × List (BitVec 8) × List (List (BitVec 8) × Int)) ++ l ++ [r]))
      (Int.toNat
      (ofN
      (List.length
      (few15
      (nilOf (Int × Int × List (BitVec 8) × Int × Int × List (BitVec 8) × List (List (BitVec 8) × Int)) ++ l ++
      [r]))) -
      1))
      (T.dflt
      T_Rec)).2.2.2.2.2.2) &&
      true) =
      true))))))) := by
  have e : few15 (nilOf (Int × Int × List (BitVec 8) × Int × Int × List (BitVec 8) × List (List (BitVec 8) × Int)) ++ l ++ [r]) = lastL l r := rfl
  rw [e]
  have h25 : (lastL l r).length ≤ 25 := few15_len _
  generalize lastL l r = L at h25
  have hz : ∀ n : Nat, n ≤ 25 → inI64 (ofN n - 1) := fun n hn => by
    show inI64 ((n : Int) - 1)
    unfold inI64; omega
  refine ⟨?_, ?_, fun _ => rfl, fun q => ?_⟩
  · show 0 + l.length ≤ ROOM
    unfold ROOM; omega
  · show (l.length : Nat) + 1 ≤ ROOM
    unfold ROOM; omega
  have hL : 1 ≤ L.length := by
    have q : ((L.length : Int) == 0) = false := q
    simp only [beq_eq_false_iff_ne, ne_eq] at q
    omega
  refine ⟨hz _ h25, ⟨?_, ?_⟩, (fun h => nomatch h), fun _ => ⟨⟨0, hL, rfl, List.Perm.refl _⟩, fun x hx => ⟨hz _ h25, fun q1 => ?_, fun q1 => ?_⟩⟩⟩
  · show (0 : Int) ≤ (L.length : Int) - 1; omega
  · show (L.length : Int) - 1 < (L.length : Int); omega
  · have h1 : (x : Int) < (L.length : Int) - 1 := of_decide_eq_true q1
    have h2 : x + 1 < L.length := by omega
    exact ⟨wiN (by omega), okF_N (ofK_ok _ _), i64N (by omega : x < L.length) (by unfold LIM; omega), x + 1, h2, by omega, rfl, List.Perm.refl _⟩
  · have h1 : ¬ (x : Int) < (L.length : Int) - 1 := of_decide_eq_false q1
    have hx2 : L.length = x + 1 := by omega
    have ex : Int.toNat (ofN L.length - 1) = x := by
      rw [hx2]
      show Int.toNat (((x + 1 : Nat) : Int) - 1) = x
      omega
    rw [ex]
    have hE := ofK_ok L x
    have hK := keysN_ofK L x
    generalize ofK L x = E at hE hK
    generalize List.getD L x (T.dflt T_Rec) = R
    refine ⟨okF_N hE, okF_N hE, (fun h => nomatch h), fun _ => ⟨okF_N hE, okF_N (okF_apply hE), okF_N hE, fun q2 => ?_, fun q2 => ⟨fun q3 => ?_, fun q3 => ⟨fun q4 => ?_, fun q4 => ?_⟩⟩⟩⟩
    · rw [sameFs_eq rfl] at q2
      simp at q2
    · rw [stat_same hK q3, sameFs_eq rfl]
      simp
    all_goals
      simp only [Bool.or_eq_false_iff, bne_eq_false_iff_eq] at q3
      obtain ⟨⟨c1, c2⟩, c3⟩ := q3
    · rw [stat_del hK c1 c3 (by simpa using q4)]; rfl
    · have hk : R.2.2.2.1 = 2 := by
        rcases kind_of (may_check c1) with h | h | h
        · rw [h] at c2; cases c2
        · exact h
        · rw [h] at q4; cases q4
      rw [stat_put c1 c3 hk]
      unfold fileOf
      simp [c3]

theorem law15_few_spec : Vse.Spec P f_law15_few c_few15 := spec_fn (l := []) trivial h_law15_few rfl rfl fun x _ _ => body_ok (an_few15 x.1) (law15_few_vc x.1) (by kernel_rfl)
theorem ref15_SameFiles_spec : Vse.Spec P f_ref15_SameFiles c_SameF := spec_fn (l := []) trivial h_ref15_SameFiles rfl rfl fun x _ ok => body_ok (an_SameF x.1 x.2.1) (ref15_SameFiles_vc x.1 x.2.1 ok.1.1 fun f hf => (ok.1.2 f hf).2.2.2.1) (by kernel_rfl)
theorem law15_NamesLast_spec : Vse.Spec P f_law15_NamesLast (D [.slc T_Rec, T_Rec, .str] [.bool] (fun x => some (x.1.length ≤ 1048576)) (fun _ => (true, ()))) :=
  spec_fn (l := [(f_law15_few, c_few15), (f_law15_alive, c_nAlive), (f_names_New, c_nNew), (f_names_Names_Apply, c_nApply), (f_names_Names_Stat, c_nStat), (f_names_Names_Copy, c_nCopy), (f_ref15_SameFiles, c_SameF)])
    ⟨law15_few_spec, law15_alive_spec, names_New_spec, names_Apply_spec, names_Stat_spec, names_Copy_spec, ref15_SameFiles_spec, trivial⟩ h_law15_NamesLast rfl rfl
    fun x h _ => body_ok (an_Last x.1 x.2.1) (law15_NamesLast_vc x.1 x.2.1 x.2.2.1 h) (by kernel_rfl)

end Go.Sal
