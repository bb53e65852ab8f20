/- Of, Seek. -/
import Derived.Test.YtmjkknlkgkjigaaQCNam
set_option maxRecDepth 100000
namespace Go.Sal
open Go.Vse Go.Sal.Nm

abbrev T_Part : T := .pair T_Dig (.pair .i64 (.pair .i64 .i64))
abbrev Part := T_Part.den
def x_cel (S : SState) (t : Nat) : Nat :=
  match S.get t with
  | .sv (.ref (.cell l [] 0)) => l
  | _ => 0
def x_nat (S : SState) (t : Nat) : Int :=
  match S.get t with
  | .sv (.dv (.i64 n)) => n
  | _ => 0
def an_OfL (l : List Rec) : Nat → SState → Option LoopAnn
  | 3, S => some { X := Nat, slots := fun k => [(12, .sv (.dv (.i64 (ofN k))))], objs := fun k => (0, .gone) :: oAt T_fsN (x_cel S 5) 12 (ofK l k, ()), inv := fun k => k ≤ l.length, meas := fun k => l.length - k }
  | _, _ => none
def an_Of (l : List Rec) : Ann := { at_ := an_OfL l, prune := 1 }
def c_nOf : PC := gF [.slc T_Rec] fun x => ⟨some (ofOk x.1 ∧ x.1.length ≤ 1000000), .tup [.ref (.cell 1 [] 0), .dv (.i64 x.1.length), .dv (.i64 0)], oObj T_fsN 12 (ofK x.1 x.1.length, ())⟩
def sumN (l : List Pie) (k : Nat) : Int := sumP (l.take k)
def endsK (l : List Pie) (k : Nat) : List Int := (List.range k).map fun j => sumN l (j + 1)
def an_Ends (l : List Pie) : Nat → SState → Option LoopAnn
  | 4, S => some { X := Nat, slots := fun k => [(9, .sv (.dv (.i64 (ofN k)))), (4, .sv (.dv (.i64 (sumN l k)))), (3, .sv (.own 10 .i64 (endsK l k)))], objs := fun _ => [(10, .tok t_int 1), (x_tok S 3, .gone)], inv := fun k => k ≤ l.length, meas := fun k => l.length - k }
  | _, _ => none
def c_ends : PC := D [.slc T_Pie] [.slc .i64] (fun x => some ((sizeV x.1).2 = 0)) (fun x => (endsK x.1 x.1.length, ()))
def gtV (x y : Int) : Bool := decide (y < x)
def c_Sf1 : PC := ⟨false, fun ins => match ins with
  | [.dv (.i64 i), .ipt [.one (.imm .i64 xs)], .ipt [.one (.i64 from_)]] => some ⟨some (within i xs.length), .sv (.dv (.bool (gtV (xs.getD i.toNat 0) from_))), none, none⟩
  | _ => none, none, none⟩
def upV (xs : List Int) (from_ : Int) : Nat := (xs.takeWhile fun x => !gtV x from_).length
def riseV (xs : List Int) (from_ : Int) : Prop := ∀ i, i < xs.length → gtV (xs.getD i 0) from_ = decide (upV xs from_ ≤ i)
def c_Search : PC := ⟨false, fun ins => match ins with
  | [.dv (.i64 n), .clo g [[.one (.imm .i64 xs)], [.one (.i64 from_)]]] => bif Nat.beq g f_names_Names_Seek_f1 then some ⟨some (eqP (α := Int) n xs.length ∧ xs.length ≤ 1000000 ∧ riseV xs from_), .sv (.dv (.i64 (ofN (upV xs from_)))), none, none⟩ else none
  | _ => none, none, none⟩
def an_SeaL (xs : List Int) (from_ : Int) : Nat → SState → Option LoopAnn
  | 2, _ => some { X := Nat × Nat, slots := fun s => [(5, .sv (.dv (.i64 (ofN s.1)))), (6, .sv (.dv (.i64 (ofN s.2))))], objs := fun _ => [], inv := fun s => s.1 ≤ upV xs from_ ∧ upV xs from_ ≤ s.2 ∧ s.2 ≤ xs.length, meas := fun s => s.2 - s.1 }
  | _, _ => none
def partsL (start from_ to_ : Int) : List Pie → List Part
  | [] => []
  | p :: r => bif decide (to_ ≤ start) then [] else (p.1, p.2, max (from_ - start) 0, min (to_ - start) p.2) :: partsL (start + p.2) from_ to_ r
def partsV (l : List Pie) (from_ size : Int) : List Part := bif decide (0 < size) then partsL (sumN l (upV (endsK l l.length) from_)) from_ (from_ + size) (l.drop (upV (endsK l l.length) from_)) else []
def seekE (f : Fil) (e from_ size : Int) : Int := bif decide (e = 0) then (bif decide (min from_ size < 0) || decide (f.2.1 < from_) || decide (f.2.1 - from_ < size) then 5 else 0) else e
def seekP (f : Fil) (e from_ size : Int) : List Part := bif decide (seekE f e from_ size = 0) then partsV f.2.2.2 from_ size else []
def c_Seek : PC := gM T_fsN [.str, .i64, .i64] fun n x => ⟨some (okF n.1), .tup [.dv (.imm T_Part (seekP (statV n.1 x.1).1 (statV n.1 x.1).2 x.2.1 x.2.2.1)), .dv (.i64 (seekE (statV n.1 x.1).1 (statV n.1 x.1).2 x.2.1 x.2.2.1))], oObj T_fsN 2 n⟩
def an_SeekL (l : List Pie) (from_ size : Int) (target : List Part) : Nat → SState → Option LoopAnn
  | 10, S => some { X := Nat × List Part, slots := fun s => [(15, .sv (.dv (.i64 (ofN s.1)))), (12, .sv (.own 10 T_Part s.2))], objs := fun _ => [(10, .tok t_api_Part 35), (x_tok S 12, .gone)], inv := fun s => s.1 ≤ l.length ∧ s.2.length ≤ s.1 ∧ (s.2 ++ (bif decide (0 < size) then partsL (sumN l s.1) from_ (from_ + size) (l.drop s.1) else [])) = target, meas := fun s => l.length - s.1 }
  | _, _ => none
def an_Seek (l : List Pie) (from_ size : Int) (target : List Part) : Ann := { at_ := an_SeekL l from_ size target, pins := [1, 2], prune := 1 }
def fileR : Rec := (1, 1, List.replicate 32 0#8, 2, 0, [97#8], [(List.replicate 32 0#8, 3), (List.replicate 32 0#8, 5), (List.replicate 32 0#8, 2)])
def c_file : PC := D [] [T_Rec] (fun _ => none) (fun _ => (fileR, ()))
def c_nAlive : PC := D [] [.bool] (fun _ => none) (fun _ => (true, ()))

theorem names_Of_vc (l : List Rec) (h : ofOk l) (hl : l.length ≤ 1000000) :
    (∃ (x : Nat), x ≤ List.length l ∧ 0 = ofN x ∧ List.Perm (nilOf (List (BitVec 8) × List (BitVec 8) × Int × Int × List (List (BitVec 8) × Int))) (ofK l x)) ∧
      ∀ (x : Nat),
      x ≤ List.length l →
      (decide (ofN x < ofN (List.length l)) = true →
      within (ofN x) (List.length l) ∧
      okN (ofK l x) ∧
      ((mayV (ofK l x)
      (List.getD l (Int.toNat (ofN x))
      (T.dflt T_Rec)) !=
      0) =
      true →
      False) ∧
      ((mayV (ofK l x)
      (List.getD l (Int.toNat (ofN x))
      (T.dflt T_Rec)) !=
      0) =
      false →
      inI64 (ofN x + 1) ∧
      ∃ (x' : Nat),
      x' ≤ List.length l ∧
      List.length l - x' < List.length l - x ∧
      ofN x + 1 = ofN x' ∧
      List.Perm
      (applyV (ofK l x)
      (List.getD l (Int.toNat (ofN x))
      (T.dflt T_Rec)))
      (ofK l x'))) ∧
      (decide (ofN x < ofN (List.length l)) = false → (ofN (List.length l) = ofN (List.length l) ∧ ofN 0 = 0) ∧ List.Perm (ofK l x) (ofK l (List.length l))) := by
  refine ⟨⟨0, Nat.zero_le _, rfl, List.Perm.refl _⟩, fun x hx => ⟨fun q => ?_, fun q => ?_⟩⟩
  · have hlt : x < l.length := by
      have h : (x : Int) < (l.length : Int) := of_decide_eq_true q
      omega
    refine ⟨⟨by show (0 : Int) ≤ (x : Int); omega, by show (x : Int) < (l.length : Int); omega⟩, okF_N (ofK_ok l x), fun q2 => ?_, fun q2 => ⟨by show inI64 ((x : Int) + 1); unfold inI64; omega, x + 1, hlt, by omega, rfl, List.Perm.refl _⟩⟩
    have h0 : mayV (ofK l x) (l.getD (Int.toNat (ofN x)) T_Rec.dflt) = 0 := h x hlt
    have q2' : (mayV (ofK l x) (l.getD (Int.toNat (ofN x)) T_Rec.dflt) != 0) = true := q2
    rw [h0] at q2'
    cases q2'
  · have hx2 : x = l.length := by
      have h : ¬ (x : Int) < (l.length : Int) := of_decide_eq_false q
      omega
    subst hx2
    exact ⟨⟨rfl, rfl⟩, List.Perm.refl _⟩

theorem sumN_succ {l : List Pie} {k : Nat} (h : k < l.length) : sumN l (k + 1) = sumN l k + (l.getD k (T.dflt (T.pair (T.arr 32 T.u8) T.i64))).2 := by
  unfold sumN
  rw [take_snoc' (d := T.dflt (T.pair (T.arr 32 T.u8) T.i64)) h, sumP_append]; simp only [sumP]; omega
theorem take_all {l : List Pie} (h : l.all okPie = true) (k : Nat) : (l.take k).all okPie = true := by
  rw [List.all_eq_true] at h ⊢
  exact fun x hx => h x (List.mem_of_mem_take hx)
theorem sumN_nonneg {l : List Pie} (h : l.all okPie = true) (k : Nat) : 0 ≤ sumN l k := sumP_nonneg (take_all h k)
theorem sumN_all (l : List Pie) : sumN l l.length = sumP l := by unfold sumN; rw [List.take_length]
theorem drop_all {l : List Pie} (h : l.all okPie = true) (k : Nat) : (l.drop k).all okPie = true := by
  rw [List.all_eq_true] at h ⊢
  exact fun x hx => h x (List.mem_of_mem_drop hx)
theorem sumN_le {l : List Pie} (h : l.all okPie = true) (k : Nat) : sumN l k ≤ sumP l := by
  have e : sumP l = sumN l k + sumP (l.drop k) := by
    unfold sumN; rw [← sumP_append, List.take_append_drop]
  have := sumP_nonneg (drop_all h k)
  omega
theorem sumN_mono {l : List Pie} (h : l.all okPie = true) {i j : Nat} (hij : i ≤ j) : sumN l i ≤ sumN l j := by
  have e : l.take j = l.take i ++ (l.drop i).take (j - i) := by
    have : j = i + (j - i) := by omega
    rw [this, List.take_add]
    congr 2; omega
  have h2 := sumP_nonneg (take_all (drop_all h i) (j - i))
  unfold sumN
  rw [e, sumP_append]; omega
theorem endsK_len (l : List Pie) (k : Nat) : (endsK l k).length = k := by unfold endsK; rw [List.length_map, List.length_range]
theorem endsK_succ (l : List Pie) (k : Nat) : endsK l (k + 1) = endsK l k ++ [sumN l (k + 1)] := by
  unfold endsK; rw [List.range_succ, List.map_append]; rfl
theorem endsK_get (l : List Pie) {k i : Nat} (h : i < k) : (endsK l k).getD i (0 : Int) = sumN l (i + 1) := by
  unfold endsK
  simp [List.getD, h]

theorem names_ends_vc (l : List Pie) (h : (sizeV l).2 = 0) :
    (∃ (x : Nat), x ≤ List.length l ∧ 0 = ofN x ∧ 0 = sumN l x ∧ endsK l x = nilOf Int) ∧
      ∀ (x : Nat),
      x ≤ List.length l →
      (decide (ofN x < ofN (List.length l)) = true →
      within (ofN x) (List.length l) ∧
      inI64 (sumN l x + (List.getD l (Int.toNat (ofN x)) (T.dflt (T.pair (T.arr 32 T.u8) T.i64))).2) ∧
      List.length (endsK l x) + List.length [sumN l x + (List.getD l (Int.toNat (ofN x)) (T.dflt (T.pair (T.arr 32 T.u8) T.i64))).2] ≤ ROOM ∧
      inI64 (ofN x + 1) ∧
      ∃ (x' : Nat),
      x' ≤ List.length l ∧
      List.length l - x' < List.length l - x ∧
      ofN x + 1 = ofN x' ∧
      sumN l x + (List.getD l (Int.toNat (ofN x)) (T.dflt (T.pair (T.arr 32 T.u8) T.i64))).2 = sumN l x' ∧
      endsK l x ++ [sumN l x + (List.getD l (Int.toNat (ofN x)) (T.dflt (T.pair (T.arr 32 T.u8) T.i64))).2] = endsK l x') ∧
      (decide (ofN x < ofN (List.length l)) = false → endsK l x = endsK l (List.length l)) := by
  obtain ⟨h1, h2, h3⟩ := sizeN_ok h
  refine ⟨⟨0, Nat.zero_le _, rfl, rfl, rfl⟩, fun x hx => ⟨fun q => ?_, fun q => ?_⟩⟩
  · have hlt : x < l.length := by
      have h : (x : Int) < (l.length : Int) := of_decide_eq_true q
      omega
    have hs : sumN l x + (l.getD (Int.toNat (ofN x)) (T.dflt (T.pair (T.arr 32 T.u8) T.i64))).2 = sumN l (x + 1) := (sumN_succ hlt).symm
    rw [hs]
    have b0 := sumN_nonneg h2 (x + 1)
    have b1 := sumN_le h2 (x + 1)
    refine ⟨⟨by show (0 : Int) ≤ (x : Int); omega, by show (x : Int) < (l.length : Int); omega⟩, by unfold inI64; omega, by rw [endsK_len]; show x + 1 ≤ ROOM; unfold ROOM; omega, by show inI64 ((x : Int) + 1); unfold inI64; omega, x + 1, hlt, by omega, rfl, rfl, (endsK_succ l x).symm⟩
  · have hx2 : x = l.length := by
      have h : ¬ (x : Int) < (l.length : Int) := of_decide_eq_false q
      omega
    subst hx2
    rfl

theorem names_Sf1_vc (i : Int) (xs : List Int) (from_ : Int) (h : within i xs.length) :
    within i (List.length xs) ∧ decide (from_ < List.getD xs (Int.toNat i) (T.dflt T.i64)) = gtV (List.getD xs (Int.toNat i) 0) from_ := by
  exact ⟨h, rfl⟩

theorem up_le (xs : List Int) (from_ : Int) : upV xs from_ ≤ xs.length := by
  unfold upV
  exact (List.takeWhile_sublist _).length_le
theorem mid_eq (a b : Nat) (h : a + b ≤ 4000000) : BitVec.toInt (BitVec.setWidth 64 (BitVec.ofInt 64 (ofN a + ofN b) >>> BitVec.toNat 1#64)) = (((a + b) / 2 : Nat) : Int) := by
  have e : BitVec.ofInt 64 (ofN a + ofN b) = BitVec.ofNat 64 (a + b) := by
    show BitVec.ofInt 64 ((a : Int) + (b : Int)) = _
    rw [← Int.natCast_add]; exact BitVec.ofInt_natCast ..
  rw [e]
  have h1 : (BitVec.setWidth 64 (BitVec.ofNat 64 (a + b) >>> BitVec.toNat 1#64)).toNat = (a + b) / 2 := by
    rw [BitVec.setWidth_eq, BitVec.toNat_ushiftRight, BitVec.toNat_ofNat, Nat.mod_eq_of_lt (by omega)]
    show (a + b) >>> 1 = _
    rw [Nat.shiftRight_eq_div_pow]
  rw [BitVec.toInt_eq_toNat_of_lt (by rw [h1]; omega), h1]
theorem rise_mono (from_ : Int) : ∀ (xs : List Int), List.Pairwise (· ≤ ·) xs → riseV xs from_
  | [], _ => fun i h => by simp at h
  | a :: r, hp => by
    obtain ⟨h1, h2⟩ := List.pairwise_cons.1 hp
    have ih := rise_mono from_ r h2
    cases hg : gtV a from_ with
    | false =>
      have hu : upV (a :: r) from_ = upV r from_ + 1 := by
        unfold upV; rw [List.takeWhile_cons_of_pos (by simp [hg])]; rfl
      intro i hi
      rw [hu]
      cases i with
      | zero =>
        show gtV a from_ = _
        rw [hg]; simp
      | succ i =>
        have := ih i (by simp at hi; omega)
        show gtV (r.getD i 0) from_ = _
        rw [this]
        exact decide_eq_decide.2 (by omega)
    | true =>
      have hu : upV (a :: r) from_ = 0 := by
        unfold upV; rw [List.takeWhile_cons_of_neg (by simp [hg])]; rfl
      intro i hi
      rw [hu]
      have ha : from_ < a := of_decide_eq_true hg
      have : gtV ((a :: r).getD i 0) from_ = true := by
        cases i with
        | zero => exact hg
        | succ i =>
          have hi2 : i < r.length := by simp at hi; omega
          have hm := h1 _ (List.getElem_mem hi2)
          have e : (a :: r).getD (i + 1) 0 = r[i] := by simp [List.getD, hi2]
          rw [e]
          exact decide_eq_true (by omega)
      rw [this]; simp
theorem rise_ends {l : List Pie} (h : l.all okPie = true) (from_ : Int) (k : Nat) : riseV (endsK l k) from_ := by
  refine rise_mono from_ _ ?_
  unfold endsK
  rw [List.pairwise_map]
  exact List.pairwise_lt_range.imp fun hij => sumN_mono h (by omega)

theorem sort_Search_vc (xs : List Int) (from_ : Int) (hl : xs.length ≤ 1000000) (h : riseV xs from_) :
    (∃ (x : Nat × Nat), (x.1 ≤ upV xs from_ ∧ upV xs from_ ≤ x.2 ∧ x.2 ≤ List.length xs) ∧ 0 = ofN x.1 ∧ ofN (List.length xs) = ofN x.2) ∧
      ∀ (x : Nat × Nat),
      x.1 ≤ upV xs from_ ∧ upV xs from_ ≤ x.2 ∧ x.2 ≤ List.length xs →
      (decide (ofN x.1 < ofN x.2) = true →
      inI64 (ofN x.1 + ofN x.2) ∧
      within (BitVec.toInt (BitVec.setWidth 64 (BitVec.ofInt 64 (ofN x.1 + ofN x.2) >>> BitVec.toNat 1#64))) (List.length xs) ∧
      ((!gtV (List.getD xs (Int.toNat (BitVec.toInt (BitVec.setWidth 64 (BitVec.ofInt 64 (ofN x.1 + ofN x.2) >>> BitVec.toNat 1#64)))) 0) from_) = true →
      inI64 (BitVec.toInt (BitVec.setWidth 64 (BitVec.ofInt 64 (ofN x.1 + ofN x.2) >>> BitVec.toNat 1#64)) + 1) ∧
      ∃ (x' : Nat × Nat),
      (x'.1 ≤ upV xs from_ ∧ upV xs from_ ≤ x'.2 ∧ x'.2 ≤ List.length xs) ∧
      x'.2 - x'.1 < x.2 - x.1 ∧ BitVec.toInt (BitVec.setWidth 64 (BitVec.ofInt 64 (ofN x.1 + ofN x.2) >>> BitVec.toNat 1#64)) + 1 = ofN x'.1 ∧ ofN x.2 = ofN x'.2) ∧
      ((!gtV (List.getD xs (Int.toNat (BitVec.toInt (BitVec.setWidth 64 (BitVec.ofInt 64 (ofN x.1 + ofN x.2) >>> BitVec.toNat 1#64)))) 0) from_) = false →
      ∃ (x' : Nat × Nat),
      (x'.1 ≤ upV xs from_ ∧ upV xs from_ ≤ x'.2 ∧ x'.2 ≤ List.length xs) ∧
      x'.2 - x'.1 < x.2 - x.1 ∧ ofN x.1 = ofN x'.1 ∧ BitVec.toInt (BitVec.setWidth 64 (BitVec.ofInt 64 (ofN x.1 + ofN x.2) >>> BitVec.toNat 1#64)) = ofN x'.2)) ∧
      (decide (ofN x.1 < ofN x.2) = false → ofN x.1 = ofN (upV xs from_)) := by
  have hup : upV xs from_ ≤ xs.length := up_le xs from_
  refine ⟨⟨(0, xs.length), ⟨Nat.zero_le _, hup, Nat.le_refl _⟩, rfl, rfl⟩, fun x hx => ?_⟩
  obtain ⟨a, b⟩ := x
  obtain ⟨h1, h2, h3⟩ := hx
  dsimp only at h1 h2 h3 ⊢
  refine ⟨fun q => ?_, fun q => ?_⟩
  · have hab : a < b := by
      have h : (a : Int) < (b : Int) := of_decide_eq_true q
      omega
    rw [mid_eq a b (by omega)]
    have hm : (a + b) / 2 < xs.length := by omega
    have hr := h ((a + b) / 2) hm
    rw [Int.toNat_natCast, hr]
    refine ⟨by show inI64 ((a : Int) + (b : Int)); unfold inI64; omega, ⟨by omega, by omega⟩, fun q2 => ⟨by unfold inI64; omega, ((a + b) / 2 + 1, b), ⟨?_, h2, h3⟩, by dsimp only; omega, rfl, rfl⟩, fun q2 => ⟨(a, (a + b) / 2), ⟨h1, ?_, by dsimp only; omega⟩, by dsimp only; omega, rfl, rfl⟩⟩
    · have : ¬ upV xs from_ ≤ (a + b) / 2 := by simpa using q2
      dsimp only; omega
    · have : upV xs from_ ≤ (a + b) / 2 := by simpa using q2
      dsimp only; omega
  · have hab : ¬ a < b := by
      have h : ¬ (a : Int) < (b : Int) := of_decide_eq_false q
      omega
    have : a = upV xs from_ := by omega
    rw [this]

theorem names_Seek_vc (es : Files) (p : List (BitVec 8)) (from_ size : Int) (h : okF es) :
    okN es ∧
      (((statV es p).2 != 0) = true →
      (nilOf (List (BitVec 8) × Int × Int × Int) = seekP (statV es p).1 (statV es p).2 from_ size ∧ (statV es p).2 = seekE (statV es p).1 (statV es p).2 from_ size) ∧ List.Perm es es) ∧
      (((statV es p).2 != 0) = false →
      ((decide (min from_ size < 0) || decide ((statV es p).1.2.1 < from_)) = false → inI64 ((statV es p).1.2.1 - from_)) ∧
      ((decide (min from_ size < 0) || decide ((statV es p).1.2.1 < from_) || decide ((statV es p).1.2.1 - from_ < size)) = true →
      (nilOf (List (BitVec 8) × Int × Int × Int) = seekP (statV es p).1 (statV es p).2 from_ size ∧ 5 = seekE (statV es p).1 (statV es p).2 from_ size) ∧ List.Perm es es) ∧
      ((decide (min from_ size < 0) || decide ((statV es p).1.2.1 < from_) || decide ((statV es p).1.2.1 - from_ < size)) = false →
      (sizeV (statV es p).1.2.2.2).2 = 0 ∧
      inI64 (from_ + size) ∧
      (ofN (List.length (endsK (statV es p).1.2.2.2 (List.length (statV es p).1.2.2.2))) = ofN (List.length (endsK (statV es p).1.2.2.2 (List.length (statV es p).1.2.2.2))) ∧
      List.length (endsK (statV es p).1.2.2.2 (List.length (statV es p).1.2.2.2)) ≤ 1000000 ∧ riseV (endsK (statV es p).1.2.2.2 (List.length (statV es p).1.2.2.2)) from_) ∧
      (∃ (x : Nat × List (List (BitVec 8) × Int × Int × Int)),
      (x.1 ≤ List.length (statV es p).1.2.2.2 ∧
      List.length x.2 ≤ x.1 ∧
      (x.2 ++
      match decide (0 < size) with
      | true => partsL (sumN (statV es p).1.2.2.2 x.1) from_ (from_ + size) (List.drop x.1 (statV es p).1.2.2.2)
      | false => nilOf (List (BitVec 8) × Int × Int × Int)) =
      partsV (statV es p).1.2.2.2 from_ size) ∧
      ofN (upV (endsK (statV es p).1.2.2.2 (List.length (statV es p).1.2.2.2)) from_) = ofN x.1 ∧ x.2 = nilOf (List (BitVec 8) × Int × Int × Int)) ∧
      ∀ (x : Nat × List (List (BitVec 8) × Int × Int × Int)),
      x.1 ≤ List.length (statV es p).1.2.2.2 ∧
      List.length x.2 ≤ x.1 ∧
      (x.2 ++
      match decide (0 < size) with
      | true => partsL (sumN (statV es p).1.2.2.2 x.1) from_ (from_ + size) (List.drop x.1 (statV es p).1.2.2.2)
      | false => nilOf (List (BitVec 8) × Int × Int × Int)) =
      partsV (statV es p).1.2.2.2 from_ size →
      ((decide (ofN x.1 < ofN (List.length (endsK (statV es p).1.2.2.2 (List.length (statV es p).1.2.2.2)))) && decide (0 < size)) = true →
      within (ofN x.1) (List.length (statV es p).1.2.2.2) ∧
      within (ofN x.1) (List.length (endsK (statV es p).1.2.2.2 (List.length (statV es p).1.2.2.2))) ∧
      inI64
      (List.getD (endsK (statV es p).1.2.2.2 (List.length (statV es p).1.2.2.2)) (Int.toNat (ofN x.1)) (T.dflt T.i64) -
      (List.getD (statV es p).1.2.2.2 (Int.toNat (ofN x.1)) (T.dflt (T.pair (T.arr 32 T.u8) T.i64))).2) ∧
      (decide
      (from_ + size ≤
      List.getD (endsK (statV es p).1.2.2.2 (List.length (statV es p).1.2.2.2)) (Int.toNat (ofN x.1)) (T.dflt T.i64) -
      (List.getD (statV es p).1.2.2.2 (Int.toNat (ofN x.1)) (T.dflt (T.pair (T.arr 32 T.u8) T.i64))).2) =
      true →
      (x.2 = seekP (statV es p).1 (statV es p).2 from_ size ∧ 0 = seekE (statV es p).1 (statV es p).2 from_ size) ∧ List.Perm es es) ∧
      (decide
      (from_ + size ≤
      List.getD (endsK (statV es p).1.2.2.2 (List.length (statV es p).1.2.2.2)) (Int.toNat (ofN x.1)) (T.dflt T.i64) -
      (List.getD (statV es p).1.2.2.2 (Int.toNat (ofN x.1)) (T.dflt (T.pair (T.arr 32 T.u8) T.i64))).2) =
      false →
      inI64
      (from_ -
      (List.getD (endsK (statV es p).1.2.2.2 (List.length (statV es p).1.2.2.2)) (Int.toNat (ofN x.1)) (T.dflt T.i64) -
      (List.getD (statV es p).1.2.2.2 (Int.toNat (ofN x.1)) (T.dflt (T.pair (T.arr 32 T.u8) T.i64))).2)) ∧
      inI64
      (from_ + size -
      (List.getD (endsK (statV es p).1.2.2.2 (List.length (statV es p).1.2.2.2)) (Int.toNat (ofN x.1)) (T.dflt T.i64) -
      (List.getD (statV es p).1.2.2.2 (Int.toNat (ofN x.1)) (T.dflt (T.pair (T.arr 32 T.u8) T.i64))).2)) ∧
      List.length x.2 +
      List.length
      [((List.getD (statV es p).1.2.2.2 (Int.toNat (ofN x.1)) (T.dflt (T.pair (T.arr 32 T.u8) T.i64))).1,
      (List.getD (statV es p).1.2.2.2 (Int.toNat (ofN x.1)) (T.dflt (T.pair (T.arr 32 T.u8) T.i64))).2,
      max
      (from_ -
      (List.getD (endsK (statV es p).1.2.2.2 (List.length (statV es p).1.2.2.2)) (Int.toNat (ofN x.1)) (T.dflt T.i64) -
      (List.getD (statV es p).1.2.2.2 (Int.toNat (ofN x.1)) (T.dflt (T.pair (T.arr 32 T.u8) T.i64))).2))
      0,
      min
      (from_ + size -
      (List.getD (endsK (statV es p).1.2.2.2 (List.length (statV es p).1.2.2.2)) (Int.toNat (ofN x.1)) (T.dflt T.i64) -
      (List.getD (statV es p).1.2.2.2 (Int.toNat (ofN x.1)) (T.dflt (T.pair (T.arr 32 T.u8) T.i64))).2))
      (List.getD (statV es p).1.2.2.2 (Int.toNat (ofN x.1)) (T.dflt (T.pair (T.arr 32 T.u8) T.i64))).2)] ≤
      ROOM ∧
      inI64 (ofN x.1 + 1) ∧
      ∃ (x' : Nat × List (List (BitVec 8) × Int × Int × Int)),
      (x'.1 ≤ List.length (statV es p).1.2.2.2 ∧
      List.length x'.2 ≤ x'.1 ∧
      (x'.2 ++
      match decide (0 < size) with
      | true => partsL (sumN (statV es p).1.2.2.2 x'.1) from_ (from_ + size) (List.drop x'.1 (statV es p).1.2.2.2)
      | false => nilOf (List (BitVec 8) × Int × Int × Int)) =
      partsV (statV es p).1.2.2.2 from_ size) ∧
      List.length (statV es p).1.2.2.2 - x'.1 < List.length (statV es p).1.2.2.2 - x.1 ∧
      ofN x.1 + 1 = ofN x'.1 ∧
      x.2 ++
      [((List.getD (statV es p).1.2.2.2 (Int.toNat (ofN x.1)) (T.dflt (T.pair (T.arr 32 T.u8) T.i64))).1,
      (List.getD (statV es p).1.2.2.2 (Int.toNat (ofN x.1)) (T.dflt (T.pair (T.arr 32 T.u8) T.i64))).2,
      max
      (from_ -
      (List.getD (endsK (statV es p).1.2.2.2 (List.length (statV es p).1.2.2.2)) (Int.toNat (ofN x.1)) (T.dflt T.i64) -
      (List.getD (statV es p).1.2.2.2 (Int.toNat (ofN x.1)) (T.dflt (T.pair (T.arr 32 T.u8) T.i64))).2))
      0,
      min
      (from_ + size -
      (List.getD (endsK (statV es p).1.2.2.2 (List.length (statV es p).1.2.2.2)) (Int.toNat (ofN x.1)) (T.dflt T.i64) -
      (List.getD (statV es p).1.2.2.2 (Int.toNat (ofN x.1)) (T.dflt (T.pair (T.arr 32 T.u8) T.i64))).2))
      (List.getD (statV es p).1.2.2.2 (Int.toNat (ofN x.1)) (T.dflt (T.pair (T.arr 32 T.u8) T.i64))).2)] =
      x'.2)) ∧
      ((decide (ofN x.1 < ofN (List.length (endsK (statV es p).1.2.2.2 (List.length (statV es p).1.2.2.2)))) && decide (0 < size)) = false →
      (x.2 = seekP (statV es p).1 (statV es p).2 from_ size ∧ 0 = seekE (statV es p).1 (statV es p).2 from_ size) ∧ List.Perm es es))) := by
  have hN := okF_N h
  have hst : (statV es p).2 = 0 → okFile (statV es p).1 := fun h0 => by
    unfold statV at h0 ⊢
    cases hm : mget T.str es p with
    | some f => exact h.2 _ (mget_mem hm)
    | none => rw [hm] at h0; cases h0
  generalize statV es p = sv at hst ⊢
  obtain ⟨f, e⟩ := sv
  dsimp only at hst ⊢
  refine ⟨hN, fun q => ⟨⟨?_, ?_⟩, List.Perm.refl _⟩, fun q => ?_⟩
  · have he : decide (e = 0) = false := by simpa using q
    have hE : seekE f e from_ size = e := by unfold seekE; rw [he]; rfl
    unfold seekP
    rw [hE, he]; rfl
  · have he : decide (e = 0) = false := by simpa using q
    unfold seekE; rw [he]; rfl
  have he : e = 0 := by simpa using q
  subst he
  obtain ⟨g1, g2⟩ := hst rfl
  obtain ⟨b1, b2, b3⟩ := sizeN_ok g1
  have g3 : f.2.1 = sumP f.2.2.2 := by
    rw [g2]; unfold sizeV; rw [if_pos ⟨b1, b2, b3⟩]
  have hE : seekE f 0 from_ size = bif decide (min from_ size < 0) || decide (f.2.1 < from_) || decide (f.2.1 - from_ < size) then 5 else 0 := rfl
  have b0 := sumP_nonneg b2
  refine ⟨fun q2 => ?_, fun q2 => ⟨⟨?_, ?_⟩, List.Perm.refl _⟩, fun q2 => ?_⟩
  · simp only [Bool.or_eq_false_iff, decide_eq_false_iff_not] at q2
    have k1 : ¬ min from_ size < (0 : Int) := q2.1
    have k2 : ¬ @LT.lt Int _ f.2.1 from_ := q2.2
    have k3 : (0 : Int) ≤ min from_ size := by omega
    have k4 : (0 : Int) ≤ from_ := Int.le_trans k3 (Int.min_le_left _ _)
    rw [g3] at k2 ⊢
    unfold inI64; omega
  · unfold seekP
    rw [hE, q2]; rfl
  · rw [hE, q2]; rfl
  have hE0 : seekE f 0 from_ size = 0 := by rw [hE, q2]; rfl
  have hP : seekP f 0 from_ size = partsV f.2.2.2 from_ size := by unfold seekP; rw [hE0]; rfl
  simp only [Bool.or_eq_false_iff, decide_eq_false_iff_not] at q2
  have k1 : ¬ min from_ size < (0 : Int) := q2.1.1
  have k2 : ¬ @LT.lt Int _ f.2.1 from_ := q2.1.2
  have k2b : ¬ @LT.lt Int _ (@HSub.hSub Int Int Int _ f.2.1 from_) size := q2.2
  have k3 : (0 : Int) ≤ min from_ size := by omega
  have k4 : (0 : Int) ≤ from_ := Int.le_trans k3 (Int.min_le_left _ _)
  have k5 : (0 : Int) ≤ size := Int.le_trans k3 (Int.min_le_right _ _)
  rw [g3] at k2 k2b
  rw [hE0, hP]
  clear hE hE0 hP hst g2 g3 q q2 k1
  obtain ⟨fp, fs, fq, l⟩ := f
  dsimp only at g1 b1 b2 b3 k2 k2b b0 ⊢
  have hup : upV (endsK l l.length) from_ ≤ l.length := by
    have := up_le (endsK l l.length) from_
    rwa [endsK_len] at this
  refine ⟨g1, by unfold inI64; omega, ⟨rfl, by rw [endsK_len]; omega, rise_ends b2 from_ l.length⟩, ⟨(upV (endsK l l.length) from_, []), ⟨hup, Nat.zero_le _, ?_⟩, rfl, rfl⟩, fun x hx => ?_⟩
  · unfold partsV
    cases decide (0 < size) <;> rfl
  obtain ⟨i, acc⟩ := x
  obtain ⟨c1, c2, c3⟩ := hx
  dsimp only at c1 c2 c3 ⊢
  have c3 : acc ++ (bif decide (0 < size) then partsL (sumN l i) from_ (from_ + size) (l.drop i) else []) = partsV l from_ size := by
    cases hq : decide (0 < size) with
    | true => rw [hq] at c3; exact c3
    | false => rw [hq] at c3; exact c3
  refine ⟨fun q => ?_, fun q => ?_⟩
  · rw [endsK_len] at q
    simp only [Bool.and_eq_true] at q
    have hi : i < l.length := by
      have h : (i : Int) < (l.length : Int) := of_decide_eq_true q.1
      omega
    have hsz : decide (0 < size) = true := q.2
    rw [hsz, cond_true] at c3
    have hS := sumN_succ hi
    have hEi : List.getD (endsK l l.length) (Int.toNat (ofN i)) (T.dflt T.i64) = sumN l (i + 1) := endsK_get l hi
    have hg : l.getD (Int.toNat (ofN i)) (T.dflt (T.pair (T.arr 32 T.u8) T.i64)) = l[i] := by
      show l.getD i _ = l[i]
      simp [List.getD, hi]
    have hg2 : l.getD i (T.dflt (T.pair (T.arr 32 T.u8) T.i64)) = l[i] := by simp [List.getD, hi]
    rw [hEi, hg]
    rw [hg2] at hS
    have hd : sumN l (i + 1) - (l[i]).2 = sumN l i := by rw [hS]; omega
    rw [hd]
    have n0 := sumN_nonneg b2 i
    have n1 := sumN_le b2 i
    have hdrop : l.drop i = l[i] :: l.drop (i + 1) := List.drop_eq_getElem_cons hi
    rw [hdrop] at c3
    have hw : within (ofN i) l.length := ⟨by show (0 : Int) ≤ (i : Int); omega, by show (i : Int) < (l.length : Int); omega⟩
    refine ⟨hw, by rw [endsK_len]; exact hw, by unfold inI64; omega, fun q2 => ⟨⟨?_, rfl⟩, List.Perm.refl _⟩, fun q2 => ⟨by unfold inI64; omega, by unfold inI64; omega, ?_, by show inI64 ((i : Int) + 1); unfold inI64; omega, (i + 1, acc ++ [(l[i].1, l[i].2, max (from_ - sumN l i) 0, min (from_ + size - sumN l i) l[i].2)]), ⟨hi, ?_, ?_⟩, by dsimp only; omega, rfl, rfl⟩⟩
    · have hpl : partsL (sumN l i) from_ (from_ + size) (l[i] :: l.drop (i + 1)) = [] := by
        show (bif decide (from_ + size ≤ sumN l i) then [] else _) = _
        rw [q2]; rfl
      rw [hpl, List.append_nil] at c3
      exact c3
    · show acc.length + 1 ≤ ROOM
      unfold ROOM; omega
    · dsimp only
      rw [List.length_append]; show acc.length + 1 ≤ i + 1; omega
    · dsimp only
      rw [hsz]
      have hpl : partsL (sumN l i) from_ (from_ + size) (l[i] :: l.drop (i + 1)) = (l[i].1, l[i].2, max (from_ - sumN l i) 0, min (from_ + size - sumN l i) l[i].2) :: partsL (sumN l i + l[i].2) from_ (from_ + size) (l.drop (i + 1)) := by
        show (bif decide (from_ + size ≤ sumN l i) then [] else _) = _
        rw [q2]; rfl
      rw [hpl] at c3
      rw [List.append_assoc, ← c3, hS]
      rfl
  · refine ⟨⟨?_, rfl⟩, List.Perm.refl _⟩
    cases hsz : decide (0 < size) with
    | false =>
      rw [hsz, cond_false, List.append_nil] at c3
      exact c3
    | true =>
      rw [endsK_len] at q
      simp only [Bool.and_eq_false_iff] at q
      have hi : i = l.length := by
        rcases q with q | q
        · have h : ¬ (i : Int) < (l.length : Int) := of_decide_eq_false q
          omega
        · have q : decide (0 < size) = false := q
          rw [q] at hsz; cases hsz
      subst hi
      rw [hsz, cond_true, List.drop_length] at c3
      have : partsL (sumN l l.length) from_ (from_ + size) [] = [] := rfl
      rw [this, List.append_nil] at c3
      exact c3

theorem law15_file_vc :
    1 = fileR.1 ∧
      1 = fileR.2.1 ∧
      List.replicate 32 0#8 = fileR.2.2.1 ∧
      2 = fileR.2.2.2.1 ∧
      ofN 0 = fileR.2.2.2.2.1 ∧ List.map UInt8.toBitVec [97] = fileR.2.2.2.2.2.1 ∧ [(List.replicate 32 0#8, 3), (List.replicate 32 0#8, 5), (List.replicate 32 0#8, 2)] = fileR.2.2.2.2.2.2 := by
  exact ⟨rfl, rfl, rfl, rfl, rfl, rfl, rfl⟩

theorem names_Of_spec : Vse.Spec P f_names_Of c_nOf := spec_gf (l := [(f_names_New, c_nNew), (f_names_Names_Apply, c_nApply)]) ⟨names_New_spec, names_Apply_spec, trivial⟩ h_names_Of rfl rfl fun x h _ => by
  obtain ⟨l, _⟩ := x
  exact bodyG_ok (an_Of l) (names_Of_vc l h.1 h.2) (by kernel_rfl)

theorem names_ends_spec : Vse.Spec P f_names_ends c_ends := spec_fn (l := []) trivial h_names_ends rfl rfl fun x h _ => body_ok (an_Ends x.1) (names_ends_vc x.1 h) (by kernel_rfl)

theorem names_Sf1_body (i : Int) (xs : List Int) (from_ : Int) (h : within i xs.length) : ∃ ann, bodyVC P (gam []) ann b_names_Names_Seek_f1 false [.dv (.i64 i), .ipt [.one (.imm .i64 xs)], .ipt [.one (.i64 from_)]] ⟨some (within i xs.length), .sv (.dv (.bool (gtV (xs.getD i.toNat 0) from_))), none, none⟩ :=
  body_ok an_none (names_Sf1_vc i xs from_ h) (by kernel_rfl)

theorem names_Sf1_spec : Vse.Spec P f_names_Names_Seek_f1 c_Sf1 :=
  spec_of_body (gam_ok (l := []) trivial) h_names_Names_Seek_f1 rfl rfl ⟨rfl, rfl⟩
    (fun ins r hr => by
      unfold c_Sf1 at hr
      dsimp only at hr
      split at hr
      · simp only [Option.some.injEq] at hr; subst hr; rfl
      · cases hr)
    (fun ins r hr hv ho => by
      unfold c_Sf1 at hr
      dsimp only at hr
      split at hr
      · simp only [Option.some.injEq] at hr; subst hr
        exact names_Sf1_body _ _ _ hv
      · cases hr)

theorem sort_Search_body (xs : List Int) (from_ : Int) (hl : xs.length ≤ 1000000) (h : riseV xs from_) : ∃ ann, bodyVC P (gam [(f_names_Names_Seek_f1, c_Sf1)]) ann b_sort_Search false [.dv (.i64 (ofN xs.length)), .clo f_names_Names_Seek_f1 [[.one (.imm .i64 xs)], [.one (.i64 from_)]]] ⟨some (eqP (α := Int) (ofN xs.length) xs.length ∧ xs.length ≤ 1000000 ∧ riseV xs from_), .sv (.dv (.i64 (ofN (upV xs from_)))), none, none⟩ :=
  body_ok (an_SeaL xs from_) (sort_Search_vc xs from_ hl h) (by kernel_rfl)

theorem sort_Search_spec : Vse.Spec P f_sort_Search c_Search :=
  spec_of_body (gam_ok (l := [(f_names_Names_Seek_f1, c_Sf1)]) ⟨names_Sf1_spec, trivial⟩) h_sort_Search rfl rfl ⟨rfl, rfl⟩
    (fun ins r hr => by
      unfold c_Search at hr
      dsimp only at hr
      split at hr
      · rename_i n g xs from_
        cases hg : Nat.beq g f_names_Names_Seek_f1 with
        | false => rw [hg] at hr; cases hr
        | true => rw [hg] at hr; simp only [cond_true, Option.some.injEq] at hr; subst hr; rfl
      · cases hr)
    (fun ins r hr hv ho => by
      unfold c_Search at hr
      dsimp only at hr
      split at hr
      · rename_i n g xs from_
        cases hg : Nat.beq g f_names_Names_Seek_f1 with
        | false => rw [hg] at hr; cases hr
        | true =>
          rw [hg] at hr; simp only [cond_true, Option.some.injEq] at hr; subst hr
          obtain ⟨e1, e2, e3⟩ := hv
          have e1 : n = (xs.length : Int) := e1
          have e0 := Nat.eq_of_beq_eq_true hg
          subst e1; subst e0
          exact sort_Search_body _ _ e2 e3
      · cases hr)

theorem names_Seek_spec : Vse.Spec P f_names_Names_Seek c_Seek := spec_gm (l := [(f_names_Names_Stat, c_nStat), (f_names_ends, c_ends), (f_sort_Search, c_Search)]) ⟨names_Stat_spec, names_ends_spec, sort_Search_spec, trivial⟩ h_names_Names_Seek rfl rfl fun s x h _ _ => by
  obtain ⟨es, _⟩ := s
  obtain ⟨p, from_, size, _⟩ := x
  exact bodyG_ok (an_Seek (statV es p).1.2.2.2 from_ size (partsV (statV es p).1.2.2.2 from_ size)) (names_Seek_vc es p from_ size h) (by kernel_rfl)

theorem law15_file_spec : Vse.Spec P f_law15_file c_file := spec_fn (l := []) trivial h_law15_file rfl rfl fun _ _ _ => body_ok an_none law15_file_vc (by kernel_rfl)

end Go.Sal
