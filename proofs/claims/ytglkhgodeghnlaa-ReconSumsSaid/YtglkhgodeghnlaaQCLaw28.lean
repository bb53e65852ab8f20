/- The laws of recon: conditions. -/
import Derived.Test.YtglkhgodeghnlaaQCRcn4
set_option maxRecDepth 100000
namespace Go.Sal
open Go.Vse Go.Sal.Nm

def fewD (l : List DigP) : List DigP := bif decide (150 < ofN l.length) && decide (ofN l.length ≤ 65536) then l.take 150 else l
def c_few28 : PC := D [.slc T_Dig] [.slc T_Dig] (fun _ => none) (fun x => (fewD x.1, ()))
def setD (l : List DigP) : List DigP := risV (l.take 150)
def c_set28 : PC := D [.slc T_Dig] [.slc T_Dig] (fun _ => none) (fun x => (setD x.1, ()))
def fewI (x : Item) : Item := (x.1, x.2.1, x.2.2.1, x.2.2.2.1, x.2.2.2.2.1, fewD x.2.2.2.2.2)
def someV (l : List Item) (k : Nat) : List Item := (l.take k).map fewI
def c_some28 : PC := D [.slc T_Item] [.slc T_Item] (fun _ => none) (fun x => (someV x.1 20, ()))
def an_some28 (l : List Item) : Nat → SState → Option LoopAnn
 | 3, S => some { X := Nat, slots := fun k => [(4, .sv (.dv (.i64 (ofN k)))), (3, .sv (.own 10 T_Item (someV l k)))], objs := fun _ => [(10, .tok t_api_Item 68), (x_tok S 3, .gone)], inv := fun k => k ≤ l.length ∧ k ≤ 20, meas := fun k => 20 - k }
 | _, _ => none
def c_awake28 : PC := D [] [.bool] (fun _ => none) (fun _ => (true, ()))
def c_law28 (ts : List T) : PC := D ts [.bool] (fun _ => none) (fun _ => (true, ()))
def an_Forms (p : Pre) : Nat → SState → Option LoopAnn
 | 7, _ => some { X := Nat, slots := fun k => [(13, .sv (.dv (.i64 (ofN k))))], objs := fun _ => [], inv := fun k => k ≤ (partsW p).1.length, meas := fun k => (partsW p).1.length - k }
 | _, _ => none

theorem lt28 (n m : Nat) : decide ((m : Int) < ofN n) = decide (m < n) := by
 rw [decide_eq_decide]
 show (m : Int) < (n : Int) ↔ _
 omega
theorem le28 (n m : Nat) : decide (ofN n ≤ (m : Int)) = decide (n ≤ m) := by
 rw [decide_eq_decide]
 show (n : Int) ≤ (m : Int) ↔ _
 omega
theorem few_small {l : List DigP} (h : checkS (fewD l) = 0) : (fewD l).length ≤ 150 := by
 have e : fewD l = bif decide (150 < ofN l.length) && decide (ofN l.length ≤ 65536) then l.take 150 else l := rfl
 have h1 : decide (150 < ofN l.length) = decide (150 < l.length) := lt28 l.length 150
 have h2 : decide (ofN l.length ≤ 65536) = decide (l.length ≤ 65536) := le28 l.length 65536
 rw [h1, h2] at e
 cases hb : (decide (150 < l.length) && decide (l.length ≤ 65536)) with
 | true =>
   rw [e, hb, cond_true, List.length_take]
   omega
 | false =>
   rw [hb, cond_false] at e
   rw [e] at h ⊢
   have := (checkS_zero.1 h).1
   by_cases h5 : 150 < l.length
   · rw [decide_eq_true h5, decide_eq_true this] at hb; cases hb
   · omega
theorem set_small (l : List DigP) : (setD l).length ≤ 150 := by
 unfold setD
 have := ris_le (l.take 150)
 rw [List.length_take] at this
 omega
theorem set_check (l : List DigP) : checkS (setD l) = 0 := checkS_zero.2 ⟨by have := set_small l; omega, asc_pair.2 (ris_rises _)⟩
theorem okMt_few (a b : List DigP) : okMt (fewD a) (fewD b) := ⟨few_small, few_small⟩
theorem okMt_set (a b : List DigP) : okMt (setD a) (setD b) := ⟨fun _ => set_small a, fun _ => set_small b⟩
theorem same_self (a : List DigP) : sameDg a a = true := decide_eq_true rfl
theorem beq_int (n : Int) : (n == n) = true := beq_self_eq_true n
theorem some_le (l : List Item) (k : Nat) : (someV l k).length ≤ k := by
 unfold someV
 rw [List.length_map, List.length_take]
 omega
theorem some_okR (l : List DigP) (xs : List Item) : okR (fewD l) (someV xs 20) := by
 have := some_le xs 20
 refine ⟨fun h => Nat.le_trans (few_small h) (by omega), by omega, fun x hx h => ?_⟩
 unfold someV at hx
 rw [List.mem_map] at hx
 obtain ⟨y, _, rfl⟩ := hx
 exact Nat.le_trans (few_small h) (by omega)
theorem awake_meet : (meetV [List.set (List.replicate 32 0#8) 0 1#8] [List.set (List.replicate 32 0#8) 0 2#8]).1.length = 1 ∧ (meetV [List.set (List.replicate 32 0#8) 0 1#8] [List.set (List.replicate 32 0#8) 0 2#8]).2.1.length = 1 := by decide +kernel

theorem law28_few_vc (l : List DigP) :
 ((decide (150 < ofN (List.length l)) && decide (ofN (List.length l) ≤ 65536)) = true → (ofN 0 ≤ 150 ∧ 150 ≤ ofN (List.length l)) ∧ List.drop 0 (List.take (Int.toNat 150) l) = fewD l) ∧
  ((decide (150 < ofN (List.length l)) && decide (ofN (List.length l) ≤ 65536)) = false → l = fewD l) := by
 have e : fewD l = bif decide (150 < ofN l.length) && decide (ofN l.length ≤ 65536) then l.take 150 else l := rfl
 refine ⟨fun q => ⟨⟨by decide, ?_⟩, ?_⟩, fun q => ?_⟩
 · rw [Bool.and_eq_true] at q
   have h : (150 : Int) < ((l.length : Nat) : Int) := of_decide_eq_true q.1
   show (150 : Int) ≤ ((l.length : Nat) : Int)
   omega
 · rw [e, q]; rfl
 · rw [e, q]; rfl

theorem law28_set_vc (l : List DigP) :
 (decide (150 < ofN (List.length l)) = true →
  (ofN 0 ≤ 150 ∧ 150 ≤ ofN (List.length l)) ∧ List.length (List.drop 0 (List.take (Int.toNat 150) l)) ≤ 100000000 ∧ risV (List.drop 0 (List.take (Int.toNat 150) l)) = setD l) ∧
  (decide (150 < ofN (List.length l)) = false → List.length l ≤ 100000000 ∧ risV l = setD l) := by
 have h1 : decide (150 < ofN l.length) = decide (150 < l.length) := lt28 l.length 150
 rw [h1]
 refine ⟨fun q => ⟨⟨by decide, ?_⟩, ?_, rfl⟩, fun q => ?_⟩
 · have q := of_decide_eq_true q
   show (150 : Int) ≤ ((l.length : Nat) : Int)
   omega
 · show (l.take 150).length ≤ _
   rw [List.length_take]; omega
 · have q := of_decide_eq_false q
   refine ⟨by omega, ?_⟩
   unfold setD
   rw [List.take_of_length_le (by omega)]

theorem law28_some_vc (l : List Item) :
 (∃ (x : Nat), (x ≤ List.length l ∧ x ≤ 20) ∧ 0 = ofN x ∧ someV l x = nilOf (Int × Int × List (BitVec 8) × Int × List (BitVec 8) × List (List (BitVec 8)))) ∧
  ∀ (x : Nat),
  x ≤ List.length l ∧ x ≤ 20 →
  ((decide (ofN x < ofN (List.length l)) && decide (ofN x < 20)) = true →
  within (ofN x) (List.length l) ∧
  List.length (someV l x) +
  List.length
  [((List.getD l (Int.toNat (ofN x)) (T.dflt T_Item)).1,
  (List.getD l (Int.toNat (ofN x)) (T.dflt T_Item)).2.1,
  (List.getD l (Int.toNat (ofN x)) (T.dflt T_Item)).2.2.1,
  (List.getD l (Int.toNat (ofN x)) (T.dflt T_Item)).2.2.2.1,
  (List.getD l (Int.toNat (ofN x)) (T.dflt T_Item)).2.2.2.2.1,
  fewD
  (List.getD l (Int.toNat (ofN x))
  (T.dflt T_Item)).2.2.2.2.2)] ≤
  ROOM ∧
  inI64 (ofN x + 1) ∧
  ∃ (x' : Nat),
  (x' ≤ List.length l ∧ x' ≤ 20) ∧
  20 - x' < 20 - x ∧
  ofN x + 1 = ofN x' ∧
  someV l x ++
  [((List.getD l (Int.toNat (ofN x)) (T.dflt T_Item)).1,
  (List.getD l (Int.toNat (ofN x)) (T.dflt T_Item)).2.1,
  (List.getD l (Int.toNat (ofN x)) (T.dflt T_Item)).2.2.1,
  (List.getD l (Int.toNat (ofN x))
  (T.dflt T_Item)).2.2.2.1,
  (List.getD l (Int.toNat (ofN x))
  (T.dflt T_Item)).2.2.2.2.1,
  fewD
  (List.getD l (Int.toNat (ofN x))
  (T.dflt T_Item)).2.2.2.2.2)] =
  someV l x') ∧
  ((decide (ofN x < ofN (List.length l)) && decide (ofN x < 20)) = false → someV l x = someV l 20) := by
 refine ⟨⟨0, ⟨Nat.zero_le _, Nat.zero_le _⟩, rfl, rfl⟩, fun x hx => ⟨fun q => ?_, fun q => ?_⟩⟩
 · rw [Bool.and_eq_true] at q
   have hlt := ltN28 q.1
   have h20 : (x : Int) < 20 := of_decide_eq_true q.2
   have hs : someV l (x + 1) = someV l x ++ [fewI (l.getD x T_Item.dflt)] := by
    unfold someV
    rw [take_snocI hlt, List.map_append]; rfl
   have := some_le l x
   rw [toN28]
   refine ⟨wN28 hlt, ?_, inN28 (by omega), x + 1, ⟨hlt, by omega⟩, by omega, rfl, hs.symm⟩
   show _ + 1 ≤ ROOM
   unfold ROOM; omega
 · unfold someV
   congr 1
   rw [Bool.and_eq_false_iff] at q
   rcases q with q | q
   · have hge := geN28 q
     rw [List.take_of_length_le hge, List.take_of_length_le (by have := hx.1; have := hx.2; omega)]
   · have q : ¬ (x : Int) < 20 := of_decide_eq_false q
     have : x = 20 := by have := hx.2; omega
     rw [this]

theorem law28_awake_vc :
 okMt [List.set (List.replicate 32 0#8) 0 1#8] [List.set (List.replicate 32 0#8) 0 2#8] ∧
  (true = true → within 0 (List.length (meetV [List.set (List.replicate 32 0#8) 0 1#8] [List.set (List.replicate 32 0#8) 0 2#8]).1)) ∧
  (true = true → within 0 (List.length (meetV [List.set (List.replicate 32 0#8) 0 1#8] [List.set (List.replicate 32 0#8) 0 2#8]).2.1)) ∧ true = true := by
 have h := awake_meet
 refine ⟨⟨fun _ => by decide, fun _ => by decide⟩, fun _ => ?_, fun _ => ?_, rfl⟩
 · rw [h.1]; exact ⟨by decide, by decide⟩
 · rw [h.2]; exact ⟨by decide, by decide⟩

theorem law28_Forms_vc (l : List DigP) (p : Pre) (x y : Item) :
 ((ofN (List.length (partsW p).1) != ofN (List.length (partsW p).1) || (partsW p).2 != (partsW p).2) = true → false = true) ∧
  ((ofN (List.length (partsW p).1) != ofN (List.length (partsW p).1) || (partsW p).2 != (partsW p).2) = false →
  (∃ (x : Nat), x ≤ List.length (partsW p).1 ∧ 0 = ofN x) ∧
  ∀ (x_1 : Nat),
  x_1 ≤ List.length (partsW p).1 →
  (decide (ofN x_1 < ofN (List.length (partsW p).1)) = true →
  within (ofN x_1) (List.length (partsW p).1) ∧
  within (ofN x_1) (List.length (partsW p).1) ∧
  ((!((List.getD (partsW p).1 (Int.toNat (ofN x_1)) (T.dflt (T.pair T.i64 (T.arr 32 T.u8)))).1 ==
  (List.getD (partsW p).1 (Int.toNat (ofN x_1)) (T.dflt (T.pair T.i64 (T.arr 32 T.u8)))).1 &&
  eqL T.u8 (List.getD (partsW p).1 (Int.toNat (ofN x_1)) (T.dflt (T.pair T.i64 (T.arr 32 T.u8)))).2
  (List.getD (partsW p).1 (Int.toNat (ofN x_1)) (T.dflt (T.pair T.i64 (T.arr 32 T.u8)))).2)) =
  true →
  false = true) ∧
  ((!((List.getD (partsW p).1 (Int.toNat (ofN x_1)) (T.dflt (T.pair T.i64 (T.arr 32 T.u8)))).1 ==
  (List.getD (partsW p).1 (Int.toNat (ofN x_1)) (T.dflt (T.pair T.i64 (T.arr 32 T.u8)))).1 &&
  eqL T.u8 (List.getD (partsW p).1 (Int.toNat (ofN x_1)) (T.dflt (T.pair T.i64 (T.arr 32 T.u8)))).2
  (List.getD (partsW p).1 (Int.toNat (ofN x_1)) (T.dflt (T.pair T.i64 (T.arr 32 T.u8)))).2)) =
  false →
  inI64 (ofN x_1 + 1) ∧ ∃ (x' : Nat), x' ≤ List.length (partsW p).1 ∧ List.length (partsW p).1 - x' < List.length (partsW p).1 - x_1 ∧ ofN x_1 + 1 = ofN x')) ∧
  (decide (ofN x_1 < ofN (List.length (partsW p).1)) = false →
  (checkS (fewD l) == checkS (fewD l) && rightV p == rightV p &&
  goodV (x.1, x.2.1, x.2.2.1, x.2.2.2.1, x.2.2.2.2.1, fewD x.2.2.2.2.2) == goodV (x.1, x.2.1, x.2.2.1, x.2.2.2.1, x.2.2.2.2.1, fewD x.2.2.2.2.2) &&
  sameIt (x.1, x.2.1, x.2.2.1, x.2.2.2.1, x.2.2.2.2.1, fewD x.2.2.2.2.2) (y.1, y.2.1, y.2.2.1, y.2.2.2.1, y.2.2.2.2.1, fewD y.2.2.2.2.2) ==
  sameIt (x.1, x.2.1, x.2.2.1, x.2.2.2.1, x.2.2.2.2.1, fewD x.2.2.2.2.2) (y.1, y.2.1, y.2.2.1, y.2.2.2.1, y.2.2.2.2.1, fewD y.2.2.2.2.2) &&
  sameIt (x.1, x.2.1, x.2.2.1, x.2.2.2.1, x.2.2.2.2.1, fewD x.2.2.2.2.2) (x.1, x.2.1, x.2.2.1, x.2.2.2.1, x.2.2.2.2.1, fewD x.2.2.2.2.2) &&
  true) =
  true)) := by
 have e1 : ∀ n : Int, (n != n) = false := fun n => by simp
 rw [e1, e1]
 refine ⟨fun q => (by cases q), fun _ => ⟨⟨0, Nat.zero_le _, rfl⟩, fun k hk => ⟨fun q => ?_, fun q => ?_⟩⟩⟩
 · have hlt := ltN28 q
   rw [eqL_u8, beq_int, beq_self_eq_true]
   refine ⟨wN28 hlt, wN28 hlt, fun q2 => (by cases q2), fun _ => ⟨inN28 ?_, k + 1, hlt, by omega, rfl⟩⟩
   have := parts_le p
   have : (partsW p).1.length ≤ 4 := by
    unfold partsW
    cases rightB p
    · exact Nat.zero_le _
    · exact this
   omega
 · have e2 : ∀ z : Item, sameIt z z = true := fun z => decide_eq_true rfl
   have e3 : ∀ b : Bool, (b == b) = true := fun b => beq_self_eq_true b
   rw [beq_int, beq_int, beq_int, e3, e2]; rfl

theorem law28_Sums_vc (l : List DigP) (p : Pre) :
 (sameDg (belowW (fewD l) p).1 (belowW (fewD l) p).1 && (belowW (fewD l) p).2 == (belowW (fewD l) p).2 && sameIt (sumW (fewD l) p).1 (sumW (fewD l) p).1 && (sumW (fewD l) p).2 == (sumW (fewD l) p).2 &&
  sameIs (beginW (fewD l)).1 (beginW (fewD l)).1 &&
  (beginW (fewD l)).2 == (beginW (fewD l)).2 &&
  true) =
  true := by
 have e2 : ∀ z : Item, sameIt z z = true := fun z => decide_eq_true rfl
 have e3 : ∀ z : List Item, sameIs z z = true := fun z => sameIs_iff.2 rfl
 rw [same_self, beq_int, e2, beq_int, e3, beq_int]; rfl

theorem law28_Responds_vc (l : List DigP) (xs : List Item) :
 okR (fewD l) (someV xs 20) ∧
  okR (fewD l) (someV xs 20) ∧
  (sameIs (respV (fewD l) (someV xs 20)).1 (respV (fewD l) (someV xs 20)).1 && sameDg (respV (fewD l) (someV xs 20)).2.1 (respV (fewD l) (someV xs 20)).2.1 &&
  sameDg (respV (fewD l) (someV xs 20)).2.2.1 (respV (fewD l) (someV xs 20)).2.2.1 &&
  (respV (fewD l) (someV xs 20)).2.2.2 == (respV (fewD l) (someV xs 20)).2.2.2 &&
  true) =
  true := by
 have e3 : ∀ z : List Item, sameIs z z = true := fun z => sameIs_iff.2 rfl
 rw [e3, same_self, same_self, beq_int]
 exact ⟨some_okR l xs, some_okR l xs, rfl⟩

theorem law28_Meets_vc (a b : List DigP) (raw : Bool) :
 (raw = true →
  okMt (fewD a) (fewD b) ∧
  okMt (fewD a) (fewD b) ∧
  (sameDg (meetV (fewD a) (fewD b)).1 (meetV (fewD a) (fewD b)).1 && sameDg (meetV (fewD a) (fewD b)).2.1 (meetV (fewD a) (fewD b)).2.1 &&
  (meetV (fewD a) (fewD b)).2.2.1 == (meetV (fewD a) (fewD b)).2.2.1 &&
  (meetV (fewD a) (fewD b)).2.2.2 == (meetV (fewD a) (fewD b)).2.2.2 &&
  true) =
  true) ∧
  (raw = false →
  okMt (setD a) (setD b) ∧
  okMt (setD a) (setD b) ∧
  (sameDg (meetV (setD a) (setD b)).1 (meetV (setD a) (setD b)).1 && sameDg (meetV (setD a) (setD b)).2.1 (meetV (setD a) (setD b)).2.1 &&
  (meetV (setD a) (setD b)).2.2.1 == (meetV (setD a) (setD b)).2.2.1 &&
  (meetV (setD a) (setD b)).2.2.2 == (meetV (setD a) (setD b)).2.2.2 &&
  true) =
  true) := by
 rw [same_self, same_self, beq_int, beq_int, same_self, same_self, beq_int, beq_int]
 exact ⟨fun _ => ⟨okMt_few a b, okMt_few a b, rfl⟩, fun _ => ⟨okMt_set a b, okMt_set a b, rfl⟩⟩

theorem law28_few_spec : Vse.Spec P f_law28_few c_few28 := spec_fn (l := []) trivial h_law28_few rfl rfl fun x _ _ => body_ok (an_none) (law28_few_vc x.1) (by kernel_rfl)

theorem law28_set_spec : Vse.Spec P f_law28_set c_set28 := spec_fn (l := [(f_ref20_Rising, c_ris20)]) ⟨ref20_Rising_spec, trivial⟩ h_law28_set rfl rfl fun x _ _ => body_ok (an_none) (law28_set_vc x.1) (by kernel_rfl)

theorem law28_some_spec : Vse.Spec P f_law28_some c_some28 := spec_fn (l := [(f_law28_few, c_few28)]) ⟨law28_few_spec, trivial⟩ h_law28_some rfl rfl fun x _ _ => body_ok (an_some28 x.1) (law28_some_vc x.1) (by kernel_rfl)

theorem law28_awake_spec : Vse.Spec P f_law28_awake c_awake28 := spec_fn (l := [(f_recon_Meet, c_Meet)]) ⟨recon_Meet_spec, trivial⟩ h_law28_awake rfl rfl fun _ _ _ => body_ok (an_none) (law28_awake_vc) (by kernel_rfl)

theorem law28_ReconForms_spec : Vse.Spec P f_law28_ReconForms (c_law28 [.slc T_Dig, T_Pre, T_Item, T_Item]) := spec_fn (l := [(f_law28_few, c_few28), (f_recon_Parts, c_Parts), (f_ref28_Parts, c_PartsR), (f_recon_Check, c_rCheckS), (f_ref28_Check, c_rCheckS), (f_recon_Right, c_rRight), (f_ref28_Right, c_RightR), (f_recon_Good, c_Good), (f_ref28_Good, c_Good), (f_recon_Same, c_SameIt), (f_ref28_Same, c_SameIt), (f_law28_awake, c_awake28)]) ⟨law28_few_spec, recon_Parts_spec, ref28_Parts_spec, recon_Check_spec, ref28_Check_spec, recon_Right_spec, ref28_Right_spec, recon_Good_spec, ref28_Good_spec, recon_Same_spec, ref28_Same_spec, law28_awake_spec, trivial⟩ h_law28_ReconForms rfl rfl fun x _ _ => body_ok (an_Forms x.2.1) (law28_Forms_vc x.1 x.2.1 x.2.2.1 x.2.2.2.1) (by kernel_rfl)

theorem law28_ReconSums_spec : Vse.Spec P f_law28_ReconSums (c_law28 [.slc T_Dig, T_Pre]) := spec_fn (l := [(f_law28_few, c_few28), (f_recon_Below, c_Below28), (f_ref28_Below, c_Below28), (f_recon_Sum, c_Sum28), (f_ref28_Sum, c_Sum28), (f_recon_Begin, c_Begin), (f_ref28_Begin, c_Begin), (f_ref12_Same, c_Same12), (f_ref28_Same, c_SameIt), (f_ref28_SameAll, c_SameAll), (f_law28_awake, c_awake28)]) ⟨law28_few_spec, recon_Below_spec, ref28_Below_spec, recon_Sum_spec, ref28_Sum_spec, recon_Begin_spec, ref28_Begin_spec, ref12_Same_spec, ref28_Same_spec, ref28_SameAll_spec, law28_awake_spec, trivial⟩ h_law28_ReconSums rfl rfl fun x _ _ => body_ok (an_none) (law28_Sums_vc x.1 x.2.1) (by kernel_rfl)

theorem law28_ReconResponds_spec : Vse.Spec P f_law28_ReconResponds (c_law28 [.slc T_Dig, .slc T_Item]) := spec_fn (l := [(f_law28_few, c_few28), (f_law28_some, c_some28), (f_recon_Respond, c_Respond), (f_ref28_Respond, c_Respond), (f_ref12_Same, c_Same12), (f_ref28_SameAll, c_SameAll), (f_law28_awake, c_awake28)]) ⟨law28_few_spec, law28_some_spec, recon_Respond_spec, ref28_Respond_spec, ref12_Same_spec, ref28_SameAll_spec, law28_awake_spec, trivial⟩ h_law28_ReconResponds rfl rfl fun x _ _ => body_ok (an_none) (law28_Responds_vc x.1 x.2.1) (by kernel_rfl)

theorem law28_ReconMeets_spec : Vse.Spec P f_law28_ReconMeets (c_law28 [.slc T_Dig, .slc T_Dig, .bool]) := spec_fn (l := [(f_law28_few, c_few28), (f_law28_set, c_set28), (f_recon_Meet, c_Meet), (f_ref28_Meet, c_Meet), (f_ref12_Same, c_Same12), (f_law28_awake, c_awake28)]) ⟨law28_few_spec, law28_set_spec, recon_Meet_spec, ref28_Meet_spec, ref12_Same_spec, law28_awake_spec, trivial⟩ h_law28_ReconMeets rfl rfl fun x _ _ => body_ok (an_none) (law28_Meets_vc x.1 x.2.1 x.2.2.1) (by kernel_rfl)

end Go.Sal
