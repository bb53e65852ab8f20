/- The laws of chapter 20 on what is missing. -/
import Derived.Test.YtogjeflhlnnbdaaWCShip3
import Derived.Test.YtogjeflhlnnbdaaWCLaw20
set_option maxRecDepth 100000
namespace Go.Sal
open Go.Vse Go.Sal.Nm

def c_In12 : PC := D [.slc T_Dig, T_Dig] [.bool] (fun _ => none) (fun x => (inD x.1 x.2.1, ()))
def an_In12 (l : List DigP) (d : DigP) : Nat → SState → Option LoopAnn
 | 2, _ => some { X := Nat, slots := fun i => [(5, .sv (.dv (.i64 (ofN i))))], objs := fun _ => [], inv := fun i => i ≤ l.length ∧ inD (l.take i) d = false, meas := fun i => l.length - i }
 | _, _ => none
def c_rMissing : PC := D [.slc T_Dig, .slc T_Dig, .i64] [.slc T_Dig] (fun x => some (x.1.length ≤ 1000000)) (fun x => (missV x.1 x.2.1 x.2.2.1, ()))
def an_rMissing (need hv : List DigP) (most : Int) : Nat → SState → Option LoopAnn
 | 4, S => some { X := Nat, slots := fun i => [(9, .sv (.dv (.i64 (ofN i)))), (7, .sv (.own 10 T_Dig (lackI need hv i)))], objs := fun _ => [(x_tok S 7, .gone), (10, .tok t_api_Digest 32)], inv := fun i => i ≤ (risV need).length ∧ ((lackI need hv i).length : Int) ≤ max most 0, meas := fun i => (risV need).length - i }
 | _, _ => none
def turnN (m : BitVec 8) : Nat := 1 + m.toNat % 64
def an_Turns (need hv : List DigP) (n : Nat) : Nat → SState → Option LoopAnn
 | 7, S => some { X := Nat, slots := fun i => [(9, .sv (.dv (.i64 (ofN i)))), (1, .sv (.own 10 T_Dig (haveI_ (fewD need) (fewD hv) n i)))], objs := fun _ => [(x_tok S 1, .gone), (10, .tok t_api_Digest 32)], inv := fun i => i ≤ (lackV (fewD need) (fewD hv)).length / n + 1, meas := fun i => (lackV (fewD need) (fewD hv)).length / n + 1 - i }
 | _, _ => none

theorem ref12_In_vc (l : List DigP) (d : DigP) (hl : l.length ≤ LIM) :
 (∃ (x : Nat), (x ≤ List.length l ∧ inD (List.take x l) d = false) ∧ 0 = ofN x) ∧
  ∀ (x : Nat),
  x ≤ List.length l ∧ inD (List.take x l) d = false →
  (decide (ofN x < ofN (List.length l)) = true →
  within (ofN x) (List.length l) ∧
  (eqL T.u8 (List.getD l (Int.toNat (ofN x)) (T.dflt (T.arr 32 T.u8))) d = true → true = inD l d) ∧
  (eqL T.u8 (List.getD l (Int.toNat (ofN x)) (T.dflt (T.arr 32 T.u8))) d = false →
  inI64 (ofN x + 1) ∧ ∃ (x' : Nat), (x' ≤ List.length l ∧ inD (List.take x' l) d = false) ∧ List.length l - x' < List.length l - x ∧ ofN x + 1 = ofN x')) ∧
  (decide (ofN x < ofN (List.length l)) = false → false = inD l d) := by
 unfold LIM at hl
 refine ⟨⟨0, ⟨Nat.zero_le _, rfl⟩, rfl⟩, fun x hx => ⟨fun q => ?_, fun q => ?_⟩⟩
 · have hlt := ltN20 q
   rw [toN20, eqL_u8]
   refine ⟨wN20 hlt, fun q2 => ?_, fun q2 => ⟨inN20 (by omega), x + 1, ⟨hlt, ?_⟩, by omega, rfl⟩⟩
   · have q2 : (l.getD x dig0 == d) = true := q2
     rw [beq_iff_eq] at q2
     refine (inD_iff.2 ?_).symm
     rw [← q2, getD_lt hlt]
     exact List.getElem_mem _
   · have q2 : (l.getD x dig0 == d) = false := q2
     rw [take_snoc' (d := dig0) hlt, inD_app, hx.2]
     cases hb : inD [l.getD x dig0] d with
     | false => rfl
     | true =>
       have e := inD_iff.1 hb
       rw [List.mem_singleton] at e
       rw [← e, beq_self_eq_true] at q2
       cases q2
 · have := hx.2
   rw [List.take_of_length_le (geN20 q)] at this
   exact this.symm

theorem ref20_Missing_vc (need hv : List DigP) (most : Int) (hl : need.length ≤ 1000000) :
 List.length need ≤ 1000000 ∧
  (∃ (x : Nat), (x ≤ List.length (risV need) ∧ ofN (List.length (lackI need hv x)) ≤ max most 0) ∧ 0 = ofN x ∧ lackI need hv x = nilOf (List (BitVec 8))) ∧
  ∀ (x : Nat),
  x ≤ List.length (risV need) ∧ ofN (List.length (lackI need hv x)) ≤ max most 0 →
  ((decide (ofN x < ofN (List.length (risV need))) && decide (ofN (List.length (lackI need hv x)) < most)) = true →
  within (ofN x) (List.length (risV need)) ∧
  ((!inD hv (List.getD (risV need) (Int.toNat (ofN x)) (T.dflt (T.arr 32 T.u8)))) = true →
  within (ofN x) (List.length (risV need)) ∧
  List.length (lackI need hv x) + List.length [List.getD (risV need) (Int.toNat (ofN x)) (T.dflt (T.arr 32 T.u8))] ≤ ROOM ∧
  inI64 (ofN x + 1) ∧
  ∃ (x' : Nat),
  (x' ≤ List.length (risV need) ∧ ofN (List.length (lackI need hv x')) ≤ max most 0) ∧
  List.length (risV need) - x' < List.length (risV need) - x ∧
  ofN x + 1 = ofN x' ∧ lackI need hv x ++ [List.getD (risV need) (Int.toNat (ofN x)) (T.dflt (T.arr 32 T.u8))] = lackI need hv x') ∧
  ((!inD hv (List.getD (risV need) (Int.toNat (ofN x)) (T.dflt (T.arr 32 T.u8)))) = false →
  inI64 (ofN x + 1) ∧
  ∃ (x' : Nat),
  (x' ≤ List.length (risV need) ∧ ofN (List.length (lackI need hv x')) ≤ max most 0) ∧
  List.length (risV need) - x' < List.length (risV need) - x ∧ ofN x + 1 = ofN x' ∧ lackI need hv x = lackI need hv x')) ∧
  ((decide (ofN x < ofN (List.length (risV need))) && decide (ofN (List.length (lackI need hv x)) < most)) = false → lackI need hv x = missV need hv most) := by
 have hr := ris_len need
 refine ⟨hl, ⟨0, ⟨Nat.zero_le _, ?_⟩, rfl, rfl⟩, fun x hx => ⟨fun q => ?_, fun q => ?_⟩⟩
 · show (0 : Int) ≤ max most 0
   omega
 · simp only [Bool.and_eq_true] at q
   have hlt := ltN20 q.1
   have hm : ((lackI need hv x).length : Int) < most := of_decide_eq_true q.2
   have hx2 : ((lackI need hv x).length : Int) ≤ max most 0 := hx.2
   have hle := lackI_len need hv x
   rw [toN20]
   refine ⟨wN20 hlt, fun h => ⟨wN20 hlt, ?_, inN20 (by omega), x + 1, ⟨by omega, ?_⟩, by omega, rfl, ?_⟩, fun h => ⟨inN20 (by omega), x + 1, ⟨by omega, ?_⟩, by omega, rfl, ?_⟩⟩
   · rw [List.length_cons, List.length_nil]
     unfold ROOM; omega
   · have h : inD hv ((risV need).getD x dig0) = false := by simpa using h
     show (((lackI need hv (x + 1)).length : Nat) : Int) ≤ max most 0
     rw [lackI_succ hlt, if_neg (by rw [h]; decide), List.length_append, List.length_cons, List.length_nil]
     omega
   · have h : inD hv ((risV need).getD x dig0) = false := by simpa using h
     rw [lackI_succ hlt, if_neg (by rw [h]; decide)]
   · have h : inD hv ((risV need).getD x dig0) = true := by simpa using h
     show (((lackI need hv (x + 1)).length : Nat) : Int) ≤ max most 0
     rw [lackI_succ hlt, if_pos h]
     omega
   · have h : inD hv ((risV need).getD x dig0) = true := by simpa using h
     rw [lackI_succ hlt, if_pos h]
 · refine miss_end hx.1 hx.2 ?_
   rw [Bool.and_eq_false_iff] at q
   rcases q with q | q
   · exact .inl (geN20 q)
   · have q : ¬ ((lackI need hv x).length : Int) < most := of_decide_eq_false q
     exact .inr (by omega)

theorem fewD_len (l : List DigP) : (fewD l).length ≤ 200 := by unfold fewD; exact List.length_take_le _ _
theorem same_self (l : List DigP) : sameDg l l = true := by unfold sameDg; exact decide_eq_true rfl
theorem miss_n (need hv : List DigP) (n : Nat) : missV need hv (ofN n) = (lackV need hv).take n := by
 unfold missV
 rw [toN20]

theorem law20_ShipMissing_vc (need hv : List DigP) (most : Int) :
 (List.length (fewD need) ≤ 100000000 ∧ List.length (fewD hv) ≤ 100000000) ∧
  List.length (fewD need) ≤ 1000000 ∧
  (sameDg (missV (fewD need) (fewD hv) most) (missV (fewD need) (fewD hv) most) = true → List.length (fewD need) ≤ 100000000) ∧
  (sameDg (missV (fewD need) (fewD hv) most) (missV (fewD need) (fewD hv) most) = true → List.length (fewD need) ≤ 1000000) ∧
  (sameDg (missV (fewD need) (fewD hv) most) (missV (fewD need) (fewD hv) most) && sameDg (risV (fewD need)) (risV (fewD need)) && true) = true := by
 have h1 := fewD_len need
 have h2 := fewD_len hv
 exact ⟨⟨by omega, by omega⟩, by omega, fun _ => by omega, fun _ => by omega, by rw [same_self, same_self]; rfl⟩

theorem law20_ShipTurns_vc (need hv : List DigP) (m : BitVec 8) :
 (false = true → false = true) ∧
  (false = false →
  List.length (nilOf (List (BitVec 8))) + List.length (fewD hv) ≤ ROOM ∧
  ofN 64 ≠ 0 ∧
  inI64 (1 + Int.tmod (ofN (BitVec.toNat m)) 64) ∧
  List.length (fewD need) ≤ 1000000 ∧
  (∃ (x : Nat), x ≤ List.length (lackV (fewD need) (fewD hv)) / turnN m + 1 ∧ 0 = ofN x ∧ nilOf (List (BitVec 8)) ++ fewD hv = haveI_ (fewD need) (fewD hv) (turnN m) x) ∧
  ∀ (x : Nat),
  x ≤ List.length (lackV (fewD need) (fewD hv)) / turnN m + 1 →
  (1 + Int.tmod (ofN (BitVec.toNat m)) 64 ≠ 0 ∧
  inI64 (Int.tdiv (ofN (List.length (missV (fewD need) (nilOf (List (BitVec 8)) ++ fewD hv) 200))) (1 + Int.tmod (ofN (BitVec.toNat m)) 64))) ∧
  inI64 (Int.tdiv (ofN (List.length (missV (fewD need) (nilOf (List (BitVec 8)) ++ fewD hv) 200))) (1 + Int.tmod (ofN (BitVec.toNat m)) 64) + 1) ∧
  (decide (ofN x < Int.tdiv (ofN (List.length (missV (fewD need) (nilOf (List (BitVec 8)) ++ fewD hv) 200))) (1 + Int.tmod (ofN (BitVec.toNat m)) 64) + 1) = true →
  (List.length (fewD need) ≤ 100000000 ∧ List.length (haveI_ (fewD need) (fewD hv) (turnN m) x) ≤ 100000000) ∧
  (decide
  (1 + Int.tmod (ofN (BitVec.toNat m)) 64 <
  ofN (List.length (missV (fewD need) (haveI_ (fewD need) (fewD hv) (turnN m) x) (1 + Int.tmod (ofN (BitVec.toNat m)) 64)))) =
  false →
  (ofN (List.length (missV (fewD need) (haveI_ (fewD need) (fewD hv) (turnN m) x) (1 + Int.tmod (ofN (BitVec.toNat m)) 64))) == 0) = true →
  List.length (fewD need) ≤ 1000000) ∧
  ((decide
  (1 + Int.tmod (ofN (BitVec.toNat m)) 64 <
  ofN (List.length (missV (fewD need) (haveI_ (fewD need) (fewD hv) (turnN m) x) (1 + Int.tmod (ofN (BitVec.toNat m)) 64)))) ||
  ofN (List.length (missV (fewD need) (haveI_ (fewD need) (fewD hv) (turnN m) x) (1 + Int.tmod (ofN (BitVec.toNat m)) 64))) == 0 &&
  decide (0 < ofN (List.length (missV (fewD need) (haveI_ (fewD need) (fewD hv) (turnN m) x) 1)))) =
  true →
  false = true) ∧
  ((decide
  (1 + Int.tmod (ofN (BitVec.toNat m)) 64 <
  ofN (List.length (missV (fewD need) (haveI_ (fewD need) (fewD hv) (turnN m) x) (1 + Int.tmod (ofN (BitVec.toNat m)) 64)))) ||
  ofN (List.length (missV (fewD need) (haveI_ (fewD need) (fewD hv) (turnN m) x) (1 + Int.tmod (ofN (BitVec.toNat m)) 64))) == 0 &&
  decide (0 < ofN (List.length (missV (fewD need) (haveI_ (fewD need) (fewD hv) (turnN m) x) 1)))) =
  false →
  List.length (haveI_ (fewD need) (fewD hv) (turnN m) x) +
  List.length (missV (fewD need) (haveI_ (fewD need) (fewD hv) (turnN m) x) (1 + Int.tmod (ofN (BitVec.toNat m)) 64)) ≤
  ROOM ∧
  inI64 (ofN x + 1) ∧
  ∃ (x' : Nat),
  x' ≤ List.length (lackV (fewD need) (fewD hv)) / turnN m + 1 ∧
  List.length (lackV (fewD need) (fewD hv)) / turnN m + 1 - x' < List.length (lackV (fewD need) (fewD hv)) / turnN m + 1 - x ∧
  ofN x + 1 = ofN x' ∧
  haveI_ (fewD need) (fewD hv) (turnN m) x ++ missV (fewD need) (haveI_ (fewD need) (fewD hv) (turnN m) x) (1 + Int.tmod (ofN (BitVec.toNat m)) 64) =
  haveI_ (fewD need) (fewD hv) (turnN m) x')) ∧
  (decide (ofN x < Int.tdiv (ofN (List.length (missV (fewD need) (nilOf (List (BitVec 8)) ++ fewD hv) 200))) (1 + Int.tmod (ofN (BitVec.toNat m)) 64) + 1) = false →
  (List.length (fewD need) ≤ 100000000 ∧ List.length (haveI_ (fewD need) (fewD hv) (turnN m) x) ≤ 100000000) ∧
  ((ofN (List.length (missV (fewD need) (haveI_ (fewD need) (fewD hv) (turnN m) x) (1 + Int.tmod (ofN (BitVec.toNat m)) 64))) == 0) = true →
  List.length (fewD need) ≤ 1000000) ∧
  (ofN (List.length (missV (fewD need) (haveI_ (fewD need) (fewD hv) (turnN m) x) (1 + Int.tmod (ofN (BitVec.toNat m)) 64))) == 0 &&
  ofN (List.length (missV (fewD need) (haveI_ (fewD need) (fewD hv) (turnN m) x) 1)) == 0) =
  true)) := by
 have h1 := fewD_len need
 have h2 := fewD_len hv
 have e1 : nilOf (List (BitVec 8)) ++ fewD hv = fewD hv := rfl
 have hn : 0 < turnN m ∧ turnN m ≤ 64 := by unfold turnN; omega
 have en : 1 + Int.tmod (ofN (BitVec.toNat m)) 64 = ofN (turnN m) := by
  rw [Int.tmod_eq_emod_of_nonneg (by show (0 : Int) ≤ ((m.toNat : Nat) : Int); omega)]
  unfold turnN
  show 1 + ((m.toNat : Nat) : Int) % 64 = ((1 + m.toNat % 64 : Nat) : Int)
  omega
 rw [en, e1]
 generalize turnN m = n at hn
 generalize fewD need = N at h1
 generalize fewD hv = h0 at h2
 have hk := lack_len N h0
 have e2 : missV N h0 200 = lackV N h0 := by
  show missV N h0 (ofN 200) = _
  rw [miss_n, List.take_of_length_le (by omega)]
 rw [e2]
 have ed : Int.tdiv (ofN (lackV N h0).length) (ofN n) = ofN ((lackV N h0).length / n) := by
  show Int.tdiv (((lackV N h0).length : Nat) : Int) ((n : Nat) : Int) = (((lackV N h0).length / n : Nat) : Int)
  rw [Int.tdiv_eq_ediv_of_nonneg (by omega)]
  exact (Int.natCast_ediv _ _).symm
 rw [ed]
 have hq : (lackV N h0).length / n ≤ 200 := Nat.le_trans (Nat.div_le_self _ _) (by omega)
 have hne : (ofN n) ≠ 0 := by show ((n : Nat) : Int) ≠ 0; omega
 refine ⟨fun h => h, fun _ => ⟨?_, by decide, ?_, by omega, ⟨0, Nat.zero_le _, rfl, rfl⟩, fun x hx => ⟨⟨hne, ?_⟩, inN20 (by omega), fun q => ?_, fun q => ?_⟩⟩⟩
 · show 0 + h0.length ≤ ROOM
   unfold ROOM; omega
 · show inI64 ((n : Nat) : Int)
   unfold inI64; omega
 · show inI64 (((lackV N h0).length / n : Nat) : Int)
   unfold inI64; omega
 · have hlt : x < (lackV N h0).length / n + 1 := by
     have q : ((x : Nat) : Int) < (((lackV N h0).length / n : Nat) : Int) + 1 := of_decide_eq_true q
     omega
   have hlen := have_len N h0 n x
   have hmul : x * n ≤ 200 * 64 := Nat.mul_le_mul (by omega) hn.2
   have hx1 : (haveI_ N h0 n x).length ≤ 100000000 := by omega
   rw [miss_n]
   have htk : ((lackV N (haveI_ N h0 n x)).take n).length ≤ n := List.length_take_le _ _
   have hgt : decide (ofN n < ofN ((lackV N (haveI_ N h0 n x)).take n).length) = false := by
    rw [decide_eq_false_iff_not]
    show ¬ ((n : Nat) : Int) < ((((lackV N (haveI_ N h0 n x)).take n).length : Nat) : Int)
    omega
   rw [hgt, show (1 : Int) = ofN 1 from rfl, miss_n]
   have hz : (ofN ((lackV N (haveI_ N h0 n x)).take n).length == 0 && decide (0 < ofN ((lackV N (haveI_ N h0 n x)).take 1).length)) = false := by
    cases hl : lackV N (haveI_ N h0 n x) with
    | nil => rw [List.take_nil, List.take_nil]; rfl
    | cons a r =>
      have : (ofN ((a :: r).take n).length == 0) = false := by
       rw [beq_eq_false_iff_ne]
       show ((((a :: r).take n).length : Nat) : Int) ≠ 0
       rw [List.length_take, List.length_cons]
       omega
      rw [this]; rfl
   rw [hz]
   refine ⟨⟨by omega, hx1⟩, fun _ _ => by omega, fun h => (by cases h), fun _ => ⟨by unfold ROOM; omega, inN20 (by omega), x + 1, by omega, by omega, rfl, rfl⟩⟩
 · have hle : (lackV N h0).length / n + 1 ≤ x := by
     have q : ¬ ((x : Nat) : Int) < (((lackV N h0).length / n : Nat) : Int) + 1 := of_decide_eq_false q
     omega
   have hlen := have_len N h0 n x
   have hmul : x * n ≤ 201 * 64 := Nat.mul_le_mul (by omega) hn.2
   have hd := lack_done hn.1 hle
   rw [miss_n, show (1 : Int) = ofN 1 from rfl, miss_n, hd, List.take_nil, List.take_nil]
   exact ⟨⟨by omega, by omega⟩, fun _ => by omega, rfl⟩

theorem ref12_In_spec : Vse.Spec P f_ref12_In c_In12 := spec_fn (l := []) trivial h_ref12_In rfl rfl fun x _ ok => body_ok (an_In12 x.1 x.2.1) (ref12_In_vc x.1 x.2.1 ok.1.1) (by kernel_rfl)

theorem ref20_Missing_spec : Vse.Spec P f_ref20_Missing c_rMissing := spec_fn (l := [(f_ref20_Rising, c_ris20), (f_ref12_In, c_In12)]) ⟨ref20_Rising_spec, ref12_In_spec, trivial⟩ h_ref20_Missing rfl rfl fun x h _ => body_ok (an_rMissing x.1 x.2.1 x.2.2.1) (ref20_Missing_vc x.1 x.2.1 x.2.2.1 (got h)) (by kernel_rfl)

theorem law20_ShipMissing_spec : Vse.Spec P f_law20_ShipMissing (c_law20 [.slc T_Dig, .slc T_Dig, .i64]) :=
 spec_fn (l := [(f_law20_few, c_few20), (f_ship_Missing, c_Missing), (f_ref20_Missing, c_rMissing), (f_ref12_Same, c_Same12), (f_ship_Rising, c_RisingD), (f_ref20_Rising, c_ris20), (f_law20_awake, c_true20)])
  ⟨law20_few_spec, ship_Missing_spec, ref20_Missing_spec, ref12_Same_spec, ship_RisingD_spec, ref20_Rising_spec, law20_awake_spec, trivial⟩ h_law20_ShipMissing rfl rfl fun x _ _ => body_ok an_none (law20_ShipMissing_vc x.1 x.2.1 x.2.2.1) (by kernel_rfl)

theorem law20_ShipTurns_spec : Vse.Spec P f_law20_ShipTurns (c_law20 [.slc T_Dig, .slc T_Dig, .u8]) :=
 spec_fn (l := [(f_law20_awake, c_true20), (f_law20_few, c_few20), (f_ship_Missing, c_Missing), (f_ref20_Missing, c_rMissing)])
  ⟨law20_awake_spec, law20_few_spec, ship_Missing_spec, ref20_Missing_spec, trivial⟩ h_law20_ShipTurns rfl rfl fun x _ _ => body_ok (an_Turns x.1 x.2.1 (turnN x.2.2.1)) (law20_ShipTurns_vc x.1 x.2.1 x.2.2.1) (by kernel_rfl)

theorem law20_ShipMissingF_spec : Vse.Spec P f_law20_ShipMissing (c_law20 [.slc T_Dig, .slc T_Dig, .i64]) := law20_ShipMissing_spec
theorem law20_ShipTurnsF_spec : Vse.Spec P f_law20_ShipTurns (c_law20 [.slc T_Dig, .slc T_Dig, .u8]) := law20_ShipTurns_spec

end Go.Sal
