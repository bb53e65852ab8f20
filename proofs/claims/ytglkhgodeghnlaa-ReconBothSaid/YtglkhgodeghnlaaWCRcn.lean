/- Contracts of recon: rows of digests, masks, prefixes, what is below one. -/
import Derived.Test.YtglkhgodeghnlaaWCOrd
import Derived.Test.YtglkhgodeghnlaaWVseObj
import Derived.Test.YtglkhgodeghnlaaWSalRcn
set_option maxRecDepth 100000
namespace Go.Sal
open Go.Vse Go.Sal.Nm

def x_fn : Run := .one (.cst (.func (.func f_recon_compare) #[] #[]))
def x_row (xs : List DigP) : SV := .agg [.run (.one (.imm T_Dig xs)), .run x_fn]
def x_rowOf : SV → Option (List DigP)
 | .agg [.run (.one (.imm t xs)), .run (.one (.cst (.func (.func f) a b)))] => if h : t = T_Dig then (bif Nat.beq f f_recon_compare && noL a && noL b then some (castL h xs) else none) else none
 | _ => none
def c_R1 (ts : List T) (F : List DigP → dens ts → CRes) : PC := ⟨false, fun ins => match ins with
 | s :: r => match x_rowOf s, decs ts r with
   | some xs, some x => some (F xs x)
   | _, _ => none
 | [] => none, none, none, []⟩
def c_R2 (F : List DigP → List DigP → CRes) : PC := ⟨false, fun ins => match ins with
 | [s, r] => match x_rowOf s, x_rowOf r with
   | some xs, some ys => some (F xs ys)
   | _, _ => none
 | _ => none, none, none, []⟩
def c_rcmp : PC := D [T_Dig, T_Dig] [.i64] (fun _ => none) (fun x => (cmpV x.1 x.2.1, ()))
def c_digests : PC := cFn [.slc T_Dig] fun x => ⟨none, .sv (x_row x.1), none⟩
def c_rowIs : PC := c_R1 [] fun xs _ => ⟨none, .sv (.dv (.bool (ascV xs))), none, none⟩
def an_rowIs (xs : List DigP) : Nat → SState → Option LoopAnn
 | 2, _ => some { X := Nat, slots := fun k => [(3, .sv (.dv (.i64 (ofN k))))], objs := fun _ => [], inv := fun k => 1 ≤ k ∧ (List.range (k - 1)).all (ascB xs) = true ∧ (k ≤ xs.length ∨ k = 1), meas := fun k => xs.length - k }
 | _, _ => none
def c_rCheckS : PC := D [.slc T_Dig] [.i64] (fun _ => none) (fun x => (checkS x.1, ()))
def c_Bsf : PC := ⟨false, fun ins => match ins with
 | [.dv (.imm t xs), s, .clo g []] => if h : t = T_Dig then (match decArg T_Dig s with
   | some d => bif Nat.beq g f_recon_compare then some ⟨some (ascV (castL h xs) = true ∧ xs.length ≤ 1000000), .tup [.dv (.i64 (ofN (lowV (castL h xs) d))), .dv (.bool (hasD (castL h xs) d))], none, none⟩ else none
   | none => none) else none
 | _ => none, none, none, []⟩
def an_Bsf (xs : List DigP) (d : DigP) : Nat → SState → Option LoopAnn
 | 3, _ => some { X := Nat × Nat, slots := fun s => [(9, .sv (.dv (.i64 (ofN s.1)))), (10, .sv (.dv (.i64 (ofN s.2))))], objs := fun _ => [], inv := fun s => s.1 ≤ lowV xs d ∧ lowV xs d ≤ s.2 ∧ s.2 ≤ xs.length, meas := fun s => s.2 - s.1 }
 | _, _ => none
def c_mask : PC := D [T_Dig, .i64, .bool] [T_Dig] (fun x => some (leP (-1000000) x.2.1 ∧ leP x.2.1 1000000)) (fun x => (maskV x.1 x.2.1 x.2.2.1, ()))
def an_mask (d : DigP) (n : Int) (ones : Bool) : Nat → SState → Option LoopAnn
 | 2, S => some { X := Nat, slots := fun k => [(10, .sv (.dv (.i64 (ofN k))))], objs := fun k => [(x_labAt S 3, .cells [.run (.many .u8 32 (maskI d n ones k))] false)], inv := fun k => k ≤ 32, meas := fun k => 32 - k }
 | _, _ => none
def c_rRight : PC := D [T_Pre] [.i64] (fun _ => none) (fun x => (rightV x.1, ()))
def c_rbelow : PC := D [.slc T_Dig, T_Pre] [.slc T_Dig] (fun x => some (ascV x.1 = true ∧ rightB x.2.1 = true ∧ x.1.length ≤ 1000000)) (fun x => (belowV x.1 x.2.1, ()))
def c_rowHas : PC := c_R1 [T_Dig] fun xs x => ⟨some (ascV xs = true ∧ xs.length ≤ 1000000), .sv (.dv (.bool (hasD xs x.1))), none, none⟩
def c_rowLess : PC := c_R2 fun xs ys => ⟨some (ascV ys = true ∧ ys.length ≤ 1000000 ∧ xs.length ≤ 1000000), .sv (.dv (.imm T_Dig (lessV xs ys))), none, none⟩

def an_less28 (xs ys : List DigP) : Nat → SState → Option LoopAnn
 | 3, S => some { X := Nat, slots := fun k => [(11, .sv (.dv (.i64 (ofN k)))), (5, .sv (.own 10 T_Dig (lessV (xs.take k) ys)))], objs := fun _ => [(10, .tok t_api_Digest 32), (x_tok S 5, .gone)], inv := fun k => k ≤ xs.length, meas := fun k => xs.length - k }
 | _, _ => none

theorem ltN28 {x n : Nat} (h : decide (ofN x < ofN n) = true) : x < n := by have h : (x : Int) < (n : Int) := of_decide_eq_true h; omega
theorem geN28 {x n : Nat} (h : decide (ofN x < ofN n) = false) : n ≤ x := by have h : ¬ (x : Int) < (n : Int) := of_decide_eq_false h; omega
theorem wN28 {x n : Nat} (h : x < n) : within (ofN x) n := ⟨by show (0 : Int) ≤ (x : Int); omega, by show (x : Int) < (n : Int); omega⟩
theorem inN28 {x : Nat} (h : x < 9223372036854775807) : inI64 (ofN x + 1) := by show inI64 ((x : Int) + 1); unfold inI64; omega
theorem toN28 (x : Nat) : Int.toNat (ofN x) = x := Int.toNat_natCast x
theorem predN28 {x : Nat} (h : 1 ≤ x) : Int.toNat (ofN x - 1) = x - 1 := by show Int.toNat ((x : Int) - 1) = x - 1; omega
theorem mid28 (a b : Nat) (h : a + b ≤ 4000000) : BitVec.toInt (BitVec.setWidth 64 (BitVec.ofInt 64 (ofN a + ofN b) >>> BitVec.toNat 1#64)) = (((a + b) / 2 : Nat) : Int) := by
 have e : BitVec.ofInt 64 (ofN a + ofN b) = BitVec.ofNat 64 (a + b) := by
  show BitVec.ofInt 64 ((a : Int) + (b : Int)) = _
  rw [← Int.natCast_add]; exact BitVec.ofInt_natCast ..
 rw [e]
 have h1 : (BitVec.setWidth 64 (BitVec.ofNat 64 (a + b) >>> BitVec.toNat 1#64)).toNat = (a + b) / 2 := by
  rw [BitVec.setWidth_eq, BitVec.toNat_ushiftRight, BitVec.toNat_ofNat, Nat.mod_eq_of_lt (by omega)]
  show (a + b) >>> 1 = _
  rw [Nat.shiftRight_eq_div_pow]
 rw [BitVec.toInt_eq_toNat_of_lt (by rw [h1]; omega), h1]
theorem nn28 (n : Int) : decide (0 ≤ n) = !decide (n < 0) := by
 rw [Bool.eq_iff_iff, decide_eq_true_eq, Bool.not_eq_true', decide_eq_false_iff_not]; omega
theorem bd28 (n : Int) (h : (decide (n < 0) || decide (256 < n)) = false) : -1000000 ≤ n ∧ n ≤ 1000000 := by
 simp only [Bool.or_eq_false_iff, decide_eq_false_iff_not] at h
 omega
theorem right28 (n : Int) (d : DigP) : (decide (n < 0) || decide (256 < n) || !eqL T.u8 (maskV d n false) d) = !rightB (n, d) := by
 unfold rightB
 rw [eqL_u8]
 show _ = !(decide ((0 : Int) ≤ n) && decide (n ≤ (256 : Int)) && decide (maskV d n false = d))
 rw [nn28 n]
 have e1 : decide (n ≤ (256 : Int)) = !decide (256 < n) := by
  rw [Bool.eq_iff_iff, decide_eq_true_eq, Bool.not_eq_true', decide_eq_false_iff_not]; omega
 have e2 : (maskV d n false == d) = decide (maskV d n false = d) := by
  rw [Bool.eq_iff_iff]; simp
 rw [e1, e2]
 cases decide (n < 0) <;> cases decide (256 < n) <;> cases decide (maskV d n false = d) <;> rfl
theorem asc_step {xs : List DigP} {k : Nat} (h : 1 ≤ k) (hk : (List.range (k - 1)).all (ascB xs) = true) (hc : ascB xs (k - 1) = true) : (List.range (k + 1 - 1)).all (ascB xs) = true := by
 rw [show k + 1 - 1 = (k - 1) + 1 by omega, List.range_succ, List.all_append, hk, List.all_cons, List.all_nil, hc]; rfl
theorem asc_end {xs : List DigP} {k : Nat} (hk : (List.range (k - 1)).all (ascB xs) = true) (h : xs.length ≤ k) : ascV xs = true := by
 unfold ascV
 rw [List.all_eq_true] at hk ⊢
 intro i hi
 rw [List.mem_range] at hi
 exact hk i (List.mem_range.2 (by omega))
theorem asc_no {xs : List DigP} {k : Nat} (h1 : 1 ≤ k) (h : k < xs.length) (hc : ascB xs (k - 1) = false) : ascV xs = false := by
 cases hq : ascV xs with
 | false => rfl
 | true =>
   unfold ascV at hq
   rw [List.all_eq_true] at hq
   have := hq (k - 1) (List.mem_range.2 (by omega))
   rw [hc] at this; cases this

theorem recon_compare_vc (a b : DigP) (ha : a.length = 32) (hb : b.length = 32) :
 cmpV (List.take 32 (List.drop 0 a)) (List.take 32 (List.drop 0 b)) = cmpV a b := by
 rw [List.drop_zero, List.drop_zero, List.take_of_length_le (by omega), List.take_of_length_le (by omega)]

theorem recon_digests_vc (xs : List DigP) :
 xs = xs := by
 rfl

theorem recon_is_vc (xs : List DigP) (hl : xs.length ≤ LIM) :
 (∃ (x : Nat), (1 ≤ x ∧ List.all (List.range (x - 1)) (ascB xs) = true ∧ (x ≤ List.length xs ∨ x = 1)) ∧ 1 = ofN x) ∧
  ∀ (x : Nat),
  1 ≤ x ∧ List.all (List.range (x - 1)) (ascB xs) = true ∧ (x ≤ List.length xs ∨ x = 1) →
  (decide (ofN x < ofN (List.length xs)) = true →
  inI64 (ofN x - 1) ∧
  within (ofN x - 1) (List.length xs) ∧
  within (ofN x) (List.length xs) ∧
  (decide (0 ≤ cmpV (List.getD xs (Int.toNat (ofN x - 1)) (T.dflt (T.arr 32 T.u8))) (List.getD xs (Int.toNat (ofN x)) (T.dflt (T.arr 32 T.u8)))) = true → false = ascV xs) ∧
  (decide (0 ≤ cmpV (List.getD xs (Int.toNat (ofN x - 1)) (T.dflt (T.arr 32 T.u8))) (List.getD xs (Int.toNat (ofN x)) (T.dflt (T.arr 32 T.u8)))) = false →
  inI64 (ofN x + 1) ∧
  ∃ (x' : Nat), (1 ≤ x' ∧ List.all (List.range (x' - 1)) (ascB xs) = true ∧ (x' ≤ List.length xs ∨ x' = 1)) ∧ List.length xs - x' < List.length xs - x ∧ ofN x + 1 = ofN x')) ∧
  (decide (ofN x < ofN (List.length xs)) = false → true = ascV xs) := by
 unfold LIM at hl
 refine ⟨⟨1, ⟨Nat.le_refl _, rfl, .inr rfl⟩, rfl⟩, fun x hx => ⟨fun q => ?_, fun q => ?_⟩⟩
 · have hlt := ltN28 q
   obtain ⟨h1, h2, _⟩ := hx
   have hc : decide (0 ≤ cmpV (List.getD xs (Int.toNat (ofN x - 1)) (T.dflt (T.arr 32 T.u8))) (List.getD xs (Int.toNat (ofN x)) (T.dflt (T.arr 32 T.u8)))) = !ascB xs (x - 1) := by
    rw [toN28, predN28 h1]
    unfold ascB
    rw [show x - 1 + 1 = x by omega]
    exact nn28 _
   rw [hc]
   refine ⟨by show inI64 ((x : Int) - 1); unfold inI64; omega, ⟨by show (0 : Int) ≤ (x : Int) - 1; omega, by show (x : Int) - 1 < _; omega⟩, wN28 hlt, fun q2 => ?_, fun q2 => ⟨inN28 (by omega), x + 1, ⟨by omega, asc_step h1 h2 (by simpa using q2), .inl (by omega)⟩, by omega, rfl⟩⟩
   exact (asc_no h1 hlt (by simpa using q2)).symm
 · exact (asc_end hx.2.1 (geN28 q)).symm

theorem recon_Check_vc (xs : List DigP) :
 ((decide (65536 < ofN (List.length xs)) || !ascV xs) = true → 281 = checkS xs) ∧ ((decide (65536 < ofN (List.length xs)) || !ascV xs) = false → 0 = checkS xs) := by
 unfold checkS
 have e : decide (65536 < ofN (List.length xs)) = decide (65536 < List.length xs) := by
  rw [decide_eq_decide]
  show (65536 : Int) < ((xs.length : Nat) : Int) ↔ _
  omega
 rw [e]
 exact ⟨fun q => by rw [q]; rfl, fun q => by rw [q]; rfl⟩

theorem slices_Bsf_vc (xs : List DigP) (d : DigP) (hl : xs.length ≤ 1000000) (h : ascV xs = true) :
 (∃ (x : Nat × Nat), (x.1 ≤ lowV xs d ∧ lowV xs d ≤ x.2 ∧ x.2 ≤ List.length xs) ∧ 0 = ofN x.1 ∧ ofN (List.length xs) = ofN x.2) ∧
  ∀ (x : Nat × Nat),
  x.1 ≤ lowV xs d ∧ lowV xs d ≤ x.2 ∧ x.2 ≤ List.length xs →
  (decide (ofN x.1 < ofN x.2) = true →
  inI64 (ofN x.1 + ofN x.2) ∧
  within (BitVec.toInt (BitVec.setWidth 64 (BitVec.ofInt 64 (ofN x.1 + ofN x.2) >>> BitVec.toNat 1#64))) (List.length xs) ∧
  (decide (cmpV (List.getD xs (Int.toNat (BitVec.toInt (BitVec.setWidth 64 (BitVec.ofInt 64 (ofN x.1 + ofN x.2) >>> BitVec.toNat 1#64)))) (T.dflt (T.arr 32 T.u8))) d < 0) = true →
  inI64 (BitVec.toInt (BitVec.setWidth 64 (BitVec.ofInt 64 (ofN x.1 + ofN x.2) >>> BitVec.toNat 1#64)) + 1) ∧
  ∃ (x' : Nat × Nat),
  (x'.1 ≤ lowV xs d ∧ lowV xs d ≤ x'.2 ∧ x'.2 ≤ List.length xs) ∧
  x'.2 - x'.1 < x.2 - x.1 ∧ BitVec.toInt (BitVec.setWidth 64 (BitVec.ofInt 64 (ofN x.1 + ofN x.2) >>> BitVec.toNat 1#64)) + 1 = ofN x'.1 ∧ ofN x.2 = ofN x'.2) ∧
  (decide (cmpV (List.getD xs (Int.toNat (BitVec.toInt (BitVec.setWidth 64 (BitVec.ofInt 64 (ofN x.1 + ofN x.2) >>> BitVec.toNat 1#64)))) (T.dflt (T.arr 32 T.u8))) d < 0) = false →
  ∃ (x' : Nat × Nat),
  (x'.1 ≤ lowV xs d ∧ lowV xs d ≤ x'.2 ∧ x'.2 ≤ List.length xs) ∧
  x'.2 - x'.1 < x.2 - x.1 ∧ ofN x.1 = ofN x'.1 ∧ BitVec.toInt (BitVec.setWidth 64 (BitVec.ofInt 64 (ofN x.1 + ofN x.2) >>> BitVec.toNat 1#64)) = ofN x'.2)) ∧
  (decide (ofN x.1 < ofN x.2) = false →
  (decide (ofN x.1 < ofN (List.length xs)) = true → within (ofN x.1) (List.length xs)) ∧
  ofN x.1 = ofN (lowV xs d) ∧ (decide (ofN x.1 < ofN (List.length xs)) && cmpV (List.getD xs (Int.toNat (ofN x.1)) (T.dflt (T.arr 32 T.u8))) d == 0) = hasD xs d) := by
 have hp := asc_pair.1 h
 have hll := low_le xs d
 refine ⟨⟨(0, xs.length), ⟨Nat.zero_le _, hll, Nat.le_refl _⟩, rfl, rfl⟩, fun x hx => ?_⟩
 obtain ⟨a, b⟩ := x
 obtain ⟨h1, h2, h3⟩ := hx
 dsimp only at h1 h2 h3 ⊢
 refine ⟨fun q => ?_, fun q => ?_⟩
 · have hab := ltN28 q
   rw [mid28 a b (by omega)]
   have hm : (a + b) / 2 < xs.length := by omega
   rw [Int.toNat_natCast, cmp_less, low_iff hp ((a + b) / 2) hm]
   refine ⟨by show inI64 ((a : Int) + (b : Int)); unfold inI64; omega, ⟨by omega, by omega⟩, fun q2 => ⟨by unfold inI64; omega, ((a + b) / 2 + 1, b), ⟨?_, h2, h3⟩, by dsimp only; omega, rfl, rfl⟩, fun q2 => ⟨(a, (a + b) / 2), ⟨h1, ?_, by dsimp only; omega⟩, by dsimp only; omega, rfl, rfl⟩⟩
   · have := of_decide_eq_true q2
     dsimp only; omega
   · have := of_decide_eq_false q2
     dsimp only; omega
 · have hab := geN28 q
   have e : a = lowV xs d := by omega
   subst e
   refine ⟨fun q2 => wN28 (ltN28 q2), rfl, ?_⟩
   rw [toN28, ← has_low hp]
   congr 1
   rw [decide_eq_decide]
   show ((lowV xs d : Nat) : Int) < ((xs.length : Nat) : Int) ↔ _
   omega

theorem recon_mask_vc (d : DigP) (n : Int) (ones : Bool) (hd : d.length = 32) (h : -1000000 ≤ n ∧ n ≤ 1000000) :
 (∃ (x : Nat), x ≤ 32 ∧ 0 = ofN x ∧ d = maskI d n ones x) ∧
  ∀ (x : Nat),
  x ≤ 32 →
  (decide (ofN x < 32) = true →
  inI64 (8 * ofN x) ∧
  inI64 (n - 8 * ofN x) ∧
  0 ≤ min 8 (max 0 (n - 8 * ofN x)) ∧
  within (ofN x) 32 ∧
  within (ofN x) 32 ∧
  (ones = true →
  within (ofN x) 32 ∧
  within (ofN x) 32 ∧
  inI64 (ofN x + 1) ∧
  ∃ (x' : Nat),
  x' ≤ 32 ∧
  32 - x' < 32 - x ∧
  ofN x + 1 = ofN x' ∧
  List.set
  (List.set (maskI d n ones x) (Int.toNat (ofN x))
  (List.getD (maskI d n ones x) (Int.toNat (ofN x)) 0#8 &&& ~~~(255#8 >>> Int.toNat (min 8 (max 0 (n - 8 * ofN x))))))
  (Int.toNat (ofN x))
  (List.getD
  (List.set (maskI d n ones x) (Int.toNat (ofN x))
  (List.getD (maskI d n ones x) (Int.toNat (ofN x)) 0#8 &&& ~~~(255#8 >>> Int.toNat (min 8 (max 0 (n - 8 * ofN x))))))
  (Int.toNat (ofN x)) 0#8 |||
  255#8 >>> Int.toNat (min 8 (max 0 (n - 8 * ofN x)))) =
  maskI d n ones x') ∧
  (ones = false →
  inI64 (ofN x + 1) ∧
  ∃ (x' : Nat),
  x' ≤ 32 ∧
  32 - x' < 32 - x ∧
  ofN x + 1 = ofN x' ∧
  List.set (maskI d n ones x) (Int.toNat (ofN x)) (List.getD (maskI d n ones x) (Int.toNat (ofN x)) 0#8 &&& ~~~(255#8 >>> Int.toNat (min 8 (max 0 (n - 8 * ofN x))))) =
  maskI d n ones x')) ∧
  (decide (ofN x < 32) = false → maskI d n ones x = maskV d n ones) := by
 refine ⟨⟨0, by omega, rfl, rfl⟩, fun x hx => ⟨fun q => ?_, fun q => ?_⟩⟩
 · have hlt : x < 32 := by have h : (x : Int) < 32 := of_decide_eq_true q; omega
   have w := wN28 hlt
   rw [toN28]
   have e : ofN x = (x : Int) := rfl
   rw [e]
   rw [e] at w
   refine ⟨by unfold inI64; omega, by unfold inI64; omega, by omega, w, w, fun q2 => ⟨w, w, by unfold inI64; omega, x + 1, by omega, by omega, rfl, ?_⟩, fun q2 => ⟨by unfold inI64; omega, x + 1, by omega, by omega, rfl, ?_⟩⟩
   · rw [List.set_set, getD_set (by rw [maskI_len, hd]; exact hlt), if_pos rfl, q2]
     rfl
   · rw [q2]; rfl
 · have hge : ¬ x < 32 := by have h : ¬ (x : Int) < 32 := of_decide_eq_false q; omega
   have : x = 32 := by omega
   subst this; rfl

theorem recon_Right_vc (p : Pre) :
 ((decide (p.1 < 0) || decide (256 < p.1)) = false → -1000000 ≤ p.1 ∧ p.1 ≤ 1000000) ∧
  ((decide (p.1 < 0) || decide (256 < p.1) || !eqL T.u8 (maskV p.2 p.1 false) p.2) = true → 280 = rightV p) ∧
  ((decide (p.1 < 0) || decide (256 < p.1) || !eqL T.u8 (maskV p.2 p.1 false) p.2) = false → 0 = rightV p) := by
 have e : (decide (p.1 < 0) || decide (256 < p.1) || !eqL T.u8 (maskV p.2 p.1 false) p.2) = !rightB p := right28 p.1 p.2
 rw [e]
 unfold rightV
 refine ⟨fun q => ?_, fun q => ?_, fun q => ?_⟩
 · exact bd28 p.1 q
 · rw [show rightB p = false by simpa using q]; rfl
 · rw [show rightB p = true by simpa using q]; rfl

theorem recon_below_vc (xs : List DigP) (p : Pre) (hl : xs.length ≤ 1000000) (h : ascV xs = true) (hr : rightB p = true) (h32 : ∀ d ∈ xs, d.length = 32) (hp : p.2.length = 32) :
 (ascV xs = true ∧ List.length xs ≤ 1000000) ∧
  (-1000000 ≤ p.1 ∧ p.1 ≤ 1000000) ∧
  (ascV xs = true ∧ List.length xs ≤ 1000000) ∧
  (hasD xs (maskV p.2 p.1 true) = true →
  inI64 (ofN (lowV xs (maskV p.2 p.1 true)) + 1) ∧
  ((0 ≤ ofN (lowV xs p.2) ∧ ofN (lowV xs p.2) ≤ ofN (lowV xs (maskV p.2 p.1 true)) + 1 ∧ ofN (lowV xs (maskV p.2 p.1 true)) + 1 ≤ ofN (List.length xs)) ∧
  ofN (lowV xs (maskV p.2 p.1 true)) + 1 = ofN (Int.toNat (ofN (lowV xs (maskV p.2 p.1 true)) + 1))) ∧
  List.drop (Int.toNat (ofN (lowV xs p.2))) (List.take (Int.toNat (ofN (lowV xs (maskV p.2 p.1 true)) + 1)) xs) = belowV xs p) ∧
  (hasD xs (maskV p.2 p.1 true) = false →
  ((0 ≤ ofN (lowV xs p.2) ∧ ofN (lowV xs p.2) ≤ ofN (lowV xs (maskV p.2 p.1 true)) ∧ ofN (lowV xs (maskV p.2 p.1 true)) ≤ ofN (List.length xs)) ∧
  ofN (lowV xs (maskV p.2 p.1 true)) = ofN (Int.toNat (ofN (lowV xs (maskV p.2 p.1 true))))) ∧
  List.drop (Int.toNat (ofN (lowV xs p.2))) (List.take (Int.toNat (ofN (lowV xs (maskV p.2 p.1 true)))) xs) = belowV xs p) := by
 have hA := asc_pair.1 h
 have hcut := below_cut hA h32 hp hr
 have hll := low_last hA hp hr
 have hle := low_le xs (maskV p.2 p.1 true)
 have hhas := has_low (d := maskV p.2 p.1 true) hA
 obtain ⟨r1, r2, _⟩ := (right_iff hp).1 hr
 generalize lowV xs (maskV p.2 p.1 true) = m at *
 generalize lowV xs p.2 = k at *
 refine ⟨⟨h, hl⟩, ⟨by show (-1000000 : Int) ≤ p.1; omega, by show (1000000 : Int) ≥ p.1; omega⟩, ⟨h, hl⟩, fun q => ?_, fun q => ?_⟩
 · rw [q] at hcut hhas
   have hlt : m < xs.length := by
    simp only [Bool.and_eq_true, decide_eq_true_eq] at hhas
    exact hhas.1
   have e : Int.toNat (ofN m + 1) = m + 1 := by show Int.toNat ((m : Int) + 1) = m + 1; omega
   rw [toN28, e]
   refine ⟨inN28 (by omega), ⟨⟨?_, ?_, ?_⟩, rfl⟩, hcut⟩
   · show (0 : Int) ≤ (k : Int); omega
   · show (k : Int) ≤ (m : Int) + 1; omega
   · show (m : Int) + 1 ≤ (xs.length : Int); omega
 · rw [q] at hcut
   rw [toN28, toN28]
   refine ⟨⟨⟨?_, ?_, ?_⟩, rfl⟩, hcut⟩
   · show (0 : Int) ≤ (k : Int); omega
   · show (k : Int) ≤ (m : Int); omega
   · show (m : Int) ≤ (xs.length : Int); omega

theorem recon_has_vc (xs : List DigP) (d : DigP) (hl : xs.length ≤ 1000000) (h : ascV xs = true) :
 (ascV xs = true ∧ List.length xs ≤ 1000000) ∧ hasD xs d = hasD xs d := by
 exact ⟨⟨h, hl⟩, rfl⟩

theorem recon_less_vc (xs ys : List DigP) (hl : ys.length ≤ 1000000) (h : ascV ys = true) (hx : xs.length ≤ 1000000) :
 (∃ (x : Nat), x ≤ List.length xs ∧ 0 = ofN x ∧ lessV (List.take x xs) ys = nilOf (List (BitVec 8))) ∧
  ∀ (x : Nat),
  x ≤ List.length xs →
  (decide (ofN x < ofN (List.length xs)) = true →
  within (ofN x) (List.length xs) ∧
  (ascV ys = true ∧ List.length ys ≤ 1000000) ∧
  ((!hasD ys (List.getD xs (Int.toNat (ofN x)) (T.dflt (T.arr 32 T.u8)))) = true →
  List.length (lessV (List.take x xs) ys) + List.length [List.getD xs (Int.toNat (ofN x)) (T.dflt (T.arr 32 T.u8))] ≤ ROOM ∧
  inI64 (ofN x + 1) ∧
  ∃ (x' : Nat),
  x' ≤ List.length xs ∧
  List.length xs - x' < List.length xs - x ∧
  ofN x + 1 = ofN x' ∧ lessV (List.take x xs) ys ++ [List.getD xs (Int.toNat (ofN x)) (T.dflt (T.arr 32 T.u8))] = lessV (List.take x' xs) ys) ∧
  ((!hasD ys (List.getD xs (Int.toNat (ofN x)) (T.dflt (T.arr 32 T.u8)))) = false →
  inI64 (ofN x + 1) ∧ ∃ (x' : Nat), x' ≤ List.length xs ∧ List.length xs - x' < List.length xs - x ∧ ofN x + 1 = ofN x' ∧ lessV (List.take x xs) ys = lessV (List.take x' xs) ys)) ∧
  (decide (ofN x < ofN (List.length xs)) = false → lessV (List.take x xs) ys = lessV xs ys) := by
 refine ⟨⟨0, Nat.zero_le _, rfl, rfl⟩, fun x hx => ⟨fun q => ?_, fun q => ?_⟩⟩
 · have hlt := ltN28 q
   have hs := lessV_snoc (ys := ys) hlt
   have hn := lessV_le (xs.take x) ys
   rw [List.length_take] at hn
   rw [toN28]
   refine ⟨wN28 hlt, ⟨h, hl⟩, fun q2 => ⟨?_, inN28 (by omega), x + 1, by omega, by omega, rfl, ?_⟩, fun q2 => ⟨inN28 (by omega), x + 1, by omega, by omega, rfl, ?_⟩⟩
   · show _ + 1 ≤ ROOM
     unfold ROOM; omega
   · have q2 : hasD ys (xs.getD x dig0) = false := by simpa using q2
     rw [hs, q2]; rfl
   · have q2 : hasD ys (xs.getD x dig0) = true := by simpa using q2
     rw [hs, q2]; simp
 · have : x = xs.length := by have := geN28 q; omega
   rw [this, List.take_length]

theorem x_rowOf_eq {s : SV} {xs : List DigP} (h : x_rowOf s = some xs) : s = x_row xs := by
 unfold x_rowOf at h
 split at h
 · rename_i t ys f a b
   split at h
   · rename_i ht
     subst ht
     cases hb : (Nat.beq f f_recon_compare && noL a && noL b) with
     | false => rw [hb] at h; cases h
     | true =>
       rw [hb] at h
       simp only [cond_true, Option.some.injEq] at h
       simp only [Bool.and_eq_true] at hb
       rw [noL_eq hb.1.2, noL_eq hb.2, Nat.eq_of_beq_eq_true hb.1.1, ← h]
       rfl
   · cases h
 · cases h
def okRow (xs : List DigP) : Prop := xs.length ≤ LIM ∧ ∀ d ∈ xs, d.length = 32
theorem okRow_of {xs : List DigP} (h : okSV (x_row xs)) : okRow xs := ⟨h.1.1, fun d hd => (h.1.2 d hd).1⟩
theorem okRow_slc {xs : List DigP} (h : okT (.slc T_Dig) xs) : okRow xs := ⟨h.1, fun d hd => (h.2 d hd).1⟩
theorem spec_R1 {l : List (FuncId × PC)} (hl : Specs P l) {f : FuncId} {fn : Func} (hf : P.funcs[f]? = some fn) (hb : fn.body.isSome = true)
 (hn : (fn.name == "runtime.NumGoroutine") = false) {ts : List T} {F : List DigP → dens ts → CRes} (hrc : ∀ xs x, (F xs x).rcv = none)
 (h : ∀ (xs : List DigP) (x : dens ts), vcT (F xs x).vc → okRow xs → okD ts x → ∃ ann, bodyVC P (gam l) ann fn false (x_row xs :: svsOf ts x) (F xs x)) : Vse.Spec P f (c_R1 ts F) := by
 refine spec_of_body (gam_ok hl) hf hb hn ⟨rfl, rfl⟩ (fun ins r hr => ?_) (fun ins r hr hvc hok => ?_)
 · simp only [c_R1] at hr
   split at hr
   · split at hr
     · rename_i xs x _ _
       simp only [Option.some.injEq] at hr; subst hr
       rw [hrc]; rfl
     · cases hr
   · cases hr
 · simp only [c_R1] at hr
   split at hr
   · rename_i s r'
     split at hr
     · rename_i xs x hx hd
       simp only [Option.some.injEq] at hr; subst hr
       have e1 := x_rowOf_eq hx
       have e2 := decs_eq hd
       subst e1; subst e2
       exact h xs x hvc (okRow_of hok.1) (okD_svs _ _ hok.2)
     · cases hr
   · cases hr
theorem spec_R2 {l : List (FuncId × PC)} (hl : Specs P l) {f : FuncId} {fn : Func} (hf : P.funcs[f]? = some fn) (hb : fn.body.isSome = true)
 (hn : (fn.name == "runtime.NumGoroutine") = false) {F : List DigP → List DigP → CRes} (hrc : ∀ xs x, (F xs x).rcv = none)
 (h : ∀ (xs ys : List DigP), vcT (F xs ys).vc → okRow xs → okRow ys → ∃ ann, bodyVC P (gam l) ann fn false [x_row xs, x_row ys] (F xs ys)) : Vse.Spec P f (c_R2 F) := by
 refine spec_of_body (gam_ok hl) hf hb hn ⟨rfl, rfl⟩ (fun ins r hr => ?_) (fun ins r hr hvc hok => ?_)
 · simp only [c_R2] at hr
   split at hr
   · split at hr
     · simp only [Option.some.injEq] at hr; subst hr
       rw [hrc]; rfl
     · cases hr
   · cases hr
 · simp only [c_R2] at hr
   split at hr
   · rename_i s r'
     split at hr
     · rename_i xs ys hx hy
       simp only [Option.some.injEq] at hr; subst hr
       have e1 := x_rowOf_eq hx
       have e2 := x_rowOf_eq hy
       subst e1; subst e2
       exact h xs ys hvc (okRow_of hok.1) (okRow_of hok.2.1)
     · cases hr
   · cases hr

theorem recon_compare_spec : Vse.Spec P f_recon_compare c_rcmp := spec_fn (l := [(f_bytes_Compare, c_cmp)]) ⟨bytes_Compare_spec, trivial⟩ h_recon_compare rfl rfl fun x _ ok => body_ok an_none (recon_compare_vc x.1 x.2.1 ok.1.1 ok.2.1.1) (by kernel_rfl)

theorem recon_digests_spec : Vse.Spec P f_recon_digests c_digests := spec_fn (l := []) trivial h_recon_digests rfl rfl fun x _ _ => body_ok an_none (recon_digests_vc x.1) (by kernel_rfl)

theorem recon_is_spec : Vse.Spec P f_recon_rowarapi_Digest_is c_rowIs := spec_R1 (l := [(f_recon_compare, c_rcmp)]) ⟨recon_compare_spec, trivial⟩ h_recon_rowarapi_Digest_is rfl rfl (fun _ _ => rfl) fun xs _ _ ok _ => body_ok (an_rowIs xs) (recon_is_vc xs ok.1) (by kernel_rfl)

theorem recon_Check_spec : Vse.Spec P f_recon_Check c_rCheckS := spec_fn (l := [(f_recon_digests, c_digests), (f_recon_rowarapi_Digest_is, c_rowIs)]) ⟨recon_digests_spec, recon_is_spec, trivial⟩ h_recon_Check rfl rfl fun x _ _ => body_ok an_none (recon_Check_vc x.1) (by kernel_rfl)

theorem slices_Bsf_spec : Vse.Spec P f_slices_BinarySearchFunc_Digest c_Bsf := by
 refine spec_of_body (gam_ok (l := [(f_recon_compare, c_rcmp)]) ⟨recon_compare_spec, trivial⟩) h_slices_BinarySearchFunc_Digest rfl rfl ⟨rfl, rfl⟩ (fun ins r hr => ?_) (fun ins r hr hvc hok => ?_)
 all_goals
  unfold c_Bsf at hr
  simp only at hr
  split at hr
  case h_2 => cases hr
  rename_i t xs s g
  split at hr
  case isFalse => cases hr
  rename_i ht
  subst ht
  split at hr
  case h_2 => cases hr
  rename_i d hd
  cases hb : Nat.beq g f_recon_compare with
  | false => rw [hb] at hr; cases hr
  | true =>
    rw [hb] at hr
    simp only [cond_true, Option.some.injEq] at hr; subst hr
    first
    | rfl
    | have e1 := decArg_eq hd
      have e2 := Nat.eq_of_beq_eq_true hb
      subst e1; subst e2
      exact body_ok (an_Bsf xs d) (slices_Bsf_vc xs d hvc.2 hvc.1) (by kernel_rfl)

theorem recon_mask_spec : Vse.Spec P f_recon_mask c_mask := spec_fn (l := []) trivial h_recon_mask rfl rfl fun x h ok => body_ok (an_mask x.1 x.2.1 x.2.2.1) (recon_mask_vc x.1 x.2.1 x.2.2.1 ok.1.1 (got h)) (by kernel_rfl)

theorem recon_Right_spec : Vse.Spec P f_recon_Right c_rRight := spec_fn (l := [(f_recon_mask, c_mask)]) ⟨recon_mask_spec, trivial⟩ h_recon_Right rfl rfl fun x _ _ => body_ok an_none (recon_Right_vc x.1) (by kernel_rfl)

theorem recon_below_spec : Vse.Spec P f_recon_below c_rbelow := spec_fn (l := [(f_recon_mask, c_mask), (f_slices_BinarySearchFunc_Digest, c_Bsf)]) ⟨recon_mask_spec, slices_Bsf_spec, trivial⟩ h_recon_below rfl rfl fun x h ok => body_ok an_none (recon_below_vc x.1 x.2.1 (got h).2.2 (got h).1 (got h).2.1 (okRow_slc ok.1).2 ok.2.1.2.1) (by kernel_rfl)

theorem recon_has_spec : Vse.Spec P f_recon_rowarapi_Digest_has c_rowHas := spec_R1 (l := [(f_slices_BinarySearchFunc_Digest, c_Bsf)]) ⟨slices_Bsf_spec, trivial⟩ h_recon_rowarapi_Digest_has rfl rfl (fun _ _ => rfl) fun xs x h _ _ => body_ok an_none (recon_has_vc xs x.1 (got h).2 (got h).1) (by kernel_rfl)

theorem recon_less_spec : Vse.Spec P f_recon_rowarapi_Digest_less c_rowLess := spec_R2 (l := [(f_recon_rowarapi_Digest_has, c_rowHas)]) ⟨recon_has_spec, trivial⟩ h_recon_rowarapi_Digest_less rfl rfl (fun _ _ => rfl) fun xs ys h _ _ => body_ok (an_less28 xs ys) (recon_less_vc xs ys (got h).2.1 (got h).1 (got h).2.2) (by kernel_rfl)

end Go.Sal
