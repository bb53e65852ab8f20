/- Contracts of the reference of package sha. -/
import Derived.Test.YtdddnamfecgkeaaDoorWCSha
set_option maxRecDepth 100000
namespace Go.Sal
open Go.Vse Go.Sal.Nm

def x_int (S : SState) (t : Nat) : Int :=
 match S.get t with
 | .sv (.dv (.i64 n)) => n
 | _ => 0

def x_tok (S : SState) (t : Nat) : Nat :=
 match S.get t with
 | .sv (.own k _ _) => k
 | _ => 0

def c_rright : PC := D [.u32, .i64] [.u32] (fun x => some (leP 0 x.2.1 ∧ leP x.2.1 31)) (fun x => (rotr x.1 x.2.1.toNat, ()))

def an_rright (x : W32) (n : Int) : Nat → SState → Option LoopAnn
 | 1, _ => some { X := Nat, slots := fun j => [(0, .sv (.dv (.u32 (rotr x j)))), (1, .sv (.dv (.i64 (n - j))))], objs := fun _ => [], inv := fun j => (j : Int) ≤ n, meas := fun j => n.toNat - j }
 | _, _ => none

theorem ref03_right_vc (x : W32) (n : Int) (h : 0 ≤ n ∧ n ≤ 31) :
 (∃ (x_1 : Nat), ofN x_1 ≤ n ∧ x = rotr x x_1 ∧ n = n - ofN x_1) ∧
  ∀ (x_1 : Nat),
  ofN x_1 ≤ n →
  (decide (0 < n - ofN x_1) = true →
  2#32 ≠ 0#32 ∧
  2#32 ≠ 0#32 ∧
  inI64 (n - ofN x_1 - 1) ∧
  ∃ (x' : Nat), ofN x' ≤ n ∧ Int.toNat n - x' < Int.toNat n - x_1 ∧ rotr x x_1 / 2#32 + rotr x x_1 % 2#32 * 2147483648#32 = rotr x x' ∧ n - ofN x_1 - 1 = n - ofN x') ∧
  (decide (0 < n - ofN x_1) = false → rotr x x_1 = rotr x (Int.toNat n)) := by
 refine ⟨⟨0, by simp only [ofN]; omega, by rw [rotr_zero], by simp [ofN]⟩, fun j hj => ⟨fun hc => ?_, fun hc => ?_⟩⟩
 · simp only [ofN, decide_eq_true_eq] at hc hj ⊢
   refine ⟨by decide, by decide, by unfold inI64; omega, j + 1, by omega, by omega, ?_, by omega⟩
   rw [rotr_one, rotr_succ _ _ (by omega)]
 · simp only [ofN, decide_eq_false_iff_not] at hc hj ⊢
   have : n.toNat = j := by omega
   rw [this]

theorem ref03_right_spec : Vse.Spec P f_ref03_right c_rright :=
 spec_fn (l := []) trivial h_ref03_right rfl rfl fun x h _ => body_ok (an_rright x.1 x.2.1) (ref03_right_vc x.1 x.2.1 (got h)) (by kernel_rfl)

def c_moved : PC := D [.u32, .i64] [.u32] (fun x => some (leP 0 x.2.1 ∧ leP x.2.1 31)) (fun x => (x.1 >>> x.2.1.toNat, ()))

def an_moved (x : W32) (n : Int) : Nat → SState → Option LoopAnn
 | 1, _ => some { X := Nat, slots := fun j => [(0, .sv (.dv (.u32 (x >>> j)))), (1, .sv (.dv (.i64 (n - j))))], objs := fun _ => [], inv := fun j => (j : Int) ≤ n, meas := fun j => n.toNat - j }
 | _, _ => none

theorem ref03_moved_vc (x : W32) (n : Int) (h : 0 ≤ n ∧ n ≤ 31) :
 (∃ (x_1 : Nat), ofN x_1 ≤ n ∧ x = x >>> x_1 ∧ n = n - ofN x_1) ∧
  ∀ (x_1 : Nat),
  ofN x_1 ≤ n →
  (decide (0 < n - ofN x_1) = true →
  2#32 ≠ 0#32 ∧ inI64 (n - ofN x_1 - 1) ∧ ∃ (x' : Nat), ofN x' ≤ n ∧ Int.toNat n - x' < Int.toNat n - x_1 ∧ x >>> x_1 / 2#32 = x >>> x' ∧ n - ofN x_1 - 1 = n - ofN x') ∧
  (decide (0 < n - ofN x_1) = false → x >>> x_1 = x >>> Int.toNat n) := by
 refine ⟨⟨0, by simp only [ofN]; omega, by simp, by simp [ofN]⟩, fun j hj => ⟨fun hc => ?_, fun hc => ?_⟩⟩
 · simp only [ofN, decide_eq_true_eq] at hc hj ⊢
   refine ⟨by decide, by unfold inI64; omega, j + 1, by omega, by omega, ?_, by omega⟩
   rw [half, BitVec.shiftRight_add]
 · simp only [ofN, decide_eq_false_iff_not] at hc hj ⊢
   have : n.toNat = j := by omega
   rw [this]

theorem ref03_moved_spec : Vse.Spec P f_ref03_moved c_moved :=
 spec_fn (l := []) trivial h_ref03_moved rfl rfl fun x h _ => body_ok (an_moved x.1 x.2.1) (ref03_moved_vc x.1 x.2.1 (got h)) (by kernel_rfl)

theorem ref03_Start_vc :
 [1779033703#32, 3144134277#32, 1013904242#32, 2773480762#32, 1359893119#32, 2600822924#32, 528734635#32, 1541459225#32] = start := by
 rfl

theorem ref03_Start_spec : Vse.Spec P f_ref03_Start c_shaStart :=
 spec_fn (l := []) trivial h_ref03_Start rfl rfl fun _ _ _ => body_ok (an_none) ref03_Start_vc (by kernel_rfl)

theorem ref03_constants_vc :
 [1116352408#32, 1899447441#32, 3049323471#32, 3921009573#32, 961987163#32, 1508970993#32, 2453635748#32, 2870763221#32, 3624381080#32, 310598401#32, 607225278#32, 1426881987#32, 1925078388#32,
  2162078206#32, 2614888103#32, 3248222580#32, 3835390401#32, 4022224774#32, 264347078#32, 604807628#32, 770255983#32, 1249150122#32, 1555081692#32, 1996064986#32, 2554220882#32, 2821834349#32,
  2952996808#32, 3210313671#32, 3336571891#32, 3584528711#32, 113926993#32, 338241895#32, 666307205#32, 773529912#32, 1294757372#32, 1396182291#32, 1695183700#32, 1986661051#32, 2177026350#32,
  2456956037#32, 2730485921#32, 2820302411#32, 3259730800#32, 3345764771#32, 3516065817#32, 3600352804#32, 4094571909#32, 275423344#32, 430227734#32, 506948616#32, 659060556#32, 883997877#32,
  958139571#32, 1322822218#32, 1537002063#32, 1747873779#32, 1955562222#32, 2024104815#32, 2227730452#32, 2361852424#32, 2428436474#32, 2756734187#32, 3204031479#32, 3329325298#32] =
  consts := by
 rfl

theorem ref03_constants_spec : Vse.Spec P f_ref03_constants c_shaConstants :=
 spec_fn (l := []) trivial h_ref03_constants rfl rfl fun _ _ _ => body_ok (an_none) ref03_constants_vc (by kernel_rfl)

def an_rStep (s : List W32) (b : Bytes) : Nat → SState → Option LoopAnn
 | 3, S => some { X := Nat, slots := fun i => [(6, .sv (.dv (.i64 i)))], objs := fun i => [(x_labAt S 5, .cells [.run (.many .u32 64 (iter (fun w i => w.set i (wordAt b i)) i (List.replicate 64 0#32)))] false)], inv := fun i => i ≤ 16, meas := fun i => 16 - i }
 | 7, S => some { X := Nat, slots := fun i => [(7, .sv (.dv (.i64 (i + 16 : Nat))))], objs := fun i => [(x_labAt S 5, .cells [.run (.many .u32 64 (iter schedStep i (sched16 b)))] false)], inv := fun i => i ≤ 48, meas := fun i => 48 - i }
 | 16, S => some { X := Nat, slots := fun i => [(14, .sv (.dv (.i64 i)))], objs := fun i => [(x_labAt S 13, .cells [.run (.many .u32 8 (iter (round (sched b)) i s))] false)], inv := fun i => i ≤ 64, meas := fun i => 64 - i }
 | 24, S => some { X := Nat, slots := fun i => [(19, .sv (.dv (.i64 i)))], objs := fun i => [(x_labAt S 13, .cells [.run (.many .u32 8 (iter (fun t i => t.set i (t.getD i 0#32 + s.getD i 0#32)) i (rounds b s)))] false)], inv := fun i => i ≤ 8, meas := fun i => 8 - i }
 | _, _ => none

theorem ref03_Step_vc (s : List W32) (b : Bytes) :
 (∃ (x : Nat), x ≤ 16 ∧ 0 = ofN x ∧ List.replicate 64 0#32 = iter (fun (w : List (BitVec 32)) (i : Nat) => List.set w i (wordAt b i)) x (List.replicate 64 0#32)) ∧
  ∀ (x : Nat),
  x ≤ 16 →
  (decide (ofN x < 16) = true →
  inI64 (4 * ofN x) ∧
  within (4 * ofN x) 64 ∧
  inI64 (4 * ofN x) ∧
  inI64 (4 * ofN x + 1) ∧
  within (4 * ofN x + 1) 64 ∧
  inI64 (4 * ofN x) ∧
  inI64 (4 * ofN x + 2) ∧
  within (4 * ofN x + 2) 64 ∧
  inI64 (4 * ofN x) ∧
  inI64 (4 * ofN x + 3) ∧
  within (4 * ofN x + 3) 64 ∧
  within (ofN x) 64 ∧
  inI64 (ofN x + 1) ∧
  ∃ (x' : Nat),
  x' ≤ 16 ∧
  16 - x' < 16 - x ∧
  ofN x + 1 = ofN x' ∧
  List.set (iter (fun (w : List (BitVec 32)) (i : Nat) => List.set w i (wordAt b i)) x (List.replicate 64 0#32)) (Int.toNat (ofN x))
  (BitVec.setWidth 32 (List.getD b (Int.toNat (4 * ofN x)) 0#8) * 16777216#32 +
  BitVec.setWidth 32 (List.getD b (Int.toNat (4 * ofN x + 1)) 0#8) * 65536#32 +
  BitVec.setWidth 32 (List.getD b (Int.toNat (4 * ofN x + 2)) 0#8) * 256#32 +
  BitVec.setWidth 32 (List.getD b (Int.toNat (4 * ofN x + 3)) 0#8)) =
  iter (fun (w : List (BitVec 32)) (i : Nat) => List.set w i (wordAt b i)) x' (List.replicate 64 0#32)) ∧
  (decide (ofN x < 16) = false →
  (∃ (x_1 : Nat), x_1 ≤ 48 ∧ 16 = ofN (x_1 + 16) ∧ iter (fun (w : List (BitVec 32)) (i : Nat) => List.set w i (wordAt b i)) x (List.replicate 64 0#32) = iter schedStep x_1 (sched16 b)) ∧
  ∀ (x : Nat),
  x ≤ 48 →
  (decide (ofN (x + 16) < 64) = true →
  inI64 (ofN (x + 16) - 15) ∧
  within (ofN (x + 16) - 15) 64 ∧
  inI64 (ofN (x + 16) - 2) ∧
  within (ofN (x + 16) - 2) 64 ∧
  (ofN 0 ≤ 7 ∧ ofN 7 ≤ 31) ∧
  (ofN 0 ≤ 18 ∧ ofN 18 ≤ 31) ∧
  (ofN 0 ≤ 3 ∧ ofN 3 ≤ 31) ∧
  (ofN 0 ≤ 17 ∧ ofN 17 ≤ 31) ∧
  (ofN 0 ≤ 19 ∧ ofN 19 ≤ 31) ∧
  (ofN 0 ≤ 10 ∧ ofN 10 ≤ 31) ∧
  inI64 (ofN (x + 16) - 16) ∧
  within (ofN (x + 16) - 16) 64 ∧
  inI64 (ofN (x + 16) - 7) ∧
  within (ofN (x + 16) - 7) 64 ∧
  within (ofN (x + 16)) 64 ∧
  inI64 (ofN (x + 16) + 1) ∧
  ∃ (x' : Nat),
  x' ≤ 48 ∧
  48 - x' < 48 - x ∧
  ofN (x + 16) + 1 = ofN (x' + 16) ∧
  List.set (iter schedStep x (sched16 b)) (Int.toNat (ofN (x + 16)))
  (List.getD (iter schedStep x (sched16 b)) (Int.toNat (ofN (x + 16) - 16)) 0#32 +
  (rotr (List.getD (iter schedStep x (sched16 b)) (Int.toNat (ofN (x + 16) - 15)) 0#32) (Int.toNat 7) ^^^
  rotr (List.getD (iter schedStep x (sched16 b)) (Int.toNat (ofN (x + 16) - 15)) 0#32) (Int.toNat 18) ^^^
  List.getD (iter schedStep x (sched16 b)) (Int.toNat (ofN (x + 16) - 15)) 0#32 >>> Int.toNat 3) +
  List.getD (iter schedStep x (sched16 b)) (Int.toNat (ofN (x + 16) - 7)) 0#32 +
  (rotr (List.getD (iter schedStep x (sched16 b)) (Int.toNat (ofN (x + 16) - 2)) 0#32) (Int.toNat 17) ^^^
  rotr (List.getD (iter schedStep x (sched16 b)) (Int.toNat (ofN (x + 16) - 2)) 0#32) (Int.toNat 19) ^^^
  List.getD (iter schedStep x (sched16 b)) (Int.toNat (ofN (x + 16) - 2)) 0#32 >>> Int.toNat 10)) =
  iter schedStep x' (sched16 b)) ∧
  (decide (ofN (x + 16) < 64) = false →
  (∃ (x : Nat), x ≤ 64 ∧ 0 = ofN x ∧ s = iter (round (sched b)) x s) ∧
  ∀ (x_1 : Nat),
  x_1 ≤ 64 →
  (decide (ofN x_1 < 64) = true →
  within 4 8 ∧
  (ofN 0 ≤ 6 ∧ ofN 6 ≤ 31) ∧
  within 4 8 ∧
  (ofN 0 ≤ 11 ∧ ofN 11 ≤ 31) ∧
  within 4 8 ∧
  (ofN 0 ≤ 25 ∧ ofN 25 ≤ 31) ∧
  within 7 8 ∧
  within 4 8 ∧
  within 5 8 ∧
  within 4 8 ∧
  within 6 8 ∧
  within (ofN x_1) 64 ∧
  within (ofN x_1) 64 ∧
  within 0 8 ∧
  (ofN 0 ≤ 2 ∧ ofN 2 ≤ 31) ∧
  within 0 8 ∧
  (ofN 0 ≤ 13 ∧ ofN 13 ≤ 31) ∧
  within 0 8 ∧
  (ofN 0 ≤ 22 ∧ ofN 22 ≤ 31) ∧
  within 0 8 ∧
  within 1 8 ∧
  within 0 8 ∧
  within 2 8 ∧
  within 1 8 ∧
  within 2 8 ∧
  within 0 8 ∧
  within 1 8 ∧
  within 2 8 ∧
  within 3 8 ∧
  within 4 8 ∧
  within 5 8 ∧
  within 6 8 ∧
  inI64 (ofN x_1 + 1) ∧
  ∃ (x' : Nat),
  x' ≤ 64 ∧
  64 - x' < 64 - x_1 ∧
  ofN x_1 + 1 = ofN x' ∧
  [List.getD (iter (round (sched b)) x_1 s) (Int.toNat 7) 0#32 +
  (rotr (List.getD (iter (round (sched b)) x_1 s) (Int.toNat 4) 0#32)
  (Int.toNat 6) ^^^
  rotr (List.getD (iter (round (sched b)) x_1 s) (Int.toNat 4) 0#32)
  (Int.toNat 11) ^^^
  rotr (List.getD (iter (round (sched b)) x_1 s) (Int.toNat 4) 0#32)
  (Int.toNat 25)) +
  (List.getD (iter (round (sched b)) x_1 s) (Int.toNat 4) 0#32 &&&
  List.getD (iter (round (sched b)) x_1 s) (Int.toNat 5) 0#32 ^^^
  ~~~List.getD (iter (round (sched b)) x_1 s) (Int.toNat 4) 0#32 &&&
  List.getD (iter (round (sched b)) x_1 s) (Int.toNat 6) 0#32) +
  List.getD consts (Int.toNat (ofN x_1)) 0#32 +
  List.getD (iter schedStep x (sched16 b)) (Int.toNat (ofN x_1)) 0#32 +
  ((rotr (List.getD (iter (round (sched b)) x_1 s) (Int.toNat 0) 0#32) (Int.toNat 2) ^^^
  rotr (List.getD (iter (round (sched b)) x_1 s) (Int.toNat 0) 0#32)
  (Int.toNat 13) ^^^
  rotr (List.getD (iter (round (sched b)) x_1 s) (Int.toNat 0) 0#32) (Int.toNat 22)) +
  (List.getD (iter (round (sched b)) x_1 s) (Int.toNat 0) 0#32 &&&
  List.getD (iter (round (sched b)) x_1 s) (Int.toNat 1) 0#32 ^^^
  List.getD (iter (round (sched b)) x_1 s) (Int.toNat 0) 0#32 &&&
  List.getD (iter (round (sched b)) x_1 s) (Int.toNat 2) 0#32 ^^^
  List.getD (iter (round (sched b)) x_1 s) (Int.toNat 1) 0#32 &&&
  List.getD (iter (round (sched b)) x_1 s) (Int.toNat 2) 0#32)),
  List.getD (iter (round (sched b)) x_1 s) (Int.toNat 0) 0#32,
  List.getD (iter (round (sched b)) x_1 s) (Int.toNat 1) 0#32,
  List.getD (iter (round (sched b)) x_1 s) (Int.toNat 2) 0#32,
  List.getD (iter (round (sched b)) x_1 s) (Int.toNat 3) 0#32 +
  (List.getD (iter (round (sched b)) x_1 s) (Int.toNat 7) 0#32 +
  (rotr (List.getD (iter (round (sched b)) x_1 s) (Int.toNat 4) 0#32)
  (Int.toNat 6) ^^^
  rotr (List.getD (iter (round (sched b)) x_1 s) (Int.toNat 4) 0#32)
  (Int.toNat 11) ^^^
  rotr (List.getD (iter (round (sched b)) x_1 s) (Int.toNat 4) 0#32)
  (Int.toNat 25)) +
  (List.getD (iter (round (sched b)) x_1 s) (Int.toNat 4) 0#32 &&&
  List.getD (iter (round (sched b)) x_1 s) (Int.toNat 5) 0#32 ^^^
  ~~~List.getD (iter (round (sched b)) x_1 s) (Int.toNat 4) 0#32 &&&
  List.getD (iter (round (sched b)) x_1 s) (Int.toNat 6) 0#32) +
  List.getD consts (Int.toNat (ofN x_1)) 0#32 +
  List.getD (iter schedStep x (sched16 b)) (Int.toNat (ofN x_1)) 0#32),
  List.getD (iter (round (sched b)) x_1 s) (Int.toNat 4) 0#32,
  List.getD (iter (round (sched b)) x_1 s) (Int.toNat 5) 0#32,
  List.getD (iter (round (sched b)) x_1 s) (Int.toNat 6) 0#32] =
  iter (round (sched b)) x' s) ∧
  (decide (ofN x_1 < 64) = false →
  (∃ (x : Nat),
  x ≤ 8 ∧
  0 = ofN x ∧ iter (round (sched b)) x_1 s = iter (fun (t : List (BitVec 32)) (i : Nat) => List.set t i (List.getD t i 0#32 + List.getD s i 0#32)) x (rounds b s)) ∧
  ∀ (x : Nat),
  x ≤ 8 →
  (decide (ofN x < 8) = true →
  within (ofN x) 8 ∧
  within (ofN x) 8 ∧
  within (ofN x) 8 ∧
  inI64 (ofN x + 1) ∧
  ∃ (x' : Nat),
  x' ≤ 8 ∧
  8 - x' < 8 - x ∧
  ofN x + 1 = ofN x' ∧
  List.set (iter (fun (t : List (BitVec 32)) (i : Nat) => List.set t i (List.getD t i 0#32 + List.getD s i 0#32)) x (rounds b s))
  (Int.toNat (ofN x))
  (List.getD (iter (fun (t : List (BitVec 32)) (i : Nat) => List.set t i (List.getD t i 0#32 + List.getD s i 0#32)) x (rounds b s))
  (Int.toNat (ofN x)) 0#32 +
  List.getD s (Int.toNat (ofN x)) 0#32) =
  iter (fun (t : List (BitVec 32)) (i : Nat) => List.set t i (List.getD t i 0#32 + List.getD s i 0#32)) x' (rounds b s)) ∧
  (decide (ofN x < 8) = false → iter (fun (t : List (BitVec 32)) (i : Nat) => List.set t i (List.getD t i 0#32 + List.getD s i 0#32)) x (rounds b s) = step s b)))) := by
 refine ⟨⟨0, by omega, rfl, rfl⟩, fun i hi => ⟨fun hc => ?_, fun hc => ⟨⟨0, by omega, rfl, ?_⟩, fun k hk => ⟨fun hc => ?_, fun hc => ?_⟩⟩⟩⟩
 · simp only [ofN, decide_eq_true_eq] at hc ⊢
   have e0 : (4 * (i : Int)).toNat = 4 * i := by omega
   have e1 : (4 * (i : Int) + 1).toNat = 4 * i + 1 := by omega
   have e2 : (4 * (i : Int) + 2).toNat = 4 * i + 2 := by omega
   have e3 : (4 * (i : Int) + 3).toNat = 4 * i + 3 := by omega
   rw [e0, e1, e2, e3, Int.toNat_natCast, word_mul]
   refine ⟨by unfold inI64; omega, by unfold within; omega, by unfold inI64; omega, by unfold inI64; omega, by unfold within; omega, by unfold inI64; omega, by unfold inI64; omega, by unfold within; omega, by unfold inI64; omega, by unfold inI64; omega, by unfold within; omega,
    by unfold within; omega, by unfold inI64; omega, i + 1, by omega, by omega, by omega, rfl⟩
 · simp only [ofN, decide_eq_false_iff_not] at hc
   have : i = 16 := by omega
   subst this
   rw [iter_zero]
   exact (sched16_def b).symm
 · simp only [ofN, decide_eq_true_eq] at hc ⊢
   have e0 : ((k + 16 : Nat) : Int).toNat = k + 16 := by omega
   have e15 : (((k + 16 : Nat) : Int) - 15).toNat = k + 1 := by omega
   have e2 : (((k + 16 : Nat) : Int) - 2).toNat = k + 14 := by omega
   have e16 : (((k + 16 : Nat) : Int) - 16).toNat = k := by omega
   have e7 : (((k + 16 : Nat) : Int) - 7).toNat = k + 9 := by omega
   have t7 : Int.toNat 7 = 7 := rfl
   have t18 : Int.toNat 18 = 18 := rfl
   have t3 : Int.toNat 3 = 3 := rfl
   have t17 : Int.toNat 17 = 17 := rfl
   have t19 : Int.toNat 19 = 19 := rfl
   have t10 : Int.toNat 10 = 10 := rfl
   rw [e0, e15, e2, e16, e7, t7, t18, t3, t17, t19, t10]
   refine ⟨by unfold inI64; omega, by unfold within; omega, by unfold inI64; omega, by unfold within; omega, ⟨by decide, by decide⟩, ⟨by decide, by decide⟩, ⟨by decide, by decide⟩, ⟨by decide, by decide⟩, ⟨by decide, by decide⟩, ⟨by decide, by decide⟩,
    by unfold inI64; omega, by unfold within; omega, by unfold inI64; omega, by unfold within; omega, by unfold within; omega, by unfold inI64; omega, k + 1, by omega, by omega, by omega, rfl⟩
 · simp only [ofN, decide_eq_false_iff_not] at hc
   have : k = 48 := by omega
   subst this
   rw [← sched_def]
   refine ⟨⟨0, by omega, rfl, rfl⟩, fun j hj => ⟨fun hc => ?_, fun hc => ⟨⟨0, by omega, rfl, ?_⟩, fun m hm => ⟨fun hc => ?_, fun hc => ?_⟩⟩⟩⟩
   · simp only [ofN, decide_eq_true_eq] at hc ⊢
     rw [Int.toNat_natCast]
     have last : ∃ (x' : Nat), x' ≤ 64 ∧ 64 - x' < 64 - j ∧ (j : Int) + 1 = (x' : Int) ∧ round (sched b) (iter (round (sched b)) j s) j = iter (round (sched b)) x' s := ⟨j + 1, by omega, by omega, by omega, rfl⟩
     and_intros
     all_goals first | exact last | omega | (unfold within; omega) | decide | (unfold inI64; omega)
   · simp only [ofN, decide_eq_false_iff_not] at hc
     have : j = 64 := by omega
     subst this
     rw [iter_zero]
     exact (rounds_def b s).symm
   · simp only [ofN, decide_eq_true_eq] at hc ⊢
     rw [Int.toNat_natCast]
     exact ⟨by unfold within; omega, by unfold within; omega, by unfold within; omega, by unfold inI64; omega, m + 1, by omega, by omega, by omega, rfl⟩
   · simp only [ofN, decide_eq_false_iff_not] at hc
     have : m = 8 := by omega
     subst this
     exact (step_def s b).symm

theorem ref03_Step_spec : Vse.Spec P f_ref03_Step c_Step :=
 spec_fn (l := [(f_ref03_right, c_rright), (f_ref03_moved, c_moved), (f_ref03_constants, c_shaConstants)]) ⟨ref03_right_spec, ref03_moved_spec, ref03_constants_spec, trivial⟩ h_ref03_Step rfl rfl
  fun x _ _ => body_ok (an_rStep x.1 x.2.1) (ref03_Step_vc x.1 x.2.1) (by kernel_rfl)

def an_rPad (n : BitVec 64) : Nat → SState → Option LoopAnn
 | 2, S => some { X := Nat, slots := fun k => [(3, .sv (.own 10 .u8 (128#8 :: List.replicate k 0#8)))], objs := fun _ => [(x_tok S 3, .gone), (10, .tok t_uint8 1)], inv := fun k => k ≤ zerosN n, meas := fun k => zerosN n - k }
 | 6, _ => some { X := Nat, slots := fun i => [(3, .sv (.own 11 .u8 (128#8 :: (List.replicate (zerosN n) 0#8 ++ (be8 (n * 8#64)).take i)))), (4, .sv (.dv (.u64 ((n * 8#64) <<< (8 * i))))), (5, .sv (.dv (.i64 i)))], objs := fun _ => [(10, .gone), (11, .tok t_uint8 1)], inv := fun i => i ≤ 8, meas := fun i => 8 - i }
 | _, _ => none

theorem ref03_Pad_vc (n : BitVec 64) :
 (∃ (x : Nat), x ≤ zerosN n ∧ [128#8] = 128#8 :: List.replicate x 0#8) ∧
  ∀ (x : Nat),
  x ≤ zerosN n →
  64#64 ≠ 0#64 ∧
  64#64 ≠ 0#64 ∧
  (((n % 64#64 + BitVec.ofInt 64 (ofN (List.length (128#8 :: List.replicate x 0#8))) + 8#64) % 64#64 != 0#64) = true →
  List.length (128#8 :: List.replicate x 0#8) + List.length [0#8] ≤ ROOM ∧
  ∃ (x' : Nat), x' ≤ zerosN n ∧ zerosN n - x' < zerosN n - x ∧ 128#8 :: List.replicate x 0#8 ++ [0#8] = 128#8 :: List.replicate x' 0#8) ∧
  (((n % 64#64 + BitVec.ofInt 64 (ofN (List.length (128#8 :: List.replicate x 0#8))) + 8#64) % 64#64 != 0#64) = false →
  (∃ (x_1 : Nat),
  x_1 ≤ 8 ∧ 128#8 :: List.replicate x 0#8 = 128#8 :: (List.replicate (zerosN n) 0#8 ++ List.take x_1 (be8 (n * 8#64))) ∧ n * 8#64 = (n * 8#64) <<< (8 * x_1) ∧ 0 = ofN x_1) ∧
  ∀ (x : Nat),
  x ≤ 8 →
  (decide (ofN x < 8) = true →
  72057594037927936#64 ≠ 0#64 ∧
  List.length (128#8 :: (List.replicate (zerosN n) 0#8 ++ List.take x (be8 (n * 8#64)))) + List.length [BitVec.setWidth 8 ((n * 8#64) <<< (8 * x) / 72057594037927936#64)] ≤
  ROOM ∧
  inI64 (ofN x + 1) ∧
  ∃ (x' : Nat),
  x' ≤ 8 ∧
  8 - x' < 8 - x ∧
  128#8 :: (List.replicate (zerosN n) 0#8 ++ List.take x (be8 (n * 8#64))) ++ [BitVec.setWidth 8 ((n * 8#64) <<< (8 * x) / 72057594037927936#64)] =
  128#8 :: (List.replicate (zerosN n) 0#8 ++ List.take x' (be8 (n * 8#64))) ∧
  (n * 8#64) <<< (8 * x) * 256#64 = (n * 8#64) <<< (8 * x') ∧ ofN x + 1 = ofN x') ∧
  (decide (ofN x < 8) = false → 128#8 :: (List.replicate (zerosN n) 0#8 ++ List.take x (be8 (n * 8#64))) = pad n)) := by
 have hz := zerosN_lt n
 refine ⟨⟨0, by omega, rfl⟩, fun k hk => ⟨by decide, by decide, fun hc => ?_, fun hc => ⟨⟨0, by omega, ?_, ?_, rfl⟩, fun i hi => ⟨fun hc => ?_, fun hc => ?_⟩⟩⟩⟩
 · simp only [ofN, List.length_cons, List.length_replicate] at hc ⊢
   rw [pad_cond n k hk, decide_eq_true_eq] at hc
   refine ⟨by simp only [ROOM]; simp; omega, k + 1, by omega, by omega, ?_⟩
   rw [List.replicate_succ']; rfl
 · simp only [ofN, List.length_cons, List.length_replicate] at hc
   rw [pad_cond n k hk, decide_eq_false_iff_not, Classical.not_not] at hc
   rw [hc]; simp
 · simp
 · simp only [ofN, decide_eq_true_eq] at hc ⊢
   refine ⟨by decide, by simp [ROOM, be8_length]; omega, by unfold inI64; omega, i + 1, by omega, by omega, ?_, shl8 _ _, by omega⟩
   rw [be8_snoc _ (by omega)]; simp
 · simp only [ofN, decide_eq_false_iff_not] at hc
   have : i = 8 := by omega
   subst this
   rw [List.take_of_length_le (by rw [be8_length]; omega)]; rfl

theorem ref03_Pad_spec : Vse.Spec P f_ref03_Pad c_Pad :=
 spec_fn (l := []) trivial h_ref03_Pad rfl rfl fun x _ _ => body_ok (an_rPad x.1) (ref03_Pad_vc x.1) (by kernel_rfl)

def c_rBytes : PC := D [T_St] [.arr 32 .u8] (fun _ => none) (fun x => (digest x.1, ()))

def an_rBytes (s : List W32) : Nat → SState → Option LoopAnn
 | 3, S => some { X := Nat, slots := fun i => [(4, .sv (.dv (.i64 i)))], objs := fun i => [(x_labAt S 3, .cells [.run (.many .u8 32 ((digest s).take i ++ List.replicate (32 - i) 0#8))] false)], inv := fun i => i ≤ 32, meas := fun i => 32 - i }
 | 7, S => some { X := Nat, slots := fun k => [(5, .sv (.dv (.u32 ((s.getD ((x_int S 4).toNat / 4) 0#32) >>> (8 * (k - (x_int S 4).toNat % 4)))))), (6, .sv (.dv (.i64 k)))], objs := fun _ => [], inv := fun k => (x_int S 4).toNat % 4 ≤ k ∧ k ≤ 3, meas := fun k => 3 - k }
 | _, _ => none

theorem ref03_Bytes_vc (s : List W32) :
 (∃ (x : Nat), x ≤ 32 ∧ 0 = ofN x ∧ List.replicate 32 0#8 = List.take x (digest s) ++ List.replicate (32 - x) 0#8) ∧
  ∀ (x : Nat),
  x ≤ 32 →
  (decide (ofN x < 32) = true →
  (ofN 4 ≠ 0 ∧ inI64 (Int.tdiv (ofN x) 4)) ∧
  within (Int.tdiv (ofN x) 4) 8 ∧
  ofN 4 ≠ 0 ∧
  (∃ (x_1 : Nat),
  (Int.toNat (ofN x) % 4 ≤ x_1 ∧ x_1 ≤ 3) ∧
  List.getD s (Int.toNat (Int.tdiv (ofN x) 4)) 0#32 = List.getD s (Int.toNat (ofN x) / 4) 0#32 >>> (8 * (x_1 - Int.toNat (ofN x) % 4)) ∧ Int.tmod (ofN x) 4 = ofN x_1) ∧
  ∀ (x_1 : Nat),
  Int.toNat (ofN x) % 4 ≤ x_1 ∧ x_1 ≤ 3 →
  (decide (ofN x_1 < 3) = true →
  256#32 ≠ 0#32 ∧
  inI64 (ofN x_1 + 1) ∧
  ∃ (x' : Nat),
  (Int.toNat (ofN x) % 4 ≤ x' ∧ x' ≤ 3) ∧
  3 - x' < 3 - x_1 ∧
  List.getD s (Int.toNat (ofN x) / 4) 0#32 >>> (8 * (x_1 - Int.toNat (ofN x) % 4)) / 256#32 =
  List.getD s (Int.toNat (ofN x) / 4) 0#32 >>> (8 * (x' - Int.toNat (ofN x) % 4)) ∧
  ofN x_1 + 1 = ofN x') ∧
  (decide (ofN x_1 < 3) = false →
  256#32 ≠ 0#32 ∧
  within (ofN x) 32 ∧
  inI64 (ofN x + 1) ∧
  ∃ (x' : Nat),
  x' ≤ 32 ∧
  32 - x' < 32 - x ∧
  ofN x + 1 = ofN x' ∧
  List.set (List.take x (digest s) ++ List.replicate (32 - x) 0#8) (Int.toNat (ofN x))
  (BitVec.setWidth 8 (List.getD s (Int.toNat (ofN x) / 4) 0#32 >>> (8 * (x_1 - Int.toNat (ofN x) % 4)) % 256#32)) =
  List.take x' (digest s) ++ List.replicate (32 - x') 0#8)) ∧
  (decide (ofN x < 32) = false → List.take x (digest s) ++ List.replicate (32 - x) 0#8 = digest s) := by
 have hd := digest_length s
 refine ⟨⟨0, by omega, rfl, by simp⟩, fun i hi => ⟨fun hc => ?_, fun hc => ?_⟩⟩
 · simp only [ofN, decide_eq_true_eq, Int.toNat_natCast] at hc ⊢
   have e4 : Int.tdiv (i : Int) 4 = ((i / 4 : Nat) : Int) := by rw [Int.tdiv_eq_ediv_of_nonneg (by omega)]; omega
   have e5 : Int.tmod (i : Int) 4 = ((i % 4 : Nat) : Int) := by rw [Int.tmod_eq_emod_of_nonneg (by omega)]; omega
   rw [e4, e5, Int.toNat_natCast]
   refine ⟨⟨by decide, by unfold inI64; omega⟩, by unfold within; omega, by decide, ⟨i % 4, ⟨by omega, by omega⟩, by simp, rfl⟩, fun k ⟨hk1, hk2⟩ => ⟨fun hc => ?_, fun hc => ?_⟩⟩
   · refine ⟨by decide, by unfold inI64; omega, k + 1, ⟨by omega, by omega⟩, by omega, ?_, by omega⟩
     rw [shr8]; congr 2; omega
   · have : k = 3 := by have := of_decide_eq_false hc; omega
     subst this
     refine ⟨by decide, by unfold within; omega, by unfold inI64; omega, i + 1, by omega, by omega, by omega, ?_⟩
     rw [low8]
     exact fill_set hd (by omega) (digest_getD s (by omega))
 · simp only [ofN, decide_eq_false_iff_not] at hc
   have : i = 32 := by omega
   subst this
   rw [List.take_of_length_le (by omega)]; simp

theorem ref03_Bytes_spec : Vse.Spec P f_ref03_Bytes c_rBytes :=
 spec_fn (l := []) trivial h_ref03_Bytes rfl rfl fun x _ _ => body_ok (an_rBytes x.1) (ref03_Bytes_vc x.1) (by kernel_rfl)

def an_rSum (l : List Bytes) (all : Bytes) : Nat → SState → Option LoopAnn
 | 3, _ => some { X := Nat, slots := fun i => [(3, .sv (.own 10 .u8 (l.take i).flatten)), (4, .sv (.dv (.i64 i)))], objs := fun _ => [(10, .tok t_uint8 1)], inv := fun i => i ≤ l.length, meas := fun i => l.length - i }
 | 9, S => some { X := Nat × List W32, slots := fun y => [(6, .sv (.dv (.i64 (64 * y.1 : Nat))))], objs := fun y => [(x_labAt S 5, .cells [.run (.many .u32 8 y.2)] false)], inv := fun y => 64 * y.1 ≤ all.length ∧ run y.2 (all.drop (64 * y.1)) = run start all, meas := fun y => all.length - 64 * y.1 }
 | 13, S => some { X := Nat, slots := fun j => [(8, .sv (.dv (.i64 j)))], objs := fun j => [(x_labAt S 7, .cells [.run (.many .u8 64 ((all.drop (x_int S 6).toNat).take j ++ List.replicate (64 - j) 0#8))] false)], inv := fun j => j ≤ 64, meas := fun j => 64 - j }
 | _, _ => none

theorem ref03_Sum_vc (l : List Bytes) (h : l.flatten.length ≤ 1073741824) (hlim : l.length ≤ LIM) :
 (∃ (x : Nat), x ≤ List.length l ∧ List.flatten (List.take x l) = nilOf (T.den T.u8) ∧ 0 = ofN x) ∧
  ∀ (x : Nat),
  x ≤ List.length l →
  (decide (ofN x < ofN (List.length l)) = true →
  within (ofN x) (List.length l) ∧
  List.length (List.flatten (List.take x l)) + List.length (List.getD l (Int.toNat (ofN x)) (T.dflt (T.slc T.u8))) ≤ ROOM ∧
  inI64 (ofN x + 1) ∧
  ∃ (x' : Nat),
  x' ≤ List.length l ∧
  List.length l - x' < List.length l - x ∧
  List.flatten (List.take x l) ++ List.getD l (Int.toNat (ofN x)) (T.dflt (T.slc T.u8)) = List.flatten (List.take x' l) ∧ ofN x + 1 = ofN x') ∧
  (decide (ofN x < ofN (List.length l)) = false →
  List.length (List.flatten (List.take x l)) + List.length (pad (BitVec.ofInt 64 (ofN (List.length (List.flatten (List.take x l)))))) ≤ ROOM ∧
  (∃ (x : Nat × List (BitVec 32)),
  (64 * x.1 ≤ List.length (List.flatten l ++ pad (BitVec.ofNat 64 (List.length (List.flatten l)))) ∧
  run x.2 (List.drop (64 * x.1) (List.flatten l ++ pad (BitVec.ofNat 64 (List.length (List.flatten l))))) =
  run start (List.flatten l ++ pad (BitVec.ofNat 64 (List.length (List.flatten l))))) ∧
  0 = ofN (64 * x.1) ∧ start = x.2) ∧
  ∀ (x_1 : Nat × List (BitVec 32)),
  64 * x_1.1 ≤ List.length (List.flatten l ++ pad (BitVec.ofNat 64 (List.length (List.flatten l)))) ∧
  run x_1.2 (List.drop (64 * x_1.1) (List.flatten l ++ pad (BitVec.ofNat 64 (List.length (List.flatten l))))) =
  run start (List.flatten l ++ pad (BitVec.ofNat 64 (List.length (List.flatten l)))) →
  inI64 (ofN (64 * x_1.1) + 64) ∧
  (decide (ofN (64 * x_1.1) + 64 ≤ ofN (List.length (List.flatten (List.take x l) ++ pad (BitVec.ofInt 64 (ofN (List.length (List.flatten (List.take x l)))))))) = true →
  (∃ (x : Nat),
  x ≤ 64 ∧
  0 = ofN x ∧
  List.replicate 64 0#8 =
  List.take x (List.drop (Int.toNat (ofN (64 * x_1.1))) (List.flatten l ++ pad (BitVec.ofNat 64 (List.length (List.flatten l))))) ++ List.replicate (64 - x) 0#8) ∧
  ∀ (x_2 : Nat),
  x_2 ≤ 64 →
  (decide (ofN x_2 < 64) = true →
  inI64 (ofN (64 * x_1.1) + ofN x_2) ∧
  within (ofN (64 * x_1.1) + ofN x_2) (List.length (List.flatten (List.take x l) ++ pad (BitVec.ofInt 64 (ofN (List.length (List.flatten (List.take x l))))))) ∧
  within (ofN x_2) 64 ∧
  inI64 (ofN x_2 + 1) ∧
  ∃ (x' : Nat),
  x' ≤ 64 ∧
  64 - x' < 64 - x_2 ∧
  ofN x_2 + 1 = ofN x' ∧
  List.set
  (List.take x_2 (List.drop (Int.toNat (ofN (64 * x_1.1))) (List.flatten l ++ pad (BitVec.ofNat 64 (List.length (List.flatten l))))) ++
  List.replicate (64 - x_2) 0#8)
  (Int.toNat (ofN x_2))
  (List.getD (List.flatten (List.take x l) ++ pad (BitVec.ofInt 64 (ofN (List.length (List.flatten (List.take x l))))))
  (Int.toNat (ofN (64 * x_1.1) + ofN x_2)) 0#8) =
  List.take x' (List.drop (Int.toNat (ofN (64 * x_1.1))) (List.flatten l ++ pad (BitVec.ofNat 64 (List.length (List.flatten l))))) ++
  List.replicate (64 - x') 0#8) ∧
  (decide (ofN x_2 < 64) = false →
  inI64 (ofN (64 * x_1.1) + 64) ∧
  ∃ (x' : Nat × List (BitVec 32)),
  (64 * x'.1 ≤ List.length (List.flatten l ++ pad (BitVec.ofNat 64 (List.length (List.flatten l)))) ∧
  run x'.2 (List.drop (64 * x'.1) (List.flatten l ++ pad (BitVec.ofNat 64 (List.length (List.flatten l))))) =
  run start (List.flatten l ++ pad (BitVec.ofNat 64 (List.length (List.flatten l))))) ∧
  List.length (List.flatten l ++ pad (BitVec.ofNat 64 (List.length (List.flatten l)))) - 64 * x'.1 <
  List.length (List.flatten l ++ pad (BitVec.ofNat 64 (List.length (List.flatten l)))) - 64 * x_1.1 ∧
  ofN (64 * x_1.1) + 64 = ofN (64 * x'.1) ∧
  step x_1.2
  (List.take x_2 (List.drop (Int.toNat (ofN (64 * x_1.1))) (List.flatten l ++ pad (BitVec.ofNat 64 (List.length (List.flatten l))))) ++
  List.replicate (64 - x_2) 0#8) =
  x'.2)) ∧
  (decide (ofN (64 * x_1.1) + 64 ≤ ofN (List.length (List.flatten (List.take x l) ++ pad (BitVec.ofInt 64 (ofN (List.length (List.flatten (List.take x l)))))))) = false →
  digest x_1.2 = sha (List.flatten l))) := by
 have hl63 : l.length ≤ 9223372036854775807 := hlim
 refine ⟨⟨0, by omega, rfl, rfl⟩, fun i hi => ⟨fun hc => ?_, fun hc => ?_⟩⟩
 · simp only [ofN, decide_eq_true_eq, Int.ofNat_lt, Int.toNat_natCast] at hc ⊢
   have hx : l.getD i (T.dflt (T.slc T.u8)) = l[i] := by simp [List.getD_eq_getElem?_getD, hc]
   have hlen : (l.take i).flatten.length + (l[i]).length ≤ 1073741824 := by
    have e : l.flatten = (l.take (i + 1)).flatten ++ (l.drop (i + 1)).flatten := by rw [← List.flatten_append, List.take_append_drop]
    rw [e, List.take_succ_eq_append_getElem hc, List.flatten_append, List.length_append, List.length_append] at h
    simp only [List.flatten_cons, List.flatten_nil, List.append_nil] at h
    omega
   rw [hx]
   refine ⟨by unfold within; omega, by simp only [ROOM]; omega, by unfold inI64; omega, i + 1, by omega, by omega, ?_, by omega⟩
   rw [List.take_succ_eq_append_getElem hc, List.flatten_append]
   simp only [List.flatten_cons, List.flatten_nil, List.append_nil]
 · simp only [ofN, decide_eq_false_iff_not, Int.ofNat_lt] at hc ⊢
   have : i = l.length := by omega
   subst this
   rw [List.take_of_length_le (Nat.le_refl _), BitVec.ofInt_natCast]
   have hsha : sha l.flatten = digest (run start (l.flatten ++ pad (BitVec.ofNat 64 l.flatten.length))) := rfl
   rw [hsha]
   have hal : (l.flatten ++ pad (BitVec.ofNat 64 l.flatten.length)).length ≤ 1073741824 + 73 := by
    have := zerosN_lt (BitVec.ofNat 64 l.flatten.length)
    rw [List.length_append, pad_length]; omega
   have hroom : l.flatten.length + (pad (BitVec.ofNat 64 l.flatten.length)).length ≤ ROOM := by
    rw [← List.length_append]; simp only [ROOM]; omega
   generalize l.flatten ++ pad (BitVec.ofNat 64 l.flatten.length) = all at hal ⊢
   refine ⟨hroom, ⟨(0, start), ⟨by simp, by simp⟩, rfl, rfl⟩, fun ⟨k, st⟩ ⟨h1, h2⟩ => ⟨?_, fun hc => ⟨⟨0, by omega, rfl, by simp⟩, fun j hj => ⟨fun hc2 => ?_, fun hc2 => ?_⟩⟩, fun hc => ?_⟩⟩
   · simp only at h1 ⊢; unfold inI64; omega
   · simp only [decide_eq_true_eq] at h1 h2 hc hc2 ⊢
     have e1 : (((64 * k : Nat) : Int) + (j : Int)).toNat = 64 * k + j := by omega
     rw [e1, Int.toNat_natCast]
     refine ⟨by unfold inI64; omega, by unfold within; omega, by unfold within; omega, by unfold inI64; omega, j + 1, by omega, by omega, by omega, ?_⟩
     rw [Int.toNat_natCast]
     have e2 : all.getD (64 * k + j) 0#8 = (all.drop (64 * k)).getD j 0#8 := by simp [List.getD_eq_getElem?_getD]
     rw [e2]
     have hjl : j < (all.drop (64 * k)).length := by simp; omega
     rw [take_snoc hjl, List.set_append_right _ _ (by simp; omega)]
     have e3 : (List.take j (all.drop (64 * k))).length = j := by simp; omega
     rw [e3, Nat.sub_self, show 64 - j = 64 - (j + 1) + 1 by omega, List.replicate_succ, List.set_cons_zero]
     simp
   · simp only [decide_eq_true_eq, decide_eq_false_iff_not] at h1 h2 hc hc2 ⊢
     have : j = 64 := by omega
     subst this
     refine ⟨by unfold inI64; omega, (k + 1, step st ((all.drop (64 * k)).take 64)), ⟨by simp only; omega, ?_⟩, by simp only; omega, by simp only; omega, ?_⟩
     · simp only
       rw [← h2, run_big (b := all.drop (64 * k)) (by simp; omega), List.drop_drop]
       congr 2
     · rw [Int.toNat_natCast]; simp
   · simp only [decide_eq_false_iff_not] at h1 h2 hc ⊢
     rw [← h2, run_small (by simp; omega)]

theorem ref03_Sum_spec : Vse.Spec P f_ref03_Sum c_shaSum :=
 spec_fn (l := [(f_ref03_Pad, c_Pad), (f_ref03_Start, c_shaStart), (f_ref03_Step, c_Step), (f_ref03_Bytes, c_rBytes)]) ⟨ref03_Pad_spec, ref03_Start_spec, ref03_Step_spec, ref03_Bytes_spec, trivial⟩ h_ref03_Sum rfl rfl
  fun x h ok => body_ok (an_rSum x.1 (x.1.flatten ++ pad (BitVec.ofNat 64 x.1.flatten.length))) (ref03_Sum_vc x.1 (got h) ok.1.1) (by kernel_rfl)

end Go.Sal
