/- Contracts of merkle's trees and of ref27's. -/
import Derived.Test.YtdddnamfecgkeaaDoorWCEnd27
import Derived.Test.YtdddnamfecgkeaaDoorWCLay
import Derived.Test.YtdddnamfecgkeaaDoorWVseRange
import Derived.Test.YtdddnamfecgkeaaDoorWVseGx
import Derived.Test.YtdddnamfecgkeaaDoorWSalTre
set_option maxRecDepth 100000
namespace Go.Sal
open Go.Vse Go.Sal.Nm

abbrev OFt : List OF := [.dat .i64, .dat (.slc T_Dig), .dat .bool]
abbrev OFr : List OF := [.dat .i64, .dat (.slc T_Dig)]
def c_tz : PC := D [.u64] [.i64] (fun _ => none) (fun x => (((tzN x.1.toNat : Nat) : Int), ()))
def c_onesC : PC := D [.u64] [.i64] (fun x => some (x.1.toNat ≤ 1048576)) (fun x => (((popc x.1.toNat : Nat) : Int), ()))
def c_onesR : PC := D [.i64] [.i64] (fun x => some (leP 0 x.1 ∧ leP x.1 1048576)) (fun x => (((popc x.1.toNat : Nat) : Int), ()))
def an_onesR (n : Nat) : Nat → SState → Option LoopAnn
 | 2, _ => some { X := Nat × Nat, slots := fun y => [(0, .sv (.dv (.i64 (ofN y.1)))), (3, .sv (.dv (.i64 (ofN y.2))))], objs := fun _ => [], inv := fun y => y.1 ≤ n ∧ y.2 + popc y.1 = popc n, meas := fun y => y.1 }
 | _, _ => none
def c_ClnD : PC := D [.slc T_Dig] [.slc T_Dig] (fun x => some (x.1.length ≤ 100000000)) (fun x => (x.1, ()))
def an_pins1 : Ann := { at_ := fun _ _ => none, pins := [1], prune := 1 }
def an_pins0 : Ann := { at_ := fun _ _ => none, pins := [], prune := 1 }
def c_isT : PC := keepG [1] (gM OFt [] fun s _ => ⟨some (eqP s.2.2.1 true), .sv (.dv (.bool true)), oObj OFt 2 s⟩)
def c_LenT : PC := keepG [1] (gM OFt [] fun s _ => ⟨some (eqP s.2.2.1 true), .sv (.dv (.i64 s.1)), oObj OFt 2 s⟩)
def c_PeaksT : PC := keepG [1] (gM OFt [] fun s _ => ⟨some (eqP s.2.2.1 true ∧ s.2.1.length ≤ 100), .sv (.dv (.imm T_Dig s.2.1)), oObj OFt 2 s⟩)
def c_NewT : PC := gF [] fun _ => ⟨none, .sv (.ref (.cell 1 [] 0)), oObj OFt 12 (0, [], true, ())⟩
def okLd (n : Int) (ps : List Dig) : Prop := 0 ≤ n ∧ n ≤ 1048576 ∧ ps.length = popc n.toNat
def c_LoadT : PC := gF [.i64, .slc T_Dig] fun x => ⟨some (okLd x.1 x.2.1 ∧ x.2.1.length ≤ 100), .tup [.ref (.cell 1 [] 0), .dv (.i64 0)], oObj OFt 12 (x.1, x.2.1, true, ())⟩
def c_LoadR : PC := gF [.i64, .slc T_Dig] fun x => ⟨some (okLd x.1 x.2.1 ∧ x.2.1.length ≤ 100), .tup [.ref (.cell 1 [] 0), .dv (.i64 0)], oObj OFr 12 (x.1, x.2.1, ())⟩
def c_LoadTn : PC := gF [.i64, .slc T_Dig] fun x => ⟨some (¬ okLd x.1 x.2.1), .tup [.dv (.cst (.pointer none)), .dv (.i64 270)], []⟩
def c_LoadRn : PC := gF [.i64, .slc T_Dig] fun x => ⟨some (¬ okLd x.1 x.2.1), .tup [.dv (.cst (.pointer none)), .dv (.i64 270)], []⟩
def x_rdT (ins : List SV) (heap : List (Nat × SObj)) : Option (ofds OFt) := match ins, heap with
 | [.ref (.cell 1 [] 0)], (1, .cells cs false) :: hp => dObj OFt 2 cs hp
 | _, _ => none
def x_tIn : List SV := [.ref (.cell 1 [] 0)]
def c_back : PC := gX [false] x_rdT fun s => ⟨none, .sv (.clr f_merkle_Tree_back_f1 [.ref (.cell 9 [] 0)]), app (oObj OFt 2 s) [(9, .cells [.ref (.cell 1 [] 0)] false)]⟩
def an_back : Ann := { at_ := fun _ _ => none, pins := [1], rows := [1002 + STRIDE * 11] }
noncomputable def x_its : List (FuncId × Func) := [(f_merkle_Tree_back_f1, b_merkle_Tree_back_f1)]
def rootK (ps : List Dig) (k : Nat) : Dig := if ps.length ≤ k then zero32 else rootR (ps.drop k)
def okT' (n : Int) (ps : List Dig) : Prop := 0 ≤ n ∧ n ≤ 1048576 ∧ ps.length = popc n.toNat
def c_RootT : PC := keepG [1] (gX [false] x_rdT fun s => ⟨some (eqP s.2.2.1 true ∧ okT' s.1 s.2.1), .tup [svOfT T_Dig (rootR s.2.1), .dv (.i64 0)], oObj OFt 2 s⟩)
def an_RootL (ps : List Dig) : Nat → SState → Option LoopAnn
 | 1000001, S => some { X := Nat, slots := fun k => [(3, .sv (.dv (.i64 (ofN k - 1))))], objs := fun k => [(x_labAt S 28, .cells [.run (.many .u8 32 (rootK ps k))] false), (x_labAt S 29, .cells [.run (.one (.bool (decide (k < ps.length))))] false)], inv := fun k => k ≤ ps.length, meas := fun k => k }
 | _, _ => none
def an_Root (ps : List Dig) : Ann := { at_ := an_RootL ps, pins := [1], prune := 1 }
def x_rdP (ins : List SV) (heap : List (Nat × SObj)) : Option (Dig × ofds OFt) := match ins, heap with
 | [.ref (.cell 1 [] 0), a], (1, .cells cs false) :: hp => match decArg T_Dig a, dObj OFt 2 cs hp with
   | some d, some s => some (d, s)
   | _, _ => none
 | _, _ => none
def pushN (n : Int) : Int := if n < 1048576 then n + 1 else n
def pushP (n : Int) (ps : List Dig) (leaf : Dig) : List Dig := if n < 1048576 then pushV ps leaf (tones n.toNat) else ps
def pushE (n : Int) : Int := if n < 1048576 then 0 else 3
def c_PushT : PC := gX [false, true] x_rdP fun x => ⟨some (eqP x.2.2.2.1 true ∧ okT' x.2.1 x.2.2.1), .sv (.dv (.i64 (pushE x.2.1))), oObj OFt 2 (pushN x.2.1, pushP x.2.1 x.2.2.1 x.1, true, ())⟩
def an_PushL (ps : List Dig) (leaf : Dig) (t : Nat) : Nat → SState → Option LoopAnn
 | 1000001, S => some { X := Nat, slots := fun j => [(3, .sv (.dv (.i64 (ofN (ps.length - j) - 1))))], objs := fun j => [(x_labAt S 27, .cells [.run (.many .u8 32 (joinL (ps.drop (ps.length - j)) leaf))] false), (x_labAt S 29, .cells [.run (.one (.i64 (ofN (t - j))))] false)], inv := fun j => j ≤ t, meas := fun j => t + 1 - j }
 | _, _ => none
def an_Push (ps : List Dig) (leaf : Dig) (t : Nat) : Ann := { at_ := an_PushL ps leaf t, pins := [1], prune := 1 }

theorem popc_le (n : Nat) : popc n ≤ n := by
 induction n using Nat.strongRecOn with
 | _ n ih =>
   rw [popc_step]
   by_cases h : n = 0
   · subst h; rw [show (0 : Nat) / 2 = 0 from rfl, popc_zero]; decide
   · have := ih (n / 2) (by omega)
     omega

theorem bits_OnesCount64_vc (x : BitVec 64) (h : x.toNat ≤ 1048576) :
 BitVec.toInt
  (BitVec.ofInt 64
  (BitVec.toInt
  (BitVec.setWidth 64
  ((((((x >>> BitVec.toNat 1#64 &&& 6148914691236517205#64) + (x &&& 6148914691236517205#64)) >>> BitVec.toNat 2#64 &&& 3689348814741910323#64) +
  ((x >>> BitVec.toNat 1#64 &&& 6148914691236517205#64) + (x &&& 6148914691236517205#64) &&& 3689348814741910323#64)) >>>
  BitVec.toNat 4#64 +
  ((((x >>> BitVec.toNat 1#64 &&& 6148914691236517205#64) + (x &&& 6148914691236517205#64)) >>> BitVec.toNat 2#64 &&& 3689348814741910323#64) +
  ((x >>> BitVec.toNat 1#64 &&& 6148914691236517205#64) + (x &&& 6148914691236517205#64) &&& 3689348814741910323#64)) &&&
  1085102592571150095#64) +
  (((((x >>> BitVec.toNat 1#64 &&& 6148914691236517205#64) + (x &&& 6148914691236517205#64)) >>> BitVec.toNat 2#64 &&& 3689348814741910323#64) +
  ((x >>> BitVec.toNat 1#64 &&& 6148914691236517205#64) + (x &&& 6148914691236517205#64) &&& 3689348814741910323#64)) >>>
  BitVec.toNat 4#64 +
  ((((x >>> BitVec.toNat 1#64 &&& 6148914691236517205#64) + (x &&& 6148914691236517205#64)) >>> BitVec.toNat 2#64 &&& 3689348814741910323#64) +
  ((x >>> BitVec.toNat 1#64 &&& 6148914691236517205#64) + (x &&& 6148914691236517205#64) &&& 3689348814741910323#64)) &&&
  1085102592571150095#64) >>>
  BitVec.toNat 8#64 +
  ((((((x >>> BitVec.toNat 1#64 &&& 6148914691236517205#64) + (x &&& 6148914691236517205#64)) >>> BitVec.toNat 2#64 &&& 3689348814741910323#64) +
  ((x >>> BitVec.toNat 1#64 &&& 6148914691236517205#64) + (x &&& 6148914691236517205#64) &&& 3689348814741910323#64)) >>>
  BitVec.toNat 4#64 +
  ((((x >>> BitVec.toNat 1#64 &&& 6148914691236517205#64) + (x &&& 6148914691236517205#64)) >>> BitVec.toNat 2#64 &&& 3689348814741910323#64) +
  ((x >>> BitVec.toNat 1#64 &&& 6148914691236517205#64) + (x &&& 6148914691236517205#64) &&& 3689348814741910323#64)) &&&
  1085102592571150095#64) +
  (((((x >>> BitVec.toNat 1#64 &&& 6148914691236517205#64) + (x &&& 6148914691236517205#64)) >>> BitVec.toNat 2#64 &&& 3689348814741910323#64) +
  ((x >>> BitVec.toNat 1#64 &&& 6148914691236517205#64) + (x &&& 6148914691236517205#64) &&& 3689348814741910323#64)) >>>
  BitVec.toNat 4#64 +
  ((((x >>> BitVec.toNat 1#64 &&& 6148914691236517205#64) + (x &&& 6148914691236517205#64)) >>> BitVec.toNat 2#64 &&& 3689348814741910323#64) +
  ((x >>> BitVec.toNat 1#64 &&& 6148914691236517205#64) + (x &&& 6148914691236517205#64) &&& 3689348814741910323#64)) &&&
  1085102592571150095#64) >>>
  BitVec.toNat 8#64) >>>
  BitVec.toNat 16#64 +
  ((((((x >>> BitVec.toNat 1#64 &&& 6148914691236517205#64) + (x &&& 6148914691236517205#64)) >>> BitVec.toNat 2#64 &&& 3689348814741910323#64) +
  ((x >>> BitVec.toNat 1#64 &&& 6148914691236517205#64) + (x &&& 6148914691236517205#64) &&& 3689348814741910323#64)) >>>
  BitVec.toNat 4#64 +
  ((((x >>> BitVec.toNat 1#64 &&& 6148914691236517205#64) + (x &&& 6148914691236517205#64)) >>> BitVec.toNat 2#64 &&& 3689348814741910323#64) +
  ((x >>> BitVec.toNat 1#64 &&& 6148914691236517205#64) + (x &&& 6148914691236517205#64) &&& 3689348814741910323#64)) &&&
  1085102592571150095#64) +
  (((((x >>> BitVec.toNat 1#64 &&& 6148914691236517205#64) + (x &&& 6148914691236517205#64)) >>> BitVec.toNat 2#64 &&& 3689348814741910323#64) +
  ((x >>> BitVec.toNat 1#64 &&& 6148914691236517205#64) + (x &&& 6148914691236517205#64) &&& 3689348814741910323#64)) >>>
  BitVec.toNat 4#64 +
  ((((x >>> BitVec.toNat 1#64 &&& 6148914691236517205#64) + (x &&& 6148914691236517205#64)) >>> BitVec.toNat 2#64 &&& 3689348814741910323#64) +
  ((x >>> BitVec.toNat 1#64 &&& 6148914691236517205#64) + (x &&& 6148914691236517205#64) &&& 3689348814741910323#64)) &&&
  1085102592571150095#64) >>>
  BitVec.toNat 8#64 +
  ((((((x >>> BitVec.toNat 1#64 &&& 6148914691236517205#64) + (x &&& 6148914691236517205#64)) >>> BitVec.toNat 2#64 &&& 3689348814741910323#64) +
  ((x >>> BitVec.toNat 1#64 &&& 6148914691236517205#64) + (x &&& 6148914691236517205#64) &&& 3689348814741910323#64)) >>>
  BitVec.toNat 4#64 +
  ((((x >>> BitVec.toNat 1#64 &&& 6148914691236517205#64) + (x &&& 6148914691236517205#64)) >>> BitVec.toNat 2#64 &&& 3689348814741910323#64) +
  ((x >>> BitVec.toNat 1#64 &&& 6148914691236517205#64) + (x &&& 6148914691236517205#64) &&& 3689348814741910323#64)) &&&
  1085102592571150095#64) +
  (((((x >>> BitVec.toNat 1#64 &&& 6148914691236517205#64) + (x &&& 6148914691236517205#64)) >>> BitVec.toNat 2#64 &&& 3689348814741910323#64) +
  ((x >>> BitVec.toNat 1#64 &&& 6148914691236517205#64) + (x &&& 6148914691236517205#64) &&& 3689348814741910323#64)) >>>
  BitVec.toNat 4#64 +
  ((((x >>> BitVec.toNat 1#64 &&& 6148914691236517205#64) + (x &&& 6148914691236517205#64)) >>> BitVec.toNat 2#64 &&& 3689348814741910323#64) +
  ((x >>> BitVec.toNat 1#64 &&& 6148914691236517205#64) + (x &&& 6148914691236517205#64) &&& 3689348814741910323#64)) &&&
  1085102592571150095#64) >>>
  BitVec.toNat 8#64) >>>
  BitVec.toNat 16#64) >>>
  BitVec.toNat 32#64))) &&&
  127#64) =
  ofN (popc (BitVec.toNat x)) := by
 exact ones_bv h

theorem bits_OnesCount_vc (x : BitVec 64) (h : x.toNat ≤ 1048576) :
 (false = true → False) ∧ (false = false → BitVec.toNat x ≤ 1048576 ∧ ofN (popc (BitVec.toNat x)) = ofN (popc (BitVec.toNat x))) := by
 exact ⟨fun h => absurd h Bool.false_ne_true, fun _ => ⟨h, rfl⟩⟩

theorem ref27_ones_vc (n : Int) (h0 : 0 ≤ n) (h1 : n ≤ 1048576) :
 (∃ (x : Nat × Nat), (x.1 ≤ Int.toNat n ∧ x.2 + popc x.1 = popc (Int.toNat n)) ∧ n = ofN x.1 ∧ 0 = ofN x.2) ∧
  ∀ (x : Nat × Nat),
  x.1 ≤ Int.toNat n ∧ x.2 + popc x.1 = popc (Int.toNat n) →
  (decide (0 < ofN x.1) = true →
  ofN 2 ≠ 0 ∧
  inI64 (ofN x.2 + Int.tmod (ofN x.1) 2) ∧
  (ofN 2 ≠ 0 ∧ inI64 (Int.tdiv (ofN x.1) 2)) ∧
  ∃ (x' : Nat × Nat), (x'.1 ≤ Int.toNat n ∧ x'.2 + popc x'.1 = popc (Int.toNat n)) ∧ x'.1 < x.1 ∧ Int.tdiv (ofN x.1) 2 = ofN x'.1 ∧ ofN x.2 + Int.tmod (ofN x.1) 2 = ofN x'.2) ∧
  (decide (0 < ofN x.1) = false → ofN x.2 = ofN (popc (Int.toNat n))) := by
 refine ⟨⟨(n.toNat, 0), ⟨Nat.le_refl _, by simp⟩, by show n = ((n.toNat : Nat) : Int); omega, rfl⟩, fun y hy => ⟨fun c => ?_, fun c => ?_⟩⟩
 · obtain ⟨a, k⟩ := y
   simp only at hy c ⊢
   obtain ⟨ha, hk⟩ := hy
   have c : (0 : Int) < (a : Int) := of_decide_eq_true c
   have hl := popc_le n.toNat
   have e1 : Int.tmod (ofN a) 2 = ofN (a % 2) := by
    show Int.tmod (a : Int) 2 = ((a % 2 : Nat) : Int)
    rw [Int.tmod_eq_emod_of_nonneg (by omega)]; omega
   have e2 : Int.tdiv (ofN a) 2 = ofN (a / 2) := by
    show Int.tdiv (a : Int) 2 = ((a / 2 : Nat) : Int)
    rw [Int.tdiv_eq_ediv_of_nonneg (by omega)]; omega
   have hs := popc_step a
   rw [e1, e2]
   refine ⟨by decide, by show inI64 ((k : Int) + ((a % 2 : Nat) : Int)); unfold inI64; omega, ⟨by decide, by show inI64 ((a / 2 : Nat) : Int); unfold inI64; omega⟩, (a / 2, k + a % 2), ⟨by simp only; omega, by simp only; omega⟩, by simp only; omega, rfl, ?_⟩
   show (k : Int) + ((a % 2 : Nat) : Int) = ((k + a % 2 : Nat) : Int)
   omega
 · obtain ⟨a, k⟩ := y
   simp only at hy c ⊢
   have c : ¬ (0 : Int) < (a : Int) := of_decide_eq_false c
   have : a = 0 := by omega
   subst this
   rw [popc_zero] at hy
   rw [← hy.2]; rfl

theorem slices_ClnD_vc (l : List Dig) (h : l.length ≤ 100000000) :
 ∀ (q : Bool),
  (q = true → l = nilOf (T.den (T.arr 32 T.u8))) →
  ((q == true) = true → nilOf (List (BitVec 8)) = l) ∧ ((q == true) = false → List.length (nilOf (List (BitVec 8))) + List.length l ≤ ROOM ∧ nilOf (List (BitVec 8)) ++ l = l) := by
 intro q hq
 refine ⟨fun c => ?_, fun c => ⟨by show 0 + l.length ≤ 4294967296; omega, rfl⟩⟩
 exact (hq (by simpa using c)).symm

theorem merkle_isT_vc (n : Int) (ps : List Dig) :
 true = true ∧ n = n ∧ ps = ps ∧ true = true := by
 exact ⟨rfl, rfl, rfl, rfl⟩

theorem merkle_LenT_vc (n : Int) (ps : List Dig) :
 (true = true ∧
  SObj.cells [SC.run (Run.one (DV.i64 n)), SC.run (Run.one (DV.imm (T.arr 32 T.u8) ps)), SC.run (Run.one (DV.bool true))] false =
  SObj.cells [SC.run (Run.one (DV.i64 n)), SC.run (Run.one (DV.imm (T.arr 32 T.u8) ps)), SC.run (Run.one (DV.bool true))] false) ∧
  (false = true → 0 = n ∧ n = n ∧ ps = ps ∧ true = true) ∧ (false = false → n = n ∧ n = n ∧ ps = ps ∧ true = true) := by
 exact ⟨⟨rfl, rfl⟩, fun h => absurd h Bool.false_ne_true, fun _ => ⟨rfl, rfl, rfl, rfl⟩⟩

theorem merkle_PeaksT_vc (n : Int) (ps : List Dig) (h : ps.length ≤ 100) :
 (true = true ∧
  SObj.cells [SC.run (Run.one (DV.i64 n)), SC.run (Run.one (DV.imm (T.arr 32 T.u8) ps)), SC.run (Run.one (DV.bool true))] false =
  SObj.cells [SC.run (Run.one (DV.i64 n)), SC.run (Run.one (DV.imm (T.arr 32 T.u8) ps)), SC.run (Run.one (DV.bool true))] false) ∧
  (false = true → nilOf (List (BitVec 8)) = ps ∧ n = n ∧ ps = ps ∧ true = true) ∧ (false = false → List.length ps ≤ 100000000 ∧ ps = ps ∧ n = n ∧ ps = ps ∧ true = true) := by
 exact ⟨⟨rfl, rfl⟩, fun h => absurd h Bool.false_ne_true, fun _ => ⟨by omega, rfl, rfl, rfl, rfl⟩⟩

theorem merkle_NewT_vc :
 ofN 0 = 0 ∧ nilOf (List (BitVec 8)) = nilOf (List (BitVec 8)) ∧ true = true := by
 exact ⟨rfl, rfl, rfl⟩

theorem merkle_LoadT_vc (n : Int) (ps : List Dig) (h : okLd n ps) (hl : ps.length ≤ 100) :
 ((decide (n < 0) || decide (1048576 < n)) = false → BitVec.toNat (BitVec.ofInt 64 n) ≤ 1048576) ∧
  ((decide (n < 0) || decide (1048576 < n) || ofN (List.length ps) != ofN (popc (BitVec.toNat (BitVec.ofInt 64 n)))) = true → False) ∧
  ((decide (n < 0) || decide (1048576 < n) || ofN (List.length ps) != ofN (popc (BitVec.toNat (BitVec.ofInt 64 n)))) = false → List.length ps ≤ 100000000 ∧ ofN 0 = 0 ∧ n = n ∧ ps = ps ∧ true = true) := by
 obtain ⟨h0, h1, h2⟩ := h
 rw [toNat64 h0 (by omega)]
 refine ⟨fun _ => by omega, fun c => ?_, fun c => ⟨by omega, rfl, rfl, rfl, rfl⟩⟩
 rw [← h2] at c
 simp only [bne_self_eq_false, Bool.or_false, Bool.or_eq_true, decide_eq_true_eq] at c
 omega

theorem merkle_LoadTn_vc (n : Int) (ps : List Dig) (h : ¬ okLd n ps) :
 ((decide (n < 0) || decide (1048576 < n)) = false → BitVec.toNat (BitVec.ofInt 64 n) ≤ 1048576) ∧
  ((decide (n < 0) || decide (1048576 < n) || ofN (List.length ps) != ofN (popc (BitVec.toNat (BitVec.ofInt 64 n)))) = true → ofN 270 = 270) ∧
  ((decide (n < 0) || decide (1048576 < n) || ofN (List.length ps) != ofN (popc (BitVec.toNat (BitVec.ofInt 64 n)))) = false → List.length ps ≤ 100000000 ∧ False) := by
 have hb : (decide (n < 0) || decide (1048576 < n)) = false → (0 : Int) ≤ n ∧ n ≤ 1048576 := fun c => by
  simp only [Bool.or_eq_false_iff, decide_eq_false_iff_not] at c; omega
 refine ⟨fun c => by have := hb c; rw [toNat64 (by omega) (by omega)]; omega, fun _ => rfl, fun c => ?_⟩
 have hc : (decide (n < 0) || decide (1048576 < n)) = false ∧ (ofN (List.length ps) != ofN (popc (BitVec.toNat (BitVec.ofInt 64 n)))) = false := by
  rwa [Bool.or_eq_false_iff] at c
 obtain ⟨h0, h1⟩ := hb hc.1
 have h3 : ps.length = popc n.toNat := by
  have h4 := bne_eq_false_iff_eq.1 hc.2
  rw [toNat64 h0 (by omega)] at h4
  exact Int.ofNat.inj h4
 exact absurd ⟨h0, h1, h3⟩ h

theorem ref27_LoadR_vc (n : Int) (ps : List Dig) (h : okLd n ps) (hl : ps.length ≤ 100) :
 ((decide (n < 0) || decide (1048576 < n)) = false → 0 ≤ n ∧ n ≤ 1048576) ∧
  ((decide (n < 0) || decide (1048576 < n) || ofN (List.length ps) != ofN (popc (Int.toNat n))) = true → False) ∧
  ((decide (n < 0) || decide (1048576 < n) || ofN (List.length ps) != ofN (popc (Int.toNat n))) = false →
  List.length (nilOf (List (BitVec 8))) + List.length ps ≤ ROOM ∧ ofN 0 = 0 ∧ n = n ∧ nilOf (List (BitVec 8)) ++ ps = ps) := by
 obtain ⟨h0, h1, h2⟩ := h
 refine ⟨fun _ => ⟨h0, h1⟩, fun c => ?_, fun c => ⟨by show 0 + ps.length ≤ 4294967296; omega, rfl, rfl, rfl⟩⟩
 rw [← h2] at c
 simp only [bne_self_eq_false, Bool.or_false, Bool.or_eq_true, decide_eq_true_eq] at c
 omega

theorem ref27_LoadRn_vc (n : Int) (ps : List Dig) (h : ¬ okLd n ps) :
 ((decide (n < 0) || decide (1048576 < n)) = false → 0 ≤ n ∧ n ≤ 1048576) ∧
  ((decide (n < 0) || decide (1048576 < n) || ofN (List.length ps) != ofN (popc (Int.toNat n))) = true → ofN 270 = 270) ∧
  ((decide (n < 0) || decide (1048576 < n) || ofN (List.length ps) != ofN (popc (Int.toNat n))) = false → List.length (nilOf (List (BitVec 8))) + List.length ps ≤ ROOM ∧ False) := by
 have hb : (decide (n < 0) || decide (1048576 < n)) = false → (0 : Int) ≤ n ∧ n ≤ 1048576 := fun c => by
  simp only [Bool.or_eq_false_iff, decide_eq_false_iff_not] at c; omega
 refine ⟨fun c => hb c, fun _ => rfl, fun c => ?_⟩
 have hc : (decide (n < 0) || decide (1048576 < n)) = false ∧ (ofN (List.length ps) != ofN (popc (Int.toNat n))) = false := by
  rwa [Bool.or_eq_false_iff] at c
 obtain ⟨h0, h1⟩ := hb hc.1
 have h3 : ps.length = popc n.toNat := Int.ofNat.inj (bne_eq_false_iff_eq.1 hc.2)
 exact absurd ⟨h0, h1, h3⟩ h

theorem merkle_back_vc (n : Int) (ps : List Dig) (m : Bool) :
 n = n ∧ ps = ps ∧ m = m := by
 exact ⟨rfl, rfl, rfl⟩

theorem merkle_RootT_vc (n : Int) (ps : List Dig) (h : okT' n ps) :
 (true = true ∧
  SObj.cells [SC.run (Run.one (DV.i64 n)), SC.run (Run.one (DV.imm (T.arr 32 T.u8) ps)), SC.run (Run.one (DV.bool true))] false =
  SObj.cells [SC.run (Run.one (DV.i64 n)), SC.run (Run.one (DV.imm (T.arr 32 T.u8) ps)), SC.run (Run.one (DV.bool true))] false) ∧
  (false = true → (List.replicate 32 0#8 = rootR ps ∧ ofN 4 = 0) ∧ n = n ∧ ps = ps ∧ true = true) ∧
  (false = false →
  ((n == 0) = true →
  (List.length (nilOf (List (BitVec 8))) < 1048577 ∧ List.length (nilOf (List (BitVec 8))) ≤ 1048576) ∧
  (rootV (nilOf (List (BitVec 8))) = rootR ps ∧ ofN 0 = 0) ∧ n = n ∧ ps = ps ∧ true = true) ∧
  ((n == 0) = false →
  inI64 (ofN (List.length ps) - 1) ∧
  (∃ (x : Nat), x ≤ List.length ps ∧ ofN (List.length ps) - 1 = ofN x - 1 ∧ List.replicate 32 0#8 = rootK ps x ∧ false = decide (x < List.length ps)) ∧
  ∀ (x : Nat),
  x ≤ List.length ps →
  (decide (0 ≤ ofN x - 1) = true →
  within (ofN x - 1) (List.length ps) ∧
  (decide (x < List.length ps) = true →
  (false = true → (nodeV (List.getD ps (Int.toNat (ofN x - 1)) (T.dflt (T.arr 32 T.u8))) (rootK ps x) = rootR ps ∧ ofN 0 = 0) ∧ n = n ∧ ps = ps ∧ true = true) ∧
  (false = false →
  inI64 (ofN x - 1 - 1) ∧
  ∃ (x' : Nat),
  x' ≤ List.length ps ∧
  x' < x ∧
  ofN x - 1 - 1 = ofN x' - 1 ∧
  nodeV (List.getD ps (Int.toNat (ofN x - 1)) (T.dflt (T.arr 32 T.u8))) (rootK ps x) = rootK ps x' ∧ true = decide (x' < List.length ps))) ∧
  (decide (x < List.length ps) = false →
  (false = true → (List.getD ps (Int.toNat (ofN x - 1)) (T.dflt (T.arr 32 T.u8)) = rootR ps ∧ ofN 0 = 0) ∧ n = n ∧ ps = ps ∧ true = true) ∧
  (false = false →
  inI64 (ofN x - 1 - 1) ∧
  ∃ (x' : Nat),
  x' ≤ List.length ps ∧
  x' < x ∧ ofN x - 1 - 1 = ofN x' - 1 ∧ List.getD ps (Int.toNat (ofN x - 1)) (T.dflt (T.arr 32 T.u8)) = rootK ps x' ∧ true = decide (x' < List.length ps)))) ∧
  (decide (0 ≤ ofN x - 1) = false → (rootK ps x = rootR ps ∧ ofN 0 = 0) ∧ n = n ∧ ps = ps ∧ true = true))) := by
 obtain ⟨h0, h1, h2⟩ := h
 have hl := popc_le n.toNat
 refine ⟨⟨rfl, rfl⟩, fun c => absurd c Bool.false_ne_true, fun _ => ⟨fun c => ?_, fun c => ?_⟩⟩
 · have c : n = 0 := by simpa using c
   subst c
   have : ps = [] := List.eq_nil_of_length_eq_zero (by rw [h2]; exact popc_zero)
   subst this
   exact ⟨⟨by decide, by decide⟩, ⟨rootV_zero rfl, rfl⟩, rfl, rfl, rfl⟩
 · have c : ¬ n = 0 := by simpa using c
   have hp := popc_pos (n := n.toNat) (by omega)
   have z : ∀ k, ps.length ≤ k → rootK ps k = zero32 := fun k hk => if_pos hk
   have nz : ∀ k, k < ps.length → rootK ps k = rootR (ps.drop k) := fun k hk => if_neg (by omega)
   refine ⟨by show inI64 ((ps.length : Int) - 1); unfold inI64; omega, ⟨ps.length, Nat.le_refl _, rfl, (z _ (Nat.le_refl _)).symm, by simp⟩, fun k hk => ⟨fun c2 => ?_, fun c2 => ?_⟩⟩
   · have c2 : (0 : Int) ≤ (k : Int) - 1 := of_decide_eq_true c2
     have ek : Int.toNat (ofN k - 1) = k - 1 := by show Int.toNat ((k : Int) - 1) = k - 1; omega
     rw [ek]
     refine ⟨by show within ((k : Int) - 1) ps.length; unfold within; omega, fun c3 => ⟨fun q => absurd q Bool.false_ne_true, fun _ => ⟨by show inI64 ((k : Int) - 1 - 1); unfold inI64; omega, k - 1, by omega, by omega, by show (k : Int) - 1 - 1 = ((k - 1 : Nat) : Int) - 1; omega, ?_, ?_⟩⟩, fun c3 => ⟨fun q => absurd q Bool.false_ne_true, fun _ => ⟨by show inI64 ((k : Int) - 1 - 1); unfold inI64; omega, k - 1, by omega, by omega, by show (k : Int) - 1 - 1 = ((k - 1 : Nat) : Int) - 1; omega, ?_, ?_⟩⟩⟩
     · have c3 : k < ps.length := of_decide_eq_true c3
       have := rootR_at (ps := ps) (i := k - 1) (by omega)
       rw [show k - 1 + 1 = k by omega] at this
       rw [nz k c3, nz (k - 1) (by omega), this]
     · rw [decide_eq_true (by omega)]
     · have c3 : ¬ k < ps.length := of_decide_eq_false c3
       rw [nz (k - 1) (by omega), rootR_last (by omega)]
     · rw [decide_eq_true (by omega)]
   · have c2 : ¬ (0 : Int) ≤ (k : Int) - 1 := of_decide_eq_false c2
     have : k = 0 := by omega
     subst this
     rw [nz 0 (by omega), List.drop_zero]
     exact ⟨⟨rfl, rfl⟩, rfl, rfl, rfl⟩

theorem merkle_PushT_vc (n : Int) (ps : List Dig) (leaf : Dig) (hd : leaf.length = 32) (h : okT' n ps) :
 (true = true ∧
  SObj.cells [SC.run (Run.one (DV.i64 n)), SC.run (Run.one (DV.imm (T.arr 32 T.u8) ps)), SC.run (Run.one (DV.bool true))] false =
  SObj.cells [SC.run (Run.one (DV.i64 n)), SC.run (Run.one (DV.imm (T.arr 32 T.u8) ps)), SC.run (Run.one (DV.bool true))] false) ∧
  (false = true → 4 = pushE n ∧ n = pushN n ∧ ps = pushP n ps leaf ∧ true = true) ∧
  (false = false →
  (decide (1048576 ≤ n) = true → 3 = pushE n ∧ n = pushN n ∧ ps = pushP n ps leaf ∧ true = true) ∧
  (decide (1048576 ≤ n) = false →
  inI64 (ofN (List.length ps) - ofN (tzN (BitVec.toNat (~~~BitVec.ofInt 64 n)))) ∧
  inI64 (ofN (List.length ps) - 1) ∧
  (∃ (x : Nat),
  x ≤ tones (Int.toNat n) ∧
  ofN (List.length ps) - 1 = ofN (List.length ps - x) - 1 ∧
  leaf = joinL (List.drop (List.length ps - x) ps) leaf ∧ ofN (tzN (BitVec.toNat (~~~BitVec.ofInt 64 n))) = ofN (tones (Int.toNat n) - x)) ∧
  ∀ (x : Nat),
  x ≤ tones (Int.toNat n) →
  (decide (0 ≤ ofN (List.length ps - x) - 1) = true →
  within (ofN (List.length ps - x) - 1) (List.length ps) ∧
  ((ofN (tones (Int.toNat n) - x) == 0) = true →
  (true = true →
  ((0 ≤ ofN (List.length ps) - ofN (tzN (BitVec.toNat (~~~BitVec.ofInt 64 n))) ∧
  ofN (List.length ps) - ofN (tzN (BitVec.toNat (~~~BitVec.ofInt 64 n))) ≤ ofN (List.length ps)) ∧
  ofN (List.length ps) - ofN (tzN (BitVec.toNat (~~~BitVec.ofInt 64 n))) =
  ofN (Int.toNat (ofN (List.length ps) - ofN (tzN (BitVec.toNat (~~~BitVec.ofInt 64 n)))))) ∧
  (0 < List.length [joinL (List.drop (List.length ps - x) ps) leaf] ∧
  List.length (List.drop 0 (List.take (Int.toNat (ofN (List.length ps) - ofN (tzN (BitVec.toNat (~~~BitVec.ofInt 64 n))))) ps)) +
  List.length [joinL (List.drop (List.length ps - x) ps) leaf] ≤
  ROOM) ∧
  inI64 (n + 1) ∧
  0 = pushE n ∧
  n + 1 = pushN n ∧
  List.drop 0 (List.take (Int.toNat (ofN (List.length ps) - ofN (tzN (BitVec.toNat (~~~BitVec.ofInt 64 n))))) ps) ++
  [joinL (List.drop (List.length ps - x) ps) leaf] =
  pushP n ps leaf ∧
  true = true) ∧
  (true = false →
  inI64 (ofN (List.length ps - x) - 1 - 1) ∧ ∃ (x' : Nat), x' ≤ tones (Int.toNat n) ∧ tones (Int.toNat n) + 1 - x' < tones (Int.toNat n) + 1 - x ∧ False)) ∧
  ((ofN (tones (Int.toNat n) - x) == 0) = false →
  inI64 (ofN (tones (Int.toNat n) - x) - 1) ∧
  (false = true →
  ((0 ≤ ofN (List.length ps) - ofN (tzN (BitVec.toNat (~~~BitVec.ofInt 64 n))) ∧
  ofN (List.length ps) - ofN (tzN (BitVec.toNat (~~~BitVec.ofInt 64 n))) ≤ ofN (List.length ps)) ∧
  ofN (List.length ps) - ofN (tzN (BitVec.toNat (~~~BitVec.ofInt 64 n))) =
  ofN (Int.toNat (ofN (List.length ps) - ofN (tzN (BitVec.toNat (~~~BitVec.ofInt 64 n)))))) ∧
  (0 < List.length [nodeV (List.getD ps (Int.toNat (ofN (List.length ps - x) - 1)) (T.dflt (T.arr 32 T.u8))) (joinL (List.drop (List.length ps - x) ps) leaf)] ∧
  List.length (List.drop 0 (List.take (Int.toNat (ofN (List.length ps) - ofN (tzN (BitVec.toNat (~~~BitVec.ofInt 64 n))))) ps)) +
  List.length [nodeV (List.getD ps (Int.toNat (ofN (List.length ps - x) - 1)) (T.dflt (T.arr 32 T.u8))) (joinL (List.drop (List.length ps - x) ps) leaf)] ≤
  ROOM) ∧
  inI64 (n + 1) ∧
  0 = pushE n ∧
  n + 1 = pushN n ∧
  List.drop 0 (List.take (Int.toNat (ofN (List.length ps) - ofN (tzN (BitVec.toNat (~~~BitVec.ofInt 64 n))))) ps) ++
  [nodeV (List.getD ps (Int.toNat (ofN (List.length ps - x) - 1)) (T.dflt (T.arr 32 T.u8))) (joinL (List.drop (List.length ps - x) ps) leaf)] =
  pushP n ps leaf ∧
  true = true) ∧
  (false = false →
  inI64 (ofN (List.length ps - x) - 1 - 1) ∧
  ∃ (x' : Nat),
  x' ≤ tones (Int.toNat n) ∧
  tones (Int.toNat n) + 1 - x' < tones (Int.toNat n) + 1 - x ∧
  ofN (List.length ps - x) - 1 - 1 = ofN (List.length ps - x') - 1 ∧
  nodeV (List.getD ps (Int.toNat (ofN (List.length ps - x) - 1)) (T.dflt (T.arr 32 T.u8))) (joinL (List.drop (List.length ps - x) ps) leaf) =
  joinL (List.drop (List.length ps - x') ps) leaf ∧
  ofN (tones (Int.toNat n) - x) - 1 = ofN (tones (Int.toNat n) - x')))) ∧
  (decide (0 ≤ ofN (List.length ps - x) - 1) = false →
  ((0 ≤ ofN (List.length ps) - ofN (tzN (BitVec.toNat (~~~BitVec.ofInt 64 n))) ∧ ofN (List.length ps) - ofN (tzN (BitVec.toNat (~~~BitVec.ofInt 64 n))) ≤ ofN (List.length ps)) ∧
  ofN (List.length ps) - ofN (tzN (BitVec.toNat (~~~BitVec.ofInt 64 n))) = ofN (Int.toNat (ofN (List.length ps) - ofN (tzN (BitVec.toNat (~~~BitVec.ofInt 64 n)))))) ∧
  (0 < List.length [joinL (List.drop (List.length ps - x) ps) leaf] ∧
  List.length (List.drop 0 (List.take (Int.toNat (ofN (List.length ps) - ofN (tzN (BitVec.toNat (~~~BitVec.ofInt 64 n))))) ps)) +
  List.length [joinL (List.drop (List.length ps - x) ps) leaf] ≤
  ROOM) ∧
  inI64 (n + 1) ∧
  0 = pushE n ∧
  n + 1 = pushN n ∧
  List.drop 0 (List.take (Int.toNat (ofN (List.length ps) - ofN (tzN (BitVec.toNat (~~~BitVec.ofInt 64 n))))) ps) ++ [joinL (List.drop (List.length ps - x) ps) leaf] =
  pushP n ps leaf ∧
  true = true))) := by
 obtain ⟨h0, h1, h2⟩ := h
 have hl := popc_le n.toNat
 have ht := tones_le n.toNat
 have e0 : tzN (BitVec.toNat (~~~BitVec.ofInt 64 n)) = tones n.toNat := by
  rw [tz_not (by rw [toNat64 h0 (by omega)]; omega), toNat64 h0 (by omega)]
 rw [e0]
 have ep : n < 1048576 → pushP n ps leaf = pushV ps leaf (tones n.toNat) := fun q => if_pos q
 have ep2 : ¬ n < 1048576 → pushP n ps leaf = ps := fun q => if_neg q
 generalize tones n.toNat = t at *
 have ed : Int.toNat (ofN ps.length - ofN t) = ps.length - t := by show Int.toNat ((ps.length : Int) - (t : Int)) = ps.length - t; omega
 rw [ed, List.drop_zero]
 have fin : n < 1048576 → ((((0 : Int) ≤ ofN ps.length - ofN t ∧ ofN ps.length - ofN t ≤ ofN ps.length) ∧ ofN ps.length - ofN t = ofN (ps.length - t)) ∧
  (0 < List.length [joinL (ps.drop (ps.length - t)) leaf] ∧ (ps.take (ps.length - t)).length + List.length [joinL (ps.drop (ps.length - t)) leaf] ≤ ROOM) ∧
  inI64 (n + 1) ∧ 0 = pushE n ∧ n + 1 = pushN n ∧ ps.take (ps.length - t) ++ [joinL (ps.drop (ps.length - t)) leaf] = pushP n ps leaf ∧ true = true) := fun q => by
  refine ⟨⟨⟨by show (0 : Int) ≤ (ps.length : Int) - (t : Int); omega, by show (ps.length : Int) - (t : Int) ≤ (ps.length : Int); omega⟩, by show (ps.length : Int) - (t : Int) = ((ps.length - t : Nat) : Int); omega⟩, ⟨Nat.zero_lt_succ _, ?_⟩, by unfold inI64; omega, (if_pos q).symm, (if_pos q).symm, by rw [ep q]; rfl, rfl⟩
  rw [List.length_take, List.length_cons, List.length_nil]
  show _ ≤ 4294967296
  omega
 refine ⟨⟨rfl, rfl⟩, fun c => absurd c Bool.false_ne_true, fun _ => ⟨fun c => ?_, fun c => ?_⟩⟩
 · have c : ¬ n < 1048576 := by have := of_decide_eq_true c; omega
   exact ⟨(if_neg c).symm, (if_neg c).symm, (ep2 c).symm, rfl⟩
 · have c : n < 1048576 := by have := of_decide_eq_false c; omega
   refine ⟨by show inI64 ((ps.length : Int) - (t : Int)); unfold inI64; omega, by show inI64 ((ps.length : Int) - 1); unfold inI64; omega, ⟨0, Nat.zero_le _, rfl, by rw [Nat.sub_zero, joinL_end], rfl⟩, fun j hj => ⟨fun c2 => ?_, fun c2 => ?_⟩⟩
   · have c2 : (0 : Int) ≤ ((ps.length - j : Nat) : Int) - 1 := of_decide_eq_true c2
     refine ⟨by show within (((ps.length - j : Nat) : Int) - 1) ps.length; unfold within; omega, fun c3 => ⟨fun _ => ?_, fun q => by cases q⟩, fun c3 => ⟨by show inI64 (((t - j : Nat) : Int) - 1); unfold inI64; omega, fun q => absurd q Bool.false_ne_true, fun _ => ?_⟩⟩
     · have c3 : ((t - j : Nat) : Int) = 0 := by simpa using c3
       have : j = t := by omega
       subst this
       exact fin c
     · have c3 : ¬ ((t - j : Nat) : Int) = 0 := by simpa using c3
       refine ⟨by show inI64 (((ps.length - j : Nat) : Int) - 1 - 1); unfold inI64; omega, j + 1, by omega, by omega, by show ((ps.length - j : Nat) : Int) - 1 - 1 = ((ps.length - (j + 1) : Nat) : Int) - 1; omega, ?_, by show ((t - j : Nat) : Int) - 1 = ((t - (j + 1) : Nat) : Int); omega⟩
       have ek : Int.toNat (ofN (ps.length - j) - 1) = ps.length - (j + 1) := by show Int.toNat (((ps.length - j : Nat) : Int) - 1) = _; omega
       have := joinL_at (ps := ps) (leaf := leaf) (i := ps.length - (j + 1)) (by omega)
       rw [show ps.length - (j + 1) + 1 = ps.length - j by omega] at this
       rw [ek, this]
   · have c2 : ¬ (0 : Int) ≤ ((ps.length - j : Nat) : Int) - 1 := of_decide_eq_false c2
     have : j = t := by omega
     subst this
     exact fin c

theorem tab_at {H : Mem} {w : World} (hm : memOk H w) (hg : HasG P H) : Go.Proofs.TabAt 1 Lib.deBruijn64tab w := fun j hj => by
 refine hm _ _ _ (hg _ _ _ ?_)
 have hj : j < 64 := hj
 have e : gtab P = some 1 := by kernel_rfl
 have hs : tab64L[j]? = some (tab64L.getD j 0) := by rw [List.getD_eq_getElem?_getD, List.getElem?_eq_getElem hj]; rfl
 unfold gmem
 rw [e]
 simp only [if_true]
 rw [hs]
 rfl

theorem tz_le {x : Nat} (hx : x < 18446744073709551616) : tzN x ≤ 64 := by
 unfold tzN
 by_cases h : x = 0
 · subst h; decide
 · exact Nat.le_of_lt (Lib.lowest_bit 64 x h hx).2

theorem bits_TrailingZeros_spec : Vse.Spec P f_math_bits_TrailingZeros c_tz := by
 refine ⟨⟨b_math_bits_TrailingZeros, _, h_math_bits_TrailingZeros, rfl, rfl⟩, fun H w ins vs g r hct _ hrel hmem hglob => ?_, fun _ _ h => by rcases h with h | h <;> cases h⟩
 simp only [c_tz, D, cFn] at hct
 split at hct
 case h_2 => cases hct
 rename_i x hx
 simp only [Option.some.injEq] at hct
 subst hct
 have e := decs_eq hx
 subst e
 obtain ⟨a, u⟩ := x
 obtain ⟨rfl, hd⟩ : g = none ∧ datsRel H (svsOf [.u64] (a, u)) vs := hrel
 obtain ⟨va, r1, rfl, ha, hn⟩ := hd
 simp only [svsOf, datsRel] at hn
 subst hn
 have hA : va = .int .u64 (a.toNat : Int) := ha (fun _ => none)
 subst hA
 unfold Answers
 refine (Go.Proofs.Any7.bits_TrailingZeros Go.Proofs.Tryd.lays27 a.toNat a.isLt w fun _ => tab_at hmem hglob).mono ?_
 rintro e w' ⟨rfl, rfl⟩
 have hl := tz_le (x := a.toNat) a.isLt
 have hc : inI64 ((tzN a.toNat : Nat) : Int) := by unfold inI64; omega
 exact ⟨.int .i64 ((tzN a.toNat : Nat) : Int), H, none, rfl, Mem.le_refl H, ⟨fun _ _ _ => rfl, Nat.le_refl _, rfl, rfl, outOk.refl _⟩, hmem, fun _ _ _ => rfl, rfl, rfl, fun ρ t _ => ⟨rfl, hc⟩⟩

theorem bits_OnesCount64_spec : Vse.Spec P f_math_bits_OnesCount64 c_onesC :=
 spec_fn (l := []) trivial h_math_bits_OnesCount64 rfl rfl fun x h _ => body_ok an_none (bits_OnesCount64_vc x.1 (got h)) (by kernel_rfl)

theorem bits_OnesCount_spec : Vse.Spec P f_math_bits_OnesCount c_onesC :=
 spec_fn (l := [(f_math_bits_OnesCount64, c_onesC)]) ⟨bits_OnesCount64_spec, trivial⟩ h_math_bits_OnesCount rfl rfl fun x h _ => body_ok an_none (bits_OnesCount_vc x.1 (got h)) (by kernel_rfl)

theorem ref27_ones_spec : Vse.Spec P f_ref27_ones c_onesR :=
 spec_fn (l := []) trivial h_ref27_ones rfl rfl fun x h _ => body_ok (an_onesR x.1.toNat) (ref27_ones_vc x.1 (got h).1 (got h).2) (by kernel_rfl)

theorem slices_ClnD_spec : Vse.Spec P f_slices_Clone_Digest c_ClnD :=
 spec_fn (l := []) trivial h_slices_Clone_Digest rfl rfl fun x h _ => body_ok an_none (slices_ClnD_vc x.1 (got h)) (by kernel_rfl)

theorem merkle_isT_spec : Vse.Spec P f_merkle_Tree_is c_isT := spec_keep [1] <| spec_gm (l := []) trivial h_merkle_Tree_is rfl rfl fun s x h _ _ => by
 obtain ⟨n, ps, m, _⟩ := s
 have h : m = true := got h
 subst h
 exact bodyG_ok an_pins1 (merkle_isT_vc n ps) (by kernel_rfl)

theorem merkle_LenT_spec : Vse.Spec P f_merkle_Tree_Len c_LenT := spec_keep [1] <| spec_gm (l := [(f_merkle_Tree_is, c_isT)]) ⟨merkle_isT_spec, trivial⟩ h_merkle_Tree_Len rfl rfl fun s x h _ _ => by
 obtain ⟨n, ps, m, _⟩ := s
 have h : m = true := got h
 subst h
 exact bodyG_ok an_pins1 (merkle_LenT_vc n ps) (by kernel_rfl)

theorem merkle_PeaksT_spec : Vse.Spec P f_merkle_Tree_Peaks c_PeaksT := spec_keep [1] <| spec_gm (l := [(f_merkle_Tree_is, c_isT), (f_slices_Clone_Digest, c_ClnD)]) ⟨merkle_isT_spec, slices_ClnD_spec, trivial⟩ h_merkle_Tree_Peaks rfl rfl fun s x h _ _ => by
 obtain ⟨n, ps, m, _⟩ := s
 obtain ⟨h, h2⟩ : m = true ∧ ps.length ≤ 100 := got h
 subst h
 exact bodyG_ok an_pins1 (merkle_PeaksT_vc n ps h2) (by kernel_rfl)

theorem merkle_NewT_spec : Vse.Spec P f_merkle_New c_NewT := spec_gf (l := []) trivial h_merkle_New rfl rfl fun x _ _ => bodyG_ok an_pins0 merkle_NewT_vc (by kernel_rfl)

theorem merkle_LoadT_spec : Vse.Spec P f_merkle_Load c_LoadT := spec_gf (l := [(f_math_bits_OnesCount, c_onesC), (f_slices_Clone_Digest, c_ClnD)]) ⟨bits_OnesCount_spec, slices_ClnD_spec, trivial⟩ h_merkle_Load rfl rfl fun x h _ => bodyG_ok an_pins0 (merkle_LoadT_vc x.1 x.2.1 (got h).1 (got h).2) (by kernel_rfl)

theorem merkle_LoadTn_spec : Vse.Spec P f_merkle_Load c_LoadTn := spec_gf (l := [(f_math_bits_OnesCount, c_onesC), (f_slices_Clone_Digest, c_ClnD)]) ⟨bits_OnesCount_spec, slices_ClnD_spec, trivial⟩ h_merkle_Load rfl rfl fun x h _ => bodyG_ok an_pins0 (merkle_LoadTn_vc x.1 x.2.1 (got h)) (by kernel_rfl)

theorem ref27_LoadR_spec : Vse.Spec P f_ref27_Load c_LoadR := spec_gf (l := [(f_ref27_ones, c_onesR)]) ⟨ref27_ones_spec, trivial⟩ h_ref27_Load rfl rfl fun x h _ => bodyG_ok an_pins0 (ref27_LoadR_vc x.1 x.2.1 (got h).1 (got h).2) (by kernel_rfl)

theorem ref27_LoadRn_spec : Vse.Spec P f_ref27_Load c_LoadRn := spec_gf (l := [(f_ref27_ones, c_onesR)]) ⟨ref27_ones_spec, trivial⟩ h_ref27_Load rfl rfl fun x h _ => bodyG_ok an_pins0 (ref27_LoadRn_vc x.1 x.2.1 (got h)) (by kernel_rfl)

theorem rdT_eq (ins : List SV) (heap : List (Nat × SObj)) (s : ofds OFt) (h : x_rdT ins heap = some s) : ins = x_tIn ∧ heap = oObj OFt 2 s ∧ (labelsOf heap).Nodup := by
 unfold x_rdT at h
 split at h
 · obtain ⟨e1, e2⟩ := dObj_eq h
   rw [e1, e2]
   exact ⟨rfl, rfl, oObj_nodup⟩
 · cases h

theorem rdP_eq (ins : List SV) (heap : List (Nat × SObj)) (x : Dig × ofds OFt) (h : x_rdP ins heap = some x) : ins = [.ref (.cell 1 [] 0), svOfT T_Dig x.1] ∧ heap = oObj OFt 2 x.2 ∧ (labelsOf heap).Nodup := by
 unfold x_rdP at h
 split at h
 · split at h
   · rename_i d s hd hs
     simp only [Option.some.injEq] at h; subst h
     obtain ⟨e1, e2⟩ := dObj_eq hs
     rw [decArg_eq hd, e1, e2]
     exact ⟨rfl, rfl, oObj_nodup⟩
   · cases h
 · cases h

theorem merkle_back_spec : Vse.Spec P f_merkle_Tree_back c_back := spec_gx (l := []) trivial h_merkle_Tree_back rfl rfl rdT_eq fun s _ _ _ => by
 obtain ⟨n, ps, m, _⟩ := s
 exact bodyG_ok an_back (merkle_back_vc n ps m) (by kernel_rfl)

theorem its_ok : ∀ f fn, lookF x_its f = some fn → P.funcs[f]? = some fn ∧ (fn.name == "runtime.NumGoroutine") = false := by
 intro f fn h
 unfold x_its lookF at h
 cases hb : Nat.beq f_merkle_Tree_back_f1 f with
 | false => rw [hb] at h; cases h
 | true =>
   rw [hb, cond_true] at h
   have := Nat.eq_of_beq_eq_true hb
   subst this
   simp only [Option.some.injEq] at h
   subst h
   exact ⟨h_merkle_Tree_back_f1, rfl⟩

theorem merkle_RootT_spec : Vse.Spec P f_merkle_Tree_Root c_RootT := spec_keep [1] <| spec_gxr (l := [(f_merkle_Tree_is, c_isT), (f_merkle_root, c_root 1048577), (f_merkle_Tree_back, c_back), (f_merkle_Node, c_Node)]) ⟨merkle_isT_spec, merkle_root_spec 1048577, merkle_back_spec, merkle_Node_spec, trivial⟩ its_ok h_merkle_Tree_Root rfl rfl rdT_eq fun s h _ _ => by
 obtain ⟨n, ps, m, _⟩ := s
 obtain ⟨h, h2⟩ : m = true ∧ okT' n ps := got h
 subst h
 exact bodyGR_ok (an_Root ps) (merkle_RootT_vc n ps h2) (by kernel_rfl)

theorem merkle_PushT_spec : Vse.Spec P f_merkle_Tree_Push c_PushT := spec_gxr (l := [(f_merkle_Tree_is, c_isT), (f_math_bits_TrailingZeros, c_tz), (f_merkle_Tree_back, c_back), (f_merkle_Node, c_Node)]) ⟨merkle_isT_spec, bits_TrailingZeros_spec, merkle_back_spec, merkle_Node_spec, trivial⟩ its_ok h_merkle_Tree_Push rfl rfl rdP_eq fun x h ok _ => by
 obtain ⟨d, n, ps, m, _⟩ := x
 obtain ⟨h, h2⟩ : m = true ∧ okT' n ps := got h
 subst h
 exact bodyGR_ok (an_Push ps d (tones n.toNat)) (merkle_PushT_vc n ps d ok.2.1.1.1 h2) (by kernel_rfl)

end Go.Sal
