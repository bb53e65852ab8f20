/- Contracts of the reference of package sha. -/
import Derived.Test.YtmjkknlkgkjigaaQCSha
set_option maxRecDepth 100000
namespace Go.Sal
open Go.Vse Go.Sal.Nm

def x_int (S : SState) (t : Nat) : Int :=
  match S.get t with
  | .sv (.dv (.i64 n)) => n
  | _ => 0

def x_tok (S : SState) (t : Nat) : Nat :=
  match S.get t with
  | .sv (.own k _ _) => k
  | _ => 0

def c_rright : PC := D [.u32, .i64] [.u32] (fun x => some (leP 0 x.2.1 ∧ leP x.2.1 31)) (fun x => (rotr x.1 x.2.1.toNat, ()))

def an_rright (x : W32) (n : Int) : Nat → SState → Option LoopAnn
  | 1, _ => some { X := Nat, slots := fun j => [(0, .sv (.dv (.u32 (rotr x j)))), (1, .sv (.dv (.i64 (n - j))))], objs := fun _ => [], inv := fun j => (j : Int) ≤ n, meas := fun j => n.toNat - j }
  | _, _ => none

def c_moved : PC := D [.u32, .i64] [.u32] (fun x => some (leP 0 x.2.1 ∧ leP x.2.1 31)) (fun x => (x.1 >>> x.2.1.toNat, ()))

def an_moved (x : W32) (n : Int) : Nat → SState → Option LoopAnn
  | 1, _ => some { X := Nat, slots := fun j => [(0, .sv (.dv (.u32 (x >>> j)))), (1, .sv (.dv (.i64 (n - j))))], objs := fun _ => [], inv := fun j => (j : Int) ≤ n, meas := fun j => n.toNat - j }
  | _, _ => none

def an_rStep (s : List W32) (b : Bytes) : Nat → SState → Option LoopAnn
  | 3, S => some { X := Nat, slots := fun i => [(6, .sv (.dv (.i64 i)))], objs := fun i => [(x_labAt S 5, .cells [.run (.many .u32 64 (iter (fun w i => w.set i (wordAt b i)) i (List.replicate 64 0#32)))] false)], inv := fun i => i ≤ 16, meas := fun i => 16 - i }
  | 7, S => some { X := Nat, slots := fun i => [(7, .sv (.dv (.i64 (i + 16 : Nat))))], objs := fun i => [(x_labAt S 5, .cells [.run (.many .u32 64 (iter schedStep i (sched16 b)))] false)], inv := fun i => i ≤ 48, meas := fun i => 48 - i }
  | 16, S => some { X := Nat, slots := fun i => [(14, .sv (.dv (.i64 i)))], objs := fun i => [(x_labAt S 13, .cells [.run (.many .u32 8 (iter (round (sched b)) i s))] false)], inv := fun i => i ≤ 64, meas := fun i => 64 - i }
  | 24, S => some { X := Nat, slots := fun i => [(19, .sv (.dv (.i64 i)))], objs := fun i => [(x_labAt S 13, .cells [.run (.many .u32 8 (iter (fun t i => t.set i (t.getD i 0#32 + s.getD i 0#32)) i (rounds b s)))] false)], inv := fun i => i ≤ 8, meas := fun i => 8 - i }
  | _, _ => none

def an_rPad (n : BitVec 64) : Nat → SState → Option LoopAnn
  | 2, S => some { X := Nat, slots := fun k => [(3, .sv (.own 10 .u8 (128#8 :: List.replicate k 0#8)))], objs := fun _ => [(x_tok S 3, .gone), (10, .tok t_uint8 1)], inv := fun k => k ≤ zerosN n, meas := fun k => zerosN n - k }
  | 6, _ => some { X := Nat, slots := fun i => [(3, .sv (.own 11 .u8 (128#8 :: (List.replicate (zerosN n) 0#8 ++ (be8 (n * 8#64)).take i)))), (4, .sv (.dv (.u64 ((n * 8#64) <<< (8 * i))))), (5, .sv (.dv (.i64 i)))], objs := fun _ => [(10, .gone), (11, .tok t_uint8 1)], inv := fun i => i ≤ 8, meas := fun i => 8 - i }
  | _, _ => none

def c_rBytes : PC := D [T_St] [.arr 32 .u8] (fun _ => none) (fun x => (digest x.1, ()))

def an_rBytes (s : List W32) : Nat → SState → Option LoopAnn
  | 3, S => some { X := Nat, slots := fun i => [(4, .sv (.dv (.i64 i)))], objs := fun i => [(x_labAt S 3, .cells [.run (.many .u8 32 ((digest s).take i ++ List.replicate (32 - i) 0#8))] false)], inv := fun i => i ≤ 32, meas := fun i => 32 - i }
  | 7, S => some { X := Nat, slots := fun k => [(5, .sv (.dv (.u32 ((s.getD ((x_int S 4).toNat / 4) 0#32) >>> (8 * (k - (x_int S 4).toNat % 4)))))), (6, .sv (.dv (.i64 k)))], objs := fun _ => [], inv := fun k => (x_int S 4).toNat % 4 ≤ k ∧ k ≤ 3, meas := fun k => 3 - k }
  | _, _ => none

def an_rSum (l : List Bytes) (all : Bytes) : Nat → SState → Option LoopAnn
  | 3, _ => some { X := Nat, slots := fun i => [(3, .sv (.own 10 .u8 (l.take i).flatten)), (4, .sv (.dv (.i64 i)))], objs := fun _ => [(10, .tok t_uint8 1)], inv := fun i => i ≤ l.length, meas := fun i => l.length - i }
  | 9, S => some { X := Nat × List W32, slots := fun y => [(6, .sv (.dv (.i64 (64 * y.1 : Nat))))], objs := fun y => [(x_labAt S 5, .cells [.run (.many .u32 8 y.2)] false)], inv := fun y => 64 * y.1 ≤ all.length ∧ run y.2 (all.drop (64 * y.1)) = run start all, meas := fun y => all.length - 64 * y.1 }
  | 13, S => some { X := Nat, slots := fun j => [(8, .sv (.dv (.i64 j)))], objs := fun j => [(x_labAt S 7, .cells [.run (.many .u8 64 ((all.drop (x_int S 6).toNat).take j ++ List.replicate (64 - j) 0#8))] false)], inv := fun j => j ≤ 64, meas := fun j => 64 - j }
  | _, _ => none

def c_rOf : PC := D [.slc .u8] [.arr 32 .u8] (fun x => some (x.1.length ≤ 1073741824)) (fun x => (sha x.1, ()))

end Go.Sal
