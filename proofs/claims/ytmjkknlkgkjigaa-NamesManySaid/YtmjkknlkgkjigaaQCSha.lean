/- Contracts of package sha, and of what it calls. -/
import Derived.Test.YtmjkknlkgkjigaaQCWord
import Derived.Test.YtmjkknlkgkjigaaQSalSha
set_option maxRecDepth 100000
namespace Go.Sal
open Go.Vse Go.Sal.Nm

def x_labAt (S : SState) (t : Nat) : Nat :=
  match S.get t with
  | .sv (.ref (.cell l _ _)) => l
  | .sv (.ref (.win l _ _ _ _ _ _ _)) => l
  | _ => 0

def an_none : Nat → SState → Option LoopAnn := fun _ _ => none

abbrev T_St : T := .arr 8 .u32
abbrev T_Blk : T := .arr 64 .u8
abbrev T_Hash : T := .pair T_St (.pair (.slc .u8) (.pair .u64 .bool))

def c_width : PC := D [.i64] [.i64] (fun _ => none) (fun x => (widthV x.1, ()))

def c_way : PC := D [.i64, .i64] [.i64] (fun _ => none) (fun x => (wayV x.1 x.2.1, ()))

def c_shift : PC := D [.i64, .i64, .i64] [.u64] (fun x => some (eqP x.2.2.1 1 ∧ 0 ≤ x.1 ∧ x.1 < x.2.1 ∧ x.2.1 ≤ 8)) (fun x => (BitVec.ofNat 64 (8 * (x.2.1 - 1 - x.1).toNat), ()))

def c_number : PC := D [.slc .u8, .i64] [.u64] (fun x => some (eqP x.2.1 1 ∧ x.1.length ≤ 8)) (fun x => (BitVec.ofNat 64 (beN x.1), ()))

def an_number (b : Bytes) : Nat → SState → Option LoopAnn
  | 3, _ => some { X := Nat, slots := fun i => [(5, .sv (.dv (.u64 (BitVec.ofNat 64 (beN (b.take i) * 256 ^ (b.length - i)))))), (10, .sv (.dv (.i64 i)))], objs := fun _ => [], inv := fun i => i ≤ b.length, meas := fun i => b.length - i }
  | _, _ => none

def c_Words : PC := D [.slc .u8, .i64, .i64] [.slc .u64, .i64] (fun x => some (eqP x.2.1 32 ∧ eqP x.2.2.1 1 ∧ x.1.length % 4 = 0 ∧ x.1.length ≤ ROOM)) (fun x => (words32 x.1, 0, ()))

def an_Words (b : Bytes) : Nat → SState → Option LoopAnn
  | 9, _ => some { X := Nat, slots := fun i => [(10, .sv (.own 10 .u64 ((words32 b).take i))), (29, .sv (.dv (.i64 i)))], objs := fun _ => [(10, .tok t_uint64 1)], inv := fun i => i ≤ b.length / 4, meas := fun i => b.length / 4 - i }
  | _, _ => none

def c_wBytes : PC := D [.u64, .i64, .i64] [.slc .u8, .i64] (fun x => some ((eqP x.2.1 64 ∨ eqP x.2.1 32) ∧ eqP x.2.2.1 1)) (fun x => (beBytes x.1 (x.2.1 / 8).toNat, 0, ()))

def an_wBytes (x : BitVec 64) (n : Nat) : Nat → SState → Option LoopAnn
  | 6, S => some { X := Nat, slots := fun i => [(22, .sv (.dv (.i64 i)))], objs := fun i => [(x_labAt S 9, .cells [.run (.many .u8 n ((beBytes x n).take i ++ List.replicate (n - i) 0#8))] false)], inv := fun i => i ≤ n, meas := fun i => n - i }
  | _, _ => none

def c_bytesClone : PC := O [.slc .u8] .u8 t_uint8 1 [] (fun x => some (x.1.length ≤ ROOM)) (fun x => (x.1, ()))

def c_shaStart : PC := D [] [T_St] (fun _ => none) (fun _ => (start, ()))

def c_shaConstants : PC := D [] [.arr 64 .u32] (fun _ => none) (fun _ => (consts, ()))

def c_right : PC := D [.u32, .u64] [.u32] (fun x => some (x.2.1.toNat ≤ 32)) (fun x => (rotr x.1 x.2.1.toNat, ()))

def c_schedule : PC := D [T_Blk] [.arr 64 .u32] (fun _ => none) (fun x => (sched x.1, ()))

def an_schedule (b : Bytes) : Nat → SState → Option LoopAnn
  | 4, S => some { X := Nat, slots := fun i => [(20, .sv (.dv (.i64 i)))], objs := fun i => [(x_labAt S 3, .cells [.run (.many .u32 64 (iter (fun w i => w.set i (wordAt b i)) i (List.replicate 64 0#32)))] false)], inv := fun i => i ≤ 16, meas := fun i => 16 - i }
  | 9, S => some { X := Nat, slots := fun i => [(8, .sv (.dv (.i64 (i + 16 : Nat))))], objs := fun i => [(x_labAt S 3, .cells [.run (.many .u32 64 (iter schedStep i (sched16 b)))] false)], inv := fun i => i ≤ 48, meas := fun i => 48 - i }
  | _, _ => none

def c_Step : PC := D [T_St, T_Blk] [T_St] (fun _ => none) (fun x => (step x.1 x.2.1, ()))

def an_Step (s : List W32) (b : Bytes) : Nat → SState → Option LoopAnn
  | 3, S => some { X := Nat, slots := fun i => [(23, .sv (.dv (.i64 i)))], objs := fun i => [(x_labAt S 7, .cells [.run (.many .u32 8 (iter (round (sched b)) i s))] false)], inv := fun i => i ≤ 64, meas := fun i => 64 - i }
  | 11, S => some { X := Nat, slots := fun i => [(102, .sv (.dv (.i64 i)))], objs := fun i => [(x_labAt S 7, .cells [.run (.many .u32 8 (iter (fun t i => t.set i (t.getD i 0#32 + s.getD i 0#32)) i (rounds b s)))] false)], inv := fun i => i ≤ 8, meas := fun i => 8 - i }
  | _, _ => none

def c_Pad : PC := O [.u64] .u8 t_uint8 1 [] (fun _ => none) (fun x => (pad x.1, ()))

def c_New : PC := cFn [] fun _ => ⟨none, .sv (.ref (.cell 0 [] 0)), some (.cells (ofRuns (enc T_Hash (start, [], 0#64, true))) false)⟩

def taken (s : T_Hash.den) (b : Bytes) : T_Hash.den := (run s.1 (s.2.1 ++ b), rest (s.2.1 ++ b), s.2.2.1 + BitVec.ofNat 64 b.length, s.2.2.2)

def c_take : PC := M T_Hash [.slc .u8] [] (fun s x => some (s.2.1.length + x.1.length ≤ ROOM)) (fun s x => (taken s x.1, ()))

def an_take (st : List W32) (l : Bytes) (n : BitVec 64) (m : Bool) (b : Bytes) : Nat → SState → Option LoopAnn
  | 2, _ => some { X := List W32 × Bytes, slots := fun y => [(4, .sv (.dv (.imm .u8 y.2)))], objs := fun y => [(1, .cells (ofRuns (enc T_Hash (y.1, l, n + BitVec.ofNat 64 b.length, m))) false)], inv := fun y => run y.1 y.2 = run st (l ++ b) ∧ rest y.2 = rest (l ++ b) ∧ y.2.length ≤ (l ++ b).length, meas := fun y => y.2.length }
  | _, _ => none

def c_end : PC := M T_Hash [] [.arr 32 .u8] (fun s _ => some (s.2.1.length ≤ 1073741824)) (fun s _ => (s, digest (run s.1 (s.2.1 ++ pad s.2.2.1)), ()))

def an_end (st : List W32) (l : Bytes) (n : BitVec 64) : Nat → SState → Option LoopAnn
  | 5, S => some { X := Nat, slots := fun i => [(20, .sv (.dv (.i64 i)))], objs := fun i => [(x_labAt S 4, .cells [.run (.many .u8 32 ((digest (run st (l ++ pad n))).take (4 * i) ++ List.replicate (32 - 4 * i) 0#8))] false)], inv := fun i => i ≤ 8, meas := fun i => 8 - i }
  | _, _ => none

def c_shaSum : PC := D [.slc (.slc .u8)] [.arr 32 .u8] (fun x => some (x.1.flatten.length ≤ 1073741824)) (fun x => (sha x.1.flatten, ()))

def an_shaSum (l : List Bytes) : Nat → SState → Option LoopAnn
  | 3, S => some { X := Nat, slots := fun i => [(9, .sv (.dv (.i64 i)))], objs := fun i => [(x_labAt S 3, .cells (ofRuns (enc T_Hash (taken (start, [], 0#64, true) (l.take i).flatten))) false)], inv := fun i => i ≤ l.length, meas := fun i => l.length - i }
  | _, _ => none

end Go.Sal
