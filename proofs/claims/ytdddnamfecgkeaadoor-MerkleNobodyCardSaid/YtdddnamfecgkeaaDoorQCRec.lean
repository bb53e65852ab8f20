/- Contracts of package record, and of its reference, but for Parse. -/
import Derived.Test.YtdddnamfecgkeaaDoorQCRef03
import Derived.Test.YtdddnamfecgkeaaDoorQSalRec
set_option maxRecDepth 100000
namespace Go.Sal
open Go.Vse Go.Sal.Nm

def c_IsPath : PC := D [.str] [.bool] (fun _ => none) (fun x => (isPath x.1, ()))

def an_IsPath (s : Bytes) : Nat → SState → Option LoopAnn
  | 4, _ => some { X := Nat, slots := fun i => [(14, .sv (.dv (.i64 i)))], objs := fun _ => [], inv := fun i => i ≤ s.length ∧ (s.take i).all okChar = true, meas := fun i => s.length - i }
  | _, _ => none

def an_rIsPath (s : Bytes) : Nat → SState → Option LoopAnn
  | 4, _ => some { X := Nat, slots := fun i => [(3, .sv (.dv (.i64 i)))], objs := fun _ => [], inv := fun i => i ≤ s.length ∧ (s.take i).all okChar = true, meas := fun i => s.length - i }
  | _, _ => none

def c_Size : PC := D [.slc T_Pie] [.i64, .i64] (fun _ => none) (fun x => ((sizeV x.1).1, (sizeV x.1).2, ()))

def an_Size (l : List Pie) : Nat → SState → Option LoopAnn
  | 5, _ => some { X := Nat, slots := fun i => [(4, .sv (.dv (.i64 (sumP (l.take i))))), (12, .sv (.dv (.i64 i)))], objs := fun _ => [], inv := fun i => i ≤ l.length ∧ (l.take i).all okPie = true ∧ sumP (l.take i) ≤ 1048576, meas := fun i => l.length - i }
  | _, _ => none

def an_rSize (l : List Pie) : Nat → SState → Option LoopAnn
  | 5, _ => some { X := Nat, slots := fun i => [(4, .sv (.dv (.i64 (sumP (l.take i))))), (5, .sv (.dv (.i64 i)))], objs := fun _ => [], inv := fun i => i ≤ l.length ∧ (l.take i).all okPie = true, meas := fun i => l.length - i }
  | _, _ => none

def c_fits : PC := D [T_Rec] [.bool] (fun _ => none) (fun x => (fitsV x.1, ()))

def c_Check : PC := D [T_Rec] [.i64] (fun _ => none) (fun x => (checkV x.1, ()))

def c_Bytes : PC := D [T_Rec] [.slc .u8, .i64] (fun _ => none) (fun x => ((bytesV x.1).1, (bytesV x.1).2, ()))

def an_Bytes (r : Rec) : Nat → SState → Option LoopAnn
  | 14, S => some { X := Nat, slots := fun i => [(5, .sv (.own 10 .u8 (pre r ++ ((r.2.2.2.2.2.2.take i).map pieBytes).flatten))), (65, .sv (.dv (.i64 i)))], objs := fun _ => [(x_tok S 5, .gone), (10, .tok t_uint8 1)], inv := fun i => i ≤ r.2.2.2.2.2.2.length, meas := fun i => r.2.2.2.2.2.2.length - i }
  | _, _ => none

def an_rBytes13 (r : Rec) : Nat → SState → Option LoopAnn
  | 15, S => some { X := Nat, slots := fun i => [(5, .sv (.own 10 .u8 (pre r ++ ((r.2.2.2.2.2.2.take i).map pieBytes).flatten))), (6, .sv (.dv (.i64 i)))], objs := fun _ => [(x_tok S 5, .gone), (10, .tok t_uint8 1)], inv := fun i => i ≤ r.2.2.2.2.2.2.length, meas := fun i => r.2.2.2.2.2.2.length - i }
  | _, _ => none

def c_Chain : PC := D [T_Rec] [T_Dig, .i64] (fun _ => none) (fun x => ((chainV x.1).1, (chainV x.1).2, ()))

def c_follows : PC := D [T_Head, T_Rec] [.bool] (fun x => some (leP 1 x.2.1.1)) (fun x => (followsV x.1 x.2.1, ()))

def c_Next : PC := D [T_Head, T_Rec] [T_Head, .i64] (fun _ => none) (fun x => ((nextV x.1 x.2.1).1, (nextV x.1 x.2.1).2, ()))

def c_Walk : PC := D [T_Head, .slc T_Rec] [T_Head, .i64, .i64] (fun _ => none) (fun x => ((walkV x.1 x.2.1 0).1, (walkV x.1 x.2.1 0).2.1, (walkV x.1 x.2.1 0).2.2, ()))

def an_Walk (h : HeadT) (l : List Rec) : Nat → SState → Option LoopAnn
  | 2, S => some { X := Nat × HeadT, slots := fun y => [(13, .sv (.dv (.i64 y.1)))], objs := fun y => [(x_labAt S 2, .cells (ofRuns (enc T_Head y.2)) false)], inv := fun y => y.1 ≤ l.length ∧ walkV y.2 (l.drop y.1) y.1 = walkV h l 0, meas := fun y => l.length - y.1 }
  | _, _ => none

def an_rWalk (h : HeadT) (l : List Rec) : Nat → SState → Option LoopAnn
  | 2, S => some { X := Nat × HeadT, slots := fun y => [(7, .sv (.dv (.i64 y.1)))], objs := fun y => [(x_labAt S 2, .cells (ofRuns (enc T_Head y.2)) false)], inv := fun y => y.1 ≤ l.length ∧ walkV y.2 (l.drop y.1) y.1 = walkV h l 0, meas := fun y => l.length - y.1 }
  | _, _ => none

end Go.Sal
