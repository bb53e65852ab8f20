/- The laws of chapter 27 that hand no function values around. -/
import Derived.Test.YtdddnamfecgkeaaDoorQCIn27
set_option maxRecDepth 100000
namespace Go.Sal
open Go.Vse Go.Sal.Nm

def c_true27 : PC := D [] [.bool] (fun _ => none) (fun _ => (true, ()))

theorem law27_alive_vc :
    (true = true → within 0 (List.length (pathA [List.set (List.replicate 32 0#8) 0 1#8, List.set (List.replicate 32 0#8) 0 2#8, List.set (List.replicate 32 0#8) 0 3#8] 1).1)) ∧
      (true = true → within 0 (List.length [List.set (List.replicate 32 0#8) 0 1#8, List.set (List.replicate 32 0#8) 0 2#8, List.set (List.replicate 32 0#8) 0 3#8])) ∧
      (true = true → within 1 (List.length (pathA [List.set (List.replicate 32 0#8) 0 1#8, List.set (List.replicate 32 0#8) 0 2#8, List.set (List.replicate 32 0#8) 0 3#8] 1).1)) ∧
      (true = true → within 2 (List.length [List.set (List.replicate 32 0#8) 0 1#8, List.set (List.replicate 32 0#8) 0 2#8, List.set (List.replicate 32 0#8) 0 3#8])) ∧
      (true = true → within 1 (List.length [List.set (List.replicate 32 0#8) 0 1#8, List.set (List.replicate 32 0#8) 0 2#8, List.set (List.replicate 32 0#8) 0 3#8])) ∧
      (true = true → within 0 (List.length [List.set (List.replicate 32 0#8) 0 1#8, List.set (List.replicate 32 0#8) 0 2#8, List.set (List.replicate 32 0#8) 0 3#8])) ∧
      (true = true → within 1 (List.length [List.set (List.replicate 32 0#8) 0 1#8, List.set (List.replicate 32 0#8) 0 2#8, List.set (List.replicate 32 0#8) 0 3#8])) ∧
      (true = true → within 2 (List.length [List.set (List.replicate 32 0#8) 0 1#8, List.set (List.replicate 32 0#8) 0 2#8, List.set (List.replicate 32 0#8) 0 3#8])) ∧ true = true := by
  refine ⟨fun _ => ?_, fun _ => ?_, fun _ => ?_, fun _ => ?_, fun _ => ?_, fun _ => ?_, fun _ => ?_, fun _ => ?_, rfl⟩ <;> (unfold within; decide +kernel)

def recsV : List Dig → List Rec → List Dig × Int
  | acc, [] => (acc, 0)
  | acc, r :: l => if (bytesV r).2 = 0 then recsV (acc ++ [leafV (bytesV r).1]) l else ([], (bytesV r).2)

def c_recs : PC := D [.slc T_Rec] [.slc T_Dig, .i64] (fun x => some (x.1.length ≤ 1048576)) (fun x => ((recsV [] x.1).1, (recsV [] x.1).2, ()))

def an_mrecs (l : List Rec) : Nat → SState → Option LoopAnn
  | 3, S => some { X := Nat × List Dig, slots := fun y => [(4, .sv (.own 10 T_Dig y.2)), (11, .sv (.dv (.i64 y.1)))], objs := fun _ => [(x_tok S 4, .gone), (10, .tok t_api_Digest 32)], inv := fun y => y.1 ≤ l.length ∧ y.2.length = y.1 ∧ recsV y.2 (l.drop y.1) = recsV [] l, meas := fun y => l.length - y.1 }
  | _, _ => none

def an_rrecs (l : List Rec) : Nat → SState → Option LoopAnn
  | 3, S => some { X := Nat × List Dig, slots := fun y => [(4, .sv (.own 10 T_Dig y.2)), (5, .sv (.dv (.i64 y.1)))], objs := fun _ => [(x_tok S 4, .gone), (10, .tok t_api_Digest 32)], inv := fun y => y.1 ≤ l.length ∧ y.2.length = y.1 ∧ recsV y.2 (l.drop y.1) = recsV [] l, meas := fun y => l.length - y.1 }
  | _, _ => none

def an_MRecs : Nat → SState → Option LoopAnn
  | 4, _ => some { X := Nat, slots := fun i => [(3, .sv (.dv (.i64 i)))], objs := fun _ => [], inv := fun i => i ≤ 12, meas := fun i => 12 - i }
  | _, _ => none

theorem law27_alive_spec : Vse.Spec P f_law27_alive c_true27 :=
  spec_fn (l := [(f_merkle_Root, c_Root), (f_merkle_Path, c_Path), (f_merkle_In, c_In), (f_ref27_Node, c_Node)]) ⟨merkle_Root_spec, merkle_Path_spec, merkle_In_spec, ref27_Node_spec, trivial⟩ h_law27_alive rfl rfl
    fun _ _ _ => body_ok an_none law27_alive_vc (by kernel_rfl)

def c_law27 (ts : List T) : PC := D ts [.bool] (fun _ => none) (fun _ => (true, ()))

end Go.Sal
