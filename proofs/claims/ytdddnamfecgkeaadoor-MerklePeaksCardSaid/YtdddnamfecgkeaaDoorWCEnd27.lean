/- The laws of chapter 27 that hand no function values around. -/
import Derived.Test.YtdddnamfecgkeaaDoorWCIn27
set_option maxRecDepth 100000
namespace Go.Sal
open Go.Vse Go.Sal.Nm

def c_true27 : PC := D [] [.bool] (fun _ => none) (fun _ => (true, ()))

theorem law27_alive_vc :
 (true = true → within 0 (List.length (pathA [List.set (List.replicate 32 0#8) 0 1#8, List.set (List.replicate 32 0#8) 0 2#8, List.set (List.replicate 32 0#8) 0 3#8] 1).1)) ∧
  (true = true → within 0 (List.length [List.set (List.replicate 32 0#8) 0 1#8, List.set (List.replicate 32 0#8) 0 2#8, List.set (List.replicate 32 0#8) 0 3#8])) ∧
  (true = true → within 1 (List.length (pathA [List.set (List.replicate 32 0#8) 0 1#8, List.set (List.replicate 32 0#8) 0 2#8, List.set (List.replicate 32 0#8) 0 3#8] 1).1)) ∧
  (true = true → within 2 (List.length [List.set (List.replicate 32 0#8) 0 1#8, List.set (List.replicate 32 0#8) 0 2#8, List.set (List.replicate 32 0#8) 0 3#8])) ∧
  (true = true → within 1 (List.length [List.set (List.replicate 32 0#8) 0 1#8, List.set (List.replicate 32 0#8) 0 2#8, List.set (List.replicate 32 0#8) 0 3#8])) ∧
  (true = true → within 0 (List.length [List.set (List.replicate 32 0#8) 0 1#8, List.set (List.replicate 32 0#8) 0 2#8, List.set (List.replicate 32 0#8) 0 3#8])) ∧
  (true = true → within 1 (List.length [List.set (List.replicate 32 0#8) 0 1#8, List.set (List.replicate 32 0#8) 0 2#8, List.set (List.replicate 32 0#8) 0 3#8])) ∧
  (true = true → within 2 (List.length [List.set (List.replicate 32 0#8) 0 1#8, List.set (List.replicate 32 0#8) 0 2#8, List.set (List.replicate 32 0#8) 0 3#8])) ∧ true = true := by
 refine ⟨fun _ => ?_, fun _ => ?_, fun _ => ?_, fun _ => ?_, fun _ => ?_, fun _ => ?_, fun _ => ?_, fun _ => ?_, rfl⟩ <;> (unfold within; decide +kernel)

theorem law27_alive_spec : Vse.Spec P f_law27_alive c_true27 :=
 spec_fn (l := [(f_merkle_Root, c_Root), (f_merkle_Path, c_Path), (f_merkle_In, c_In), (f_ref27_Node, c_Node)]) ⟨merkle_Root_spec, merkle_Path_spec, merkle_In_spec, ref27_Node_spec, trivial⟩ h_law27_alive rfl rfl
  fun _ _ _ => body_ok an_none law27_alive_vc (by kernel_rfl)

end Go.Sal
