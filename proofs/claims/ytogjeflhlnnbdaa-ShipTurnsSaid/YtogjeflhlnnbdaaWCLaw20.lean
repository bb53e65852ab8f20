/- The laws of chapter 20 on messages. -/
import Derived.Test.YtogjeflhlnnbdaaWCShip2
set_option maxRecDepth 100000
namespace Go.Sal
open Go.Vse Go.Sal.Nm

def fewD (l : List DigP) : List DigP := l.take 200
def c_few20 : PC := D [.slc T_Dig] [.slc T_Dig] (fun _ => none) (fun x => (fewD x.1, ()))
def c_true20 : PC := D [] [.bool] (fun _ => none) (fun _ => (true, ()))
def c_law20 (ts : List T) : PC := D ts [.bool] (fun _ => none) (fun _ => (true, ()))

theorem law20_few_vc (l : List DigP) :
 (decide (200 < ofN (List.length l)) = true → (ofN 0 ≤ 200 ∧ 200 ≤ ofN (List.length l)) ∧ List.drop 0 (List.take (Int.toNat 200) l) = fewD l) ∧ (decide (200 < ofN (List.length l)) = false → l = fewD l) := by
 unfold fewD ofN
 refine ⟨fun g => ?_, fun g => ?_⟩
 · simp only [decide_eq_true_eq] at g
   exact ⟨by omega, rfl⟩
 · simp only [decide_eq_false_iff_not] at g
   rw [List.take_of_length_le (by omega)]

theorem law20_awake_vc :
 List.length
  (bytesM
  (2, (0, 0, List.replicate 32 0#8), 300, List.replicate 32 0#8, (0, 0, List.replicate 32 0#8, 0, 0, nilOf (BitVec 8), nilOf (List (BitVec 8) × Int)), nilOf (List (BitVec 8)),
  nilOf (BitVec 8))).1 ≤
  1000000 ∧
  (true = true →
  within 1
  (List.length
  (bytesM
  (2, (0, 0, List.replicate 32 0#8), 300, List.replicate 32 0#8, (0, 0, List.replicate 32 0#8, 0, 0, nilOf (BitVec 8), nilOf (List (BitVec 8) × Int)), nilOf (List (BitVec 8)),
  nilOf (BitVec 8))).1)) ∧
  true = true := by
 exact ⟨by decide +kernel, fun _ => by unfold within; decide +kernel, rfl⟩

theorem law20_few_spec : Vse.Spec P f_law20_few c_few20 :=
 spec_fn (l := []) trivial h_law20_few rfl rfl fun x _ _ => body_ok an_none (law20_few_vc x.1) (by kernel_rfl)

theorem law20_awake_spec : Vse.Spec P f_law20_awake c_true20 :=
 spec_fn (l := [(f_ship_Bytes, c_BytesM), (f_ship_Parse, c_ParseM)]) ⟨ship_Bytes_spec, ship_Parse_spec, trivial⟩ h_law20_awake rfl rfl fun _ _ _ => body_ok an_none law20_awake_vc (by kernel_rfl)

end Go.Sal
