/- The laws of recon: conditions. -/
import Derived.Test.YtglkhgodeghnlaaWCRcn4
set_option maxRecDepth 100000
namespace Go.Sal
open Go.Vse Go.Sal.Nm

def setD (l : List DigP) : List DigP := risV (l.take 150)
def c_set28 : PC := D [.slc T_Dig] [.slc T_Dig] (fun _ => none) (fun x => (setD x.1, ()))
def c_awake28 : PC := D [] [.bool] (fun _ => none) (fun _ => (true, ()))
def c_law28 (ts : List T) : PC := D ts [.bool] (fun _ => none) (fun _ => (true, ()))
theorem lt28 (n m : Nat) : decide ((m : Int) < ofN n) = decide (m < n) := by
 rw [decide_eq_decide]
 show (m : Int) < (n : Int) ↔ _
 omega
theorem set_small (l : List DigP) : (setD l).length ≤ 150 := by
 unfold setD
 have := ris_le (l.take 150)
 rw [List.length_take] at this
 omega
theorem set_check (l : List DigP) : checkS (setD l) = 0 := checkS_zero.2 ⟨by have := set_small l; omega, asc_pair.2 (ris_rises _)⟩
theorem okMt_set (a b : List DigP) : okMt (setD a) (setD b) := ⟨fun _ => set_small a, fun _ => set_small b⟩
theorem same_self (a : List DigP) : sameDg a a = true := decide_eq_true rfl
theorem awake_meet : (meetV [List.set (List.replicate 32 0#8) 0 1#8] [List.set (List.replicate 32 0#8) 0 2#8]).1.length = 1 ∧ (meetV [List.set (List.replicate 32 0#8) 0 1#8] [List.set (List.replicate 32 0#8) 0 2#8]).2.1.length = 1 := by decide +kernel

theorem law28_set_vc (l : List DigP) :
 (decide (150 < ofN (List.length l)) = true →
  (ofN 0 ≤ 150 ∧ 150 ≤ ofN (List.length l)) ∧ List.length (List.drop 0 (List.take (Int.toNat 150) l)) ≤ 100000000 ∧ risV (List.drop 0 (List.take (Int.toNat 150) l)) = setD l) ∧
  (decide (150 < ofN (List.length l)) = false → List.length l ≤ 100000000 ∧ risV l = setD l) := by
 have h1 : decide (150 < ofN l.length) = decide (150 < l.length) := lt28 l.length 150
 rw [h1]
 refine ⟨fun q => ⟨⟨by decide, ?_⟩, ?_, rfl⟩, fun q => ?_⟩
 · have q := of_decide_eq_true q
   show (150 : Int) ≤ ((l.length : Nat) : Int)
   omega
 · show (l.take 150).length ≤ _
   rw [List.length_take]; omega
 · have q := of_decide_eq_false q
   refine ⟨by omega, ?_⟩
   unfold setD
   rw [List.take_of_length_le (by omega)]

theorem law28_awake_vc :
 okMt [List.set (List.replicate 32 0#8) 0 1#8] [List.set (List.replicate 32 0#8) 0 2#8] ∧
  (true = true → within 0 (List.length (meetV [List.set (List.replicate 32 0#8) 0 1#8] [List.set (List.replicate 32 0#8) 0 2#8]).1)) ∧
  (true = true → within 0 (List.length (meetV [List.set (List.replicate 32 0#8) 0 1#8] [List.set (List.replicate 32 0#8) 0 2#8]).2.1)) ∧ true = true := by
 have h := awake_meet
 refine ⟨⟨fun _ => by decide, fun _ => by decide⟩, fun _ => ?_, fun _ => ?_, rfl⟩
 · rw [h.1]; exact ⟨by decide, by decide⟩
 · rw [h.2]; exact ⟨by decide, by decide⟩

theorem law28_set_spec : Vse.Spec P f_law28_set c_set28 := spec_fn (l := [(f_ref20_Rising, c_ris20)]) ⟨ref20_Rising_spec, trivial⟩ h_law28_set rfl rfl fun x _ _ => body_ok (an_none) (law28_set_vc x.1) (by kernel_rfl)

theorem law28_awake_spec : Vse.Spec P f_law28_awake c_awake28 := spec_fn (l := [(f_recon_Meet, c_Meet)]) ⟨recon_Meet_spec, trivial⟩ h_law28_awake rfl rfl fun _ _ _ => body_ok (an_none) (law28_awake_vc) (by kernel_rfl)

end Go.Sal
