/- alive. -/
import Derived.Test.YtmjkknlkgkjigaaQCNam2
set_option maxRecDepth 100000
namespace Go.Sal
open Go.Vse Go.Sal.Nm

def c_lw15 (ts : List T) : PC := D ts [.bool] (fun _ => none) (fun _ => (true, ()))
def an_Al : Ann := { at_ := fun _ _ => none, prune := 1 }

theorem law15_alive_vc :
    (ofOk [fileR] ∧ List.length [fileR] ≤ 1000000) ∧
      (false = true → false = true) ∧
      (false = false →
      okF (ofK [fileR] (List.length [fileR])) ∧
      okF (ofK [fileR] (List.length [fileR])) ∧
      (true = true →
      within 0
      (List.length (seekP (statV (ofK [fileR] (List.length [fileR])) (List.map UInt8.toBitVec [97])).1 (statV (ofK [fileR] (List.length [fileR])) (List.map UInt8.toBitVec [97])).2 2 4))) ∧
      (true = true →
      within 0
      (List.length (seekP (statV (ofK [fileR] (List.length [fileR])) (List.map UInt8.toBitVec [97])).1 (statV (ofK [fileR] (List.length [fileR])) (List.map UInt8.toBitVec [97])).2 2 4))) ∧
      (true = true →
      within 1
      (List.length
      (seekP (statV (ofK [fileR] (List.length [fileR])) (List.map UInt8.toBitVec [97])).1 (statV (ofK [fileR] (List.length [fileR])) (List.map UInt8.toBitVec [97])).2 2 4))) ∧
      (true = true →
      within 1
      (List.length
      (seekP (statV (ofK [fileR] (List.length [fileR])) (List.map UInt8.toBitVec [97])).1 (statV (ofK [fileR] (List.length [fileR])) (List.map UInt8.toBitVec [97])).2 2 4))) ∧
      true = true) := by
  have h0 : sizeV fileR.2.2.2.2.2.2 = (10, 0) := rfl
  have hm : mayV [] fileR = 0 := rfl
  have hs : seekP (statV (ofK [fileR] (List.length [fileR])) (List.map UInt8.toBitVec [97])).1 (statV (ofK [fileR] (List.length [fileR])) (List.map UInt8.toBitVec [97])).2 2 4 = [(List.replicate 32 0#8, 3, 2, 3), (List.replicate 32 0#8, 5, 0, 3)] := rfl
  rw [hs]
  refine ⟨⟨fun k hk => ?_, by decide⟩, fun q => q, fun _ => ⟨ofK_ok _ _, ofK_ok _ _, fun _ => ⟨by decide, by decide⟩, fun _ => ⟨by decide, by decide⟩, fun _ => ⟨by decide, by decide⟩, fun _ => ⟨by decide, by decide⟩, rfl⟩⟩
  have : k = 0 := by simp at hk; omega
  subst this
  exact hm

theorem law15_alive_spec : Vse.Spec P f_law15_alive c_nAlive := spec_fn (l := [(f_law15_file, c_file), (f_names_Of, c_nOf), (f_names_Names_Seek, c_Seek)]) ⟨law15_file_spec, names_Of_spec, names_Seek_spec, trivial⟩ h_law15_alive rfl rfl fun _ _ _ => body_ok an_Al law15_alive_vc (by kernel_rfl)

end Go.Sal
