/- The laws of chapter 16 that name no MAC of the reference: their contracts hold. -/
import Derived.Test.YtmebmabepifjaaaQCLaw16
set_option maxRecDepth 100000
namespace Go.Sal
open Go.Vse Go.Sal.Nm

theorem law16_awake_spec : Vse.Spec P f_law16_awake c_true16 :=
  spec_fn (l := [(f_ref13_Make, c_Make), (f_ref13_Next, c_Next), (f_check_Make, c_mMake), (f_check_Audit, c_Audit), (f_check_Sealed, c_Sealed)]) ⟨ref13_Make_spec, ref13_Next_spec, check_Make_spec, check_Audit_spec, check_Sealed_spec, trivial⟩ h_law16_awake rfl rfl
    fun _ _ _ => body_ok an_none law16_awake_vc (by kernel_rfl)

theorem law16_cut_spec : Vse.Spec P f_law16_cut c_cut16 :=
  spec_fn (l := []) trivial h_law16_cut rfl rfl fun x _ _ => body_ok an_none (law16_cut_vc x.1) (by kernel_rfl)

theorem law16_few_spec : Vse.Spec P f_law16_few c_few16 :=
  spec_fn (l := []) trivial h_law16_few rfl rfl fun x _ _ => body_ok (an_few16 x.1) (law16_few_vc x.1) (by kernel_rfl)

theorem law16_chain_spec : Vse.Spec P f_law16_chain c_chain :=
  spec_fn (l := [(f_law16_few, c_few16), (f_ref13_Make, c_Make), (f_ref13_Next, c_Next)]) ⟨law16_few_spec, ref13_Make_spec, ref13_Next_spec, trivial⟩ h_law16_chain rfl rfl fun x _ _ => body_ok (an_chain x.1) (law16_chain_vc x.1) (by kernel_rfl)

theorem law16_twice_spec : Vse.Spec P f_law16_twice c_twice :=
  spec_fn (l := [(f_ref13_Bytes, c_Bytes), (f_ref03_Of, c_rOf)]) ⟨ref13_Bytes_spec, ref03_Of_spec, trivial⟩ h_law16_twice rfl rfl
    fun x _ ok => body_ok an_none (law16_twice_vc x.1 x.2.1 ⟨ok.1.2.2.1.1, fun p hp => (ok.1.2.2.2.2.2.2.2 p hp).1.1⟩ ⟨ok.2.1.2.2.1.1, fun p hp => (ok.2.1.2.2.2.2.2.2.2 p hp).1.1⟩) (by kernel_rfl)

theorem law16_collided_spec : Vse.Spec P f_law16_collided c_coll :=
  spec_fn (l := [(f_law16_twice, c_twice)]) ⟨law16_twice_spec, trivial⟩ h_law16_collided rfl rfl fun x _ ok => body_ok (an_coll x.1 x.2.1) (law16_collided_vc x.1 x.2.1 ok.1.1) (by kernel_rfl)

def c_law16 (ts : List T) : PC := D ts [.bool] (fun _ => none) (fun _ => (true, ()))

theorem fine_ok {l : List Rec} (h : okT (.slc T_Rec) l) : ∀ r ∈ l, fine r := fun r hr => ⟨(h.2 r hr).2.2.1.1, fun p hp => ((h.2 r hr).2.2.2.2.2.2.2 p hp).1.1⟩

theorem law16_CheckSealed_spec : Vse.Spec P f_law16_CheckSealed (c_law16 [.slc .u8, .i64, T_Head, .u8, .u8]) :=
  spec_fn (l := [(f_law16_awake, c_true16), (f_law16_cut, c_cut16), (f_check_Make, c_mMake), (f_check_Sealed, c_Sealed), (f_check_Check, c_mCheck)]) ⟨law16_awake_spec, law16_cut_spec, check_Make_spec, check_Sealed_spec, check_Check_spec, trivial⟩ h_law16_CheckSealed rfl rfl
    fun x _ _ => body_ok an_none (law16_CheckSealed_vc x.1 x.2.1 x.2.2.1 x.2.2.2.1 x.2.2.2.2.1) (by kernel_rfl)

theorem law16_CheckBack_spec : Vse.Spec P f_law16_CheckBack (c_law16 [T_Mark, .slc .u8]) :=
  spec_fn (l := [(f_law16_awake, c_true16), (f_check_Bytes, c_mBytes), (f_check_Parse, c_mParse)]) ⟨law16_awake_spec, check_Bytes_spec, check_Parse_spec, trivial⟩ h_law16_CheckBack rfl rfl
    fun x _ ok => body_ok an_none (law16_CheckBack_vc x.1 x.2.1 ok.1.2.2.2.1.1 ok.1.2.2.2.2.1) (by kernel_rfl)

theorem law16_CheckPrefix_spec : Vse.Spec P f_law16_CheckPrefix (c_law16 [.slc .u8, .slc T_Rec, .slc T_Rec, .bool, T_Mark, .u8]) :=
  spec_fn (l := [(f_law16_awake, c_true16), (f_law16_cut, c_cut16), (f_law16_few, c_few16), (f_law16_chain, c_chain), (f_ref13_Walk, c_Walk), (f_check_Make, c_mMake), (f_check_Audit, c_Audit), (f_ref13_Same, c_Same), (f_law16_twice, c_twice)])
    ⟨law16_awake_spec, law16_cut_spec, law16_few_spec, law16_chain_spec, ref13_Walk_spec, check_Make_spec, check_Audit_spec, ref13_Same_spec, law16_twice_spec, trivial⟩ h_law16_CheckPrefix rfl rfl
    fun x _ ok => body_ok an_Prefix (law16_CheckPrefix_vc x.1 x.2.1 x.2.2.1 x.2.2.2.1 x.2.2.2.2.1 x.2.2.2.2.2.1 (fine_ok ok.2.1) (fine_ok ok.2.2.1)) (by kernel_rfl)

theorem law16_CheckForks_spec : Vse.Spec P f_law16_CheckForks (c_law16 [.slc .u8, .slc T_Rec, .slc T_Rec, .slc T_Rec, .u8, .u8]) :=
  spec_fn (l := [(f_law16_awake, c_true16), (f_law16_cut, c_cut16), (f_law16_few, c_few16), (f_law16_chain, c_chain), (f_ref13_Walk, c_Walk), (f_check_Make, c_mMake), (f_check_Audit, c_Audit), (f_ref13_Same, c_Same), (f_law16_collided, c_coll)])
    ⟨law16_awake_spec, law16_cut_spec, law16_few_spec, law16_chain_spec, ref13_Walk_spec, check_Make_spec, check_Audit_spec, ref13_Same_spec, law16_collided_spec, trivial⟩ h_law16_CheckForks rfl rfl
    fun x _ ok => body_ok (an_Forks (chainL head0 (fewT 30 x.2.1)) (chainL head0 (fewT 30 x.2.2.1))) (law16_CheckForks_vc x.1 x.2.1 x.2.2.1 x.2.2.2.1 x.2.2.2.2.1 x.2.2.2.2.2.1 (fine_ok ok.2.1) (fine_ok ok.2.2.1) (fine_ok ok.2.2.2.1)) (by kernel_rfl)

end Go.Sal
