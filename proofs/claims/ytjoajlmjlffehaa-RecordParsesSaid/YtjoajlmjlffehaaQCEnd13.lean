/- The laws of chapter 13, but for Parse: their contracts hold. -/
import Derived.Test.YtjoajlmjlffehaaQCLaw13
set_option maxRecDepth 100000
namespace Go.Sal
open Go.Vse Go.Sal.Nm

theorem clonePie_spec : Vse.Spec P f_slices_Clone_Piece c_clonePie :=
  spec_fn (l := []) trivial h_slices_Clone_Piece rfl rfl fun x h _ => body_ok an_none (clonePie_vc x.1 (got h)) (by kernel_rfl)

theorem eqPie_spec : Vse.Spec P f_slices_Equal_Piece c_eqPie :=
  spec_fn (l := []) trivial h_slices_Equal_Piece rfl rfl fun x _ ok => body_ok (an_eqPie x.1 x.2.1) (eqPie_vc x.1 x.2.1 ok.1.1) (by kernel_rfl)

theorem record_Make_spec : Vse.Spec P f_record_Make c_Make :=
  spec_fn (l := [(f_slices_Clone_Piece, c_clonePie), (f_record_Check, c_Check), (f_record_follows, c_follows)]) ⟨clonePie_spec, record_Check_spec, record_follows_spec, trivial⟩ h_record_Make rfl rfl
    fun x h ok => body_ok an_none (record_Make_vc x.1 x.2.1 (got h) ok.1.1) (by kernel_rfl)

theorem ref13_Make_spec : Vse.Spec P f_ref13_Make c_Make :=
  spec_fn (l := [(f_ref13_Next, c_Next)]) ⟨ref13_Next_spec, trivial⟩ h_ref13_Make rfl rfl
    fun x h ok => body_ok an_none (ref13_Make_vc x.1 x.2.1) (by kernel_rfl)

theorem record_Same_spec : Vse.Spec P f_record_Same c_Same :=
  spec_fn (l := [(f_slices_Equal_Piece, c_eqPie)]) ⟨eqPie_spec, trivial⟩ h_record_Same rfl rfl fun x _ _ => body_ok an_none (record_Same_vc x.1 x.2.1) (by kernel_rfl)

theorem ref13_Same_spec : Vse.Spec P f_ref13_Same c_Same :=
  spec_fn (l := []) trivial h_ref13_Same rfl rfl fun x _ ok => body_ok (an_rSame x.1 x.2.1) (ref13_Same_vc x.1 x.2.1 ok.1.2.2.2.2.2.2.1) (by kernel_rfl)

theorem ref13_SameAll_spec : Vse.Spec P f_ref13_SameAll c_SameAll :=
  spec_fn (l := [(f_ref13_Same, c_Same)]) ⟨ref13_Same_spec, trivial⟩ h_ref13_SameAll rfl rfl fun x _ ok => body_ok (an_SameAll x.1 x.2.1) (ref13_SameAll_vc x.1 x.2.1 ok.1.1) (by kernel_rfl)

theorem law13_cut_spec : Vse.Spec P f_law13_cut c_cut :=
  spec_fn (l := []) trivial h_law13_cut rfl rfl fun x _ _ => body_ok an_none (law13_cut_vc x.1) (by kernel_rfl)

theorem law13_few_spec : Vse.Spec P f_law13_few c_few :=
  spec_fn (l := [(f_law13_cut, c_cut)]) ⟨law13_cut_spec, trivial⟩ h_law13_few rfl rfl fun x _ _ => body_ok (an_few x.1) (law13_few_vc x.1) (by kernel_rfl)

theorem law13_alive_spec : Vse.Spec P f_law13_alive c_true :=
  spec_fn (l := [(f_record_Make, c_Make), (f_record_Bytes, c_Bytes), (f_record_Next, c_Next)]) ⟨record_Make_spec, record_Bytes_spec, record_Next_spec, trivial⟩ h_law13_alive rfl rfl
    fun _ _ _ => body_ok an_none law13_alive_vc (by kernel_rfl)

def c_law (ts : List T) : PC := D ts [.bool] (fun _ => none) (fun _ => (true, ()))

theorem law13_RecordEpochs_spec : Vse.Spec P f_law13_RecordEpochs (c_law [T_Head, .slc T_Rec]) :=
  spec_fn (l := [(f_law13_few, c_few), (f_record_Walk, c_Walk), (f_law13_alive, c_true)]) ⟨law13_few_spec, record_Walk_spec, law13_alive_spec, trivial⟩ h_law13_RecordEpochs rfl rfl
    fun x _ _ => body_ok (an_Epochs x.1 (fewV x.2.1)) (law13_RecordEpochs_vc x.1 x.2.1) (by kernel_rfl)

theorem law13_RecordOne_spec : Vse.Spec P f_law13_RecordOne (c_law [.slc T_Rec, .slc T_Rec]) :=
  spec_fn (l := [(f_law13_few, c_few), (f_record_Walk, c_Walk), (f_law13_alive, c_true), (f_ref13_SameAll, c_SameAll), (f_ref13_Chain, c_Chain), (f_ref13_Same, c_Same)])
    ⟨law13_few_spec, record_Walk_spec, law13_alive_spec, ref13_SameAll_spec, ref13_Chain_spec, ref13_Same_spec, trivial⟩ h_law13_RecordOne rfl rfl
    fun x _ _ => body_ok (an_One (fewV x.1) (fewV x.2.1)) (law13_RecordOne_vc x.1 x.2.1) (by kernel_rfl)

theorem law13_RecordWalks_spec : Vse.Spec P f_law13_RecordWalks (c_law [T_Head, .slc T_Rec, T_Rec]) :=
  spec_fn (l := [(f_law13_few, c_few), (f_law13_cut, c_cut), (f_record_Walk, c_Walk), (f_ref13_Walk, c_Walk), (f_record_Next, c_Next), (f_ref13_Next, c_Next), (f_record_Make, c_Make), (f_ref13_Make, c_Make), (f_ref13_Same, c_Same), (f_law13_alive, c_true)])
    ⟨law13_few_spec, law13_cut_spec, record_Walk_spec, ref13_Walk_spec, record_Next_spec, ref13_Next_spec, record_Make_spec, ref13_Make_spec, ref13_Same_spec, law13_alive_spec, trivial⟩ h_law13_RecordWalks rfl rfl
    fun x _ _ => body_ok an_none (law13_RecordWalks_vc x.1 x.2.1 x.2.2.1) (by kernel_rfl)

theorem law13_RecordForms_spec : Vse.Spec P f_law13_RecordForms (c_law [T_Rec, T_Rec, .str, .i64]) :=
  spec_fn (l := [(f_law13_cut, c_cut), (f_record_Bytes, c_Bytes), (f_ref13_Bytes, c_Bytes), (f_record_Chain, c_Chain), (f_ref13_Chain, c_Chain), (f_record_Size, c_Size), (f_ref13_Size, c_Size), (f_record_Check, c_Check), (f_ref13_Check, c_Check), (f_record_IsPath, c_IsPath), (f_ref13_IsPath, c_IsPath), (f_record_Same, c_Same), (f_ref13_Same, c_Same), (f_law13_alive, c_true)])
    ⟨law13_cut_spec, record_Bytes_spec, ref13_Bytes_spec, record_Chain_spec, ref13_Chain_spec, record_Size_spec, ref13_Size_spec, record_Check_spec, ref13_Check_spec, record_IsPath_spec, ref13_IsPath_spec, record_Same_spec, ref13_Same_spec, law13_alive_spec, trivial⟩ h_law13_RecordForms rfl rfl
    fun x _ _ => body_ok an_none (law13_RecordForms_vc x.1 x.2.1 x.2.2.1 x.2.2.2.1) (by kernel_rfl)

end Go.Sal
