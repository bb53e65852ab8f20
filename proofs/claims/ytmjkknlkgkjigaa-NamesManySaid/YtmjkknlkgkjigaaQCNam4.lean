/- List's contract: the library's sort. -/
import Derived.Test.YtmjkknlkgkjigaaQCNam3
import Derived.Test.YtmjkknlkgkjigaaQCLay
set_option maxRecDepth 100000
namespace Go.Sal
open Go.Vse Go.Sal.Nm

theorem stringslite_HasPrefix_spec : Vse.Spec P f_internal_stringslite_HasPrefix c_HasPrefix := spec_fn (l := []) trivial h_internal_stringslite_HasPrefix rfl rfl fun x _ _ => body_ok an_none (stringslite_HasPrefix_vc x.1 x.2.1) (by kernel_rfl)
theorem strings_HasPrefix_spec : Vse.Spec P f_strings_HasPrefix c_HasPrefix := spec_fn (l := [(f_internal_stringslite_HasPrefix, c_HasPrefix)]) ⟨stringslite_HasPrefix_spec, trivial⟩ h_strings_HasPrefix rfl rfl fun x _ _ => body_ok an_none (strings_HasPrefix_vc x.1 x.2.1) (by kernel_rfl)
theorem cmp_isNaN_spec : Vse.Spec P f_cmp_isNaNarstring c_isNaN := spec_fn (l := []) trivial h_cmp_isNaNarstring rfl rfl fun x _ _ => body_ok an_none (cmp_isNaN_vc x.1) (by kernel_rfl)
theorem cmp_Compare_spec : Vse.Spec P f_cmp_Comparearstring c_cmpS := spec_fn (l := [(f_cmp_isNaNarstring, c_isNaN)]) ⟨cmp_isNaN_spec, trivial⟩ h_cmp_Comparearstring rfl rfl fun x _ _ => body_ok an_none (cmp_Compare_vc x.1 x.2.1) (by kernel_rfl)
theorem names_Lf1_spec : Vse.Spec P f_names_Names_List_f1 c_Lf1 := spec_fn (l := [(f_cmp_Comparearstring, c_cmpS)]) ⟨cmp_Compare_spec, trivial⟩ h_names_Names_List_f1 rfl rfl fun x _ _ => body_ok an_none (names_Lf1_vc x.1 x.2.1) (by kernel_rfl)
theorem slices_SortFunc_File_spec : Vse.Spec P f_slices_SortFunc_File (c_sortF t_api_File T_File f_names_Names_List_f1 cmpF) :=
  spec_sortF rfl (by decide) names_Lf1_spec swoF ⟨_, _, h_slices_SortFunc_File, rfl, rfl⟩
    (fun α _ enc hk h1 cf hO blk cap d w hc hH hb hd => Go.Proofs.AnyQ.slices_SortFunc Go.Proofs.Try.sortFile 4 Go.Proofs.Try.isAgg49 Go.Proofs.Try.sizeOf49 enc hk h1 cf hO f_names_Names_List_f1 #[] blk 0 cap d w (Go.Proofs.enters_of Go.Proofs.Try.func35 (by kernel_rfl) rfl) hc hH hb hd)
    (fun p cap fv w => Go.Proofs.AnyF.slices_SortFunc_none Go.Proofs.Try.sortFile p cap fv w)
theorem names_List_spec : Vse.Spec P f_names_Names_List c_nList := spec_gm (l := [(f_names_Names_made, c_nMade), (f_strings_HasPrefix, c_HasPrefix), (f_names_own, c_own), (f_slices_SortFunc_File, c_sortF t_api_File T_File f_names_Names_List_f1 cmpF)]) ⟨names_made_spec, strings_HasPrefix_spec, names_own_spec, slices_SortFunc_File_spec, trivial⟩ h_names_Names_List rfl rfl fun s x h ok _ => by
  obtain ⟨es, _⟩ := s
  obtain ⟨pre, _⟩ := x
  exact bodyG_ok (an_List es pre) (names_List_vc es pre h.1 h.2 ok.2.1) (by kernel_rfl)
end Go.Sal
