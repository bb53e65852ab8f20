/- The numbers of this translation's functions and types, by name: written by a program of this session. -/
import Derived.Test.YtmjkknlkgkjigaaProg
import Derived.Test.YtmjkknlkgkjigaaQVseTyped
namespace Go.Sal.Nm
open Go.Vse
@[reducible] noncomputable def P : Program := Go.Proofs.Try.prog
-- saltern/salternlaw15.NamesSlices
abbrev f_law15_NamesSlices : Nat := 3
@[reducible] noncomputable def b_law15_NamesSlices : Func := Go.Proofs.Try.f3
theorem h_law15_NamesSlices : P.funcs[f_law15_NamesSlices]? = some b_law15_NamesSlices := Go.Proofs.Try.func3
-- saltern/salternlaw15.NamesLast
abbrev f_law15_NamesLast : Nat := 4
@[reducible] noncomputable def b_law15_NamesLast : Func := Go.Proofs.Try.f4
theorem h_law15_NamesLast : P.funcs[f_law15_NamesLast]? = some b_law15_NamesLast := Go.Proofs.Try.func4
-- saltern/salternlaw15.NamesFolds
abbrev f_law15_NamesFolds : Nat := 5
@[reducible] noncomputable def b_law15_NamesFolds : Func := Go.Proofs.Try.f5
theorem h_law15_NamesFolds : P.funcs[f_law15_NamesFolds]? = some b_law15_NamesFolds := Go.Proofs.Try.func5
-- saltern/salternlaw15.NamesMany
abbrev f_law15_NamesMany : Nat := 6
@[reducible] noncomputable def b_law15_NamesMany : Func := Go.Proofs.Try.f6
theorem h_law15_NamesMany : P.funcs[f_law15_NamesMany]? = some b_law15_NamesMany := Go.Proofs.Try.func6
-- saltern/salternlaw15.NamesRuns
abbrev f_law15_NamesRuns : Nat := 7
@[reducible] noncomputable def b_law15_NamesRuns : Func := Go.Proofs.Try.f7
theorem h_law15_NamesRuns : P.funcs[f_law15_NamesRuns]? = some b_law15_NamesRuns := Go.Proofs.Try.func7
-- saltern/salternlaw15.NamesNobody
abbrev f_law15_NamesNobody : Nat := 8
@[reducible] noncomputable def b_law15_NamesNobody : Func := Go.Proofs.Try.f8
theorem h_law15_NamesNobody : P.funcs[f_law15_NamesNobody]? = some b_law15_NamesNobody := Go.Proofs.Try.func8
-- saltern/names.Of
abbrev f_names_Of : Nat := 9
@[reducible] noncomputable def b_names_Of : Func := Go.Proofs.Try.f9
theorem h_names_Of : P.funcs[f_names_Of]? = some b_names_Of := Go.Proofs.Try.func9
-- (*saltern/names.Names).Seek
abbrev f_names_Names_Seek : Nat := 10
@[reducible] noncomputable def b_names_Names_Seek : Func := Go.Proofs.Try.f10
theorem h_names_Names_Seek : P.funcs[f_names_Names_Seek]? = some b_names_Names_Seek := Go.Proofs.Try.func10
-- saltern/salternlaw15.alive
abbrev f_law15_alive : Nat := 11
@[reducible] noncomputable def b_law15_alive : Func := Go.Proofs.Try.f11
theorem h_law15_alive : P.funcs[f_law15_alive]? = some b_law15_alive := Go.Proofs.Try.func11
-- saltern/salternlaw15.few
abbrev f_law15_few : Nat := 12
@[reducible] noncomputable def b_law15_few : Func := Go.Proofs.Try.f12
theorem h_law15_few : P.funcs[f_law15_few]? = some b_law15_few := Go.Proofs.Try.func12
-- saltern/names.New
abbrev f_names_New : Nat := 13
@[reducible] noncomputable def b_names_New : Func := Go.Proofs.Try.f13
theorem h_names_New : P.funcs[f_names_New]? = some b_names_New := Go.Proofs.Try.func13
-- (*saltern/names.Names).Apply
abbrev f_names_Names_Apply : Nat := 14
@[reducible] noncomputable def b_names_Names_Apply : Func := Go.Proofs.Try.f14
theorem h_names_Names_Apply : P.funcs[f_names_Names_Apply]? = some b_names_Names_Apply := Go.Proofs.Try.func14
-- (*saltern/names.Names).Stat
abbrev f_names_Names_Stat : Nat := 15
@[reducible] noncomputable def b_names_Names_Stat : Func := Go.Proofs.Try.f15
theorem h_names_Names_Stat : P.funcs[f_names_Names_Stat]? = some b_names_Names_Stat := Go.Proofs.Try.func15
-- (*saltern/names.Names).Copy
abbrev f_names_Names_Copy : Nat := 16
@[reducible] noncomputable def b_names_Names_Copy : Func := Go.Proofs.Try.f16
theorem h_names_Names_Copy : P.funcs[f_names_Names_Copy]? = some b_names_Names_Copy := Go.Proofs.Try.func16
-- saltern/salternref15.SameFiles
abbrev f_ref15_SameFiles : Nat := 17
@[reducible] noncomputable def b_ref15_SameFiles : Func := Go.Proofs.Try.f17
theorem h_ref15_SameFiles : P.funcs[f_ref15_SameFiles]? = some b_ref15_SameFiles := Go.Proofs.Try.func17
-- saltern/salternref15.Of
abbrev f_ref15_Of : Nat := 18
@[reducible] noncomputable def b_ref15_Of : Func := Go.Proofs.Try.f18
theorem h_ref15_Of : P.funcs[f_ref15_Of]? = some b_ref15_Of := Go.Proofs.Try.func18
-- (*saltern/names.Names).List
abbrev f_names_Names_List : Nat := 19
@[reducible] noncomputable def b_names_Names_List : Func := Go.Proofs.Try.f19
theorem h_names_Names_List : P.funcs[f_names_Names_List]? = some b_names_Names_List := Go.Proofs.Try.func19
-- saltern/salternlaw15.number
abbrev f_law15_number : Nat := 20
@[reducible] noncomputable def b_law15_number : Func := Go.Proofs.Try.f20
theorem h_law15_number : P.funcs[f_law15_number]? = some b_law15_number := Go.Proofs.Try.func20
-- (*saltern/salternref15.Names).May
abbrev f_ref15_Names_May : Nat := 21
@[reducible] noncomputable def b_ref15_Names_May : Func := Go.Proofs.Try.f21
theorem h_ref15_Names_May : P.funcs[f_ref15_Names_May]? = some b_ref15_Names_May := Go.Proofs.Try.func21
-- (*saltern/names.Names).May
abbrev f_names_Names_May : Nat := 22
@[reducible] noncomputable def b_names_Names_May : Func := Go.Proofs.Try.f22
theorem h_names_Names_May : P.funcs[f_names_Names_May]? = some b_names_Names_May := Go.Proofs.Try.func22
-- (*saltern/salternref15.Names).Apply
abbrev f_ref15_Names_Apply : Nat := 23
@[reducible] noncomputable def b_ref15_Names_Apply : Func := Go.Proofs.Try.f23
theorem h_ref15_Names_Apply : P.funcs[f_ref15_Names_Apply]? = some b_ref15_Names_Apply := Go.Proofs.Try.func23
-- saltern/salternlaw15.look
abbrev f_law15_look : Nat := 24
@[reducible] noncomputable def b_law15_look : Func := Go.Proofs.Try.f24
theorem h_law15_look : P.funcs[f_law15_look]? = some b_law15_look := Go.Proofs.Try.func24
-- (*saltern/names.Names).Digests
abbrev f_names_Names_Digests : Nat := 25
@[reducible] noncomputable def b_names_Names_Digests : Func := Go.Proofs.Try.f25
theorem h_names_Names_Digests : P.funcs[f_names_Names_Digests]? = some b_names_Names_Digests := Go.Proofs.Try.func25
-- saltern/names.ends
abbrev f_names_ends : Nat := 26
@[reducible] noncomputable def b_names_ends : Func := Go.Proofs.Try.f26
theorem h_names_ends : P.funcs[f_names_ends]? = some b_names_ends := Go.Proofs.Try.func26
-- sort.Search
abbrev f_sort_Search : Nat := 27
@[reducible] noncomputable def b_sort_Search : Func := Go.Proofs.Try.f27
theorem h_sort_Search : P.funcs[f_sort_Search]? = some b_sort_Search := Go.Proofs.Try.func27
-- (*saltern/names.Names).Seek$1
abbrev f_names_Names_Seek_f1 : Nat := 28
@[reducible] noncomputable def b_names_Names_Seek_f1 : Func := Go.Proofs.Try.f28
theorem h_names_Names_Seek_f1 : P.funcs[f_names_Names_Seek_f1]? = some b_names_Names_Seek_f1 := Go.Proofs.Try.func28
-- saltern/salternlaw15.file
abbrev f_law15_file : Nat := 29
@[reducible] noncomputable def b_law15_file : Func := Go.Proofs.Try.f29
theorem h_law15_file : P.funcs[f_law15_file]? = some b_law15_file := Go.Proofs.Try.func29
-- saltern/record.Size
abbrev f_record_Size : Nat := 30
@[reducible] noncomputable def b_record_Size : Func := Go.Proofs.Try.f30
theorem h_record_Size : P.funcs[f_record_Size]? = some b_record_Size := Go.Proofs.Try.func30
-- saltern/names.own
abbrev f_names_own : Nat := 31
@[reducible] noncomputable def b_names_own : Func := Go.Proofs.Try.f31
theorem h_names_own : P.funcs[f_names_own]? = some b_names_own := Go.Proofs.Try.func31
-- (*saltern/names.Names).made
abbrev f_names_Names_made : Nat := 32
@[reducible] noncomputable def b_names_Names_made : Func := Go.Proofs.Try.f32
theorem h_names_Names_made : P.funcs[f_names_Names_made]? = some b_names_Names_made := Go.Proofs.Try.func32
-- strings.HasPrefix
abbrev f_strings_HasPrefix : Nat := 33
@[reducible] noncomputable def b_strings_HasPrefix : Func := Go.Proofs.Try.f33
theorem h_strings_HasPrefix : P.funcs[f_strings_HasPrefix]? = some b_strings_HasPrefix := Go.Proofs.Try.func33
-- slices.SortFunc[[]saltern/api.File,saltern/api.File]
abbrev f_slices_SortFunc_File : Nat := 34
@[reducible] noncomputable def b_slices_SortFunc_File : Func := Go.Proofs.Try.f34
theorem h_slices_SortFunc_File : P.funcs[f_slices_SortFunc_File]? = some b_slices_SortFunc_File := Go.Proofs.Try.func34
-- (*saltern/names.Names).List$1
abbrev f_names_Names_List_f1 : Nat := 35
@[reducible] noncomputable def b_names_Names_List_f1 : Func := Go.Proofs.Try.f35
theorem h_names_Names_List_f1 : P.funcs[f_names_Names_List_f1]? = some b_names_Names_List_f1 := Go.Proofs.Try.func35
-- cmp.Compare[string]
abbrev f_cmp_Comparearstring : Nat := 36
@[reducible] noncomputable def b_cmp_Comparearstring : Func := Go.Proofs.Try.f36
theorem h_cmp_Comparearstring : P.funcs[f_cmp_Comparearstring]? = some b_cmp_Comparearstring := Go.Proofs.Try.func36
-- saltern/salternref13.Check
abbrev f_ref13_Check : Nat := 37
@[reducible] noncomputable def b_ref13_Check : Func := Go.Proofs.Try.f37
theorem h_ref13_Check : P.funcs[f_ref13_Check]? = some b_ref13_Check := Go.Proofs.Try.func37
-- (*saltern/salternref15.Names).find
abbrev f_ref15_Names_find : Nat := 38
@[reducible] noncomputable def b_ref15_Names_find : Func := Go.Proofs.Try.f38
theorem h_ref15_Names_find : P.funcs[f_ref15_Names_find]? = some b_ref15_Names_find := Go.Proofs.Try.func38
-- saltern/record.Check
abbrev f_record_Check : Nat := 39
@[reducible] noncomputable def b_record_Check : Func := Go.Proofs.Try.f39
theorem h_record_Check : P.funcs[f_record_Check]? = some b_record_Check := Go.Proofs.Try.func39
-- saltern/salternref13.Size
abbrev f_ref13_Size : Nat := 40
@[reducible] noncomputable def b_ref13_Size : Func := Go.Proofs.Try.f40
theorem h_ref13_Size : P.funcs[f_ref13_Size]? = some b_ref13_Size := Go.Proofs.Try.func40
-- (*saltern/salternref15.Names).Stat
abbrev f_ref15_Names_Stat : Nat := 41
@[reducible] noncomputable def b_ref15_Names_Stat : Func := Go.Proofs.Try.f41
theorem h_ref15_Names_Stat : P.funcs[f_ref15_Names_Stat]? = some b_ref15_Names_Stat := Go.Proofs.Try.func41
-- (*saltern/salternref15.Names).Seek
abbrev f_ref15_Names_Seek : Nat := 42
@[reducible] noncomputable def b_ref15_Names_Seek : Func := Go.Proofs.Try.f42
theorem h_ref15_Names_Seek : P.funcs[f_ref15_Names_Seek]? = some b_ref15_Names_Seek := Go.Proofs.Try.func42
-- saltern/salternref15.SameParts
abbrev f_ref15_SameParts : Nat := 43
@[reducible] noncomputable def b_ref15_SameParts : Func := Go.Proofs.Try.f43
theorem h_ref15_SameParts : P.funcs[f_ref15_SameParts]? = some b_ref15_SameParts := Go.Proofs.Try.func43
-- (*saltern/salternref15.Names).List
abbrev f_ref15_Names_List : Nat := 44
@[reducible] noncomputable def b_ref15_Names_List : Func := Go.Proofs.Try.f44
theorem h_ref15_Names_List : P.funcs[f_ref15_Names_List]? = some b_ref15_Names_List := Go.Proofs.Try.func44
-- saltern/salternref15.SameDigests
abbrev f_ref15_SameDigests : Nat := 45
@[reducible] noncomputable def b_ref15_SameDigests : Func := Go.Proofs.Try.f45
theorem h_ref15_SameDigests : P.funcs[f_ref15_SameDigests]? = some b_ref15_SameDigests := Go.Proofs.Try.func45
-- (*saltern/salternref15.Names).Digests
abbrev f_ref15_Names_Digests : Nat := 46
@[reducible] noncomputable def b_ref15_Names_Digests : Func := Go.Proofs.Try.f46
theorem h_ref15_Names_Digests : P.funcs[f_ref15_Names_Digests]? = some b_ref15_Names_Digests := Go.Proofs.Try.func46
-- slices.SortedFunc[saltern/api.Digest]
abbrev f_slices_SortedFuncarapi_Digest : Nat := 47
@[reducible] noncomputable def b_slices_SortedFuncarapi_Digest : Func := Go.Proofs.Try.f47
theorem h_slices_SortedFuncarapi_Digest : P.funcs[f_slices_SortedFuncarapi_Digest]? = some b_slices_SortedFuncarapi_Digest := Go.Proofs.Try.func47
-- maps.Keys[map[saltern/api.Digest]struct{},saltern/api.Digest,struct{}]
abbrev f_maps_Keys_Digest_struct : Nat := 48
@[reducible] noncomputable def b_maps_Keys_Digest_struct : Func := Go.Proofs.Try.f48
theorem h_maps_Keys_Digest_struct : P.funcs[f_maps_Keys_Digest_struct]? = some b_maps_Keys_Digest_struct := Go.Proofs.Try.func48
-- (*saltern/names.Names).Digests$1
abbrev f_names_Names_Digests_f1 : Nat := 49
@[reducible] noncomputable def b_names_Names_Digests_f1 : Func := Go.Proofs.Try.f49
theorem h_names_Names_Digests_f1 : P.funcs[f_names_Names_Digests_f1]? = some b_names_Names_Digests_f1 := Go.Proofs.Try.func49
-- bytes.Compare
abbrev f_bytes_Compare : Nat := 50
@[reducible] noncomputable def b_bytes_Compare : Func := Go.Proofs.Try.f50
theorem h_bytes_Compare : P.funcs[f_bytes_Compare]? = some b_bytes_Compare := Go.Proofs.Try.func50
-- slices.Clone[[]saltern/api.Piece,saltern/api.Piece]
abbrev f_slices_Clone_Piece : Nat := 51
@[reducible] noncomputable def b_slices_Clone_Piece : Func := Go.Proofs.Try.f51
theorem h_slices_Clone_Piece : P.funcs[f_slices_Clone_Piece]? = some b_slices_Clone_Piece := Go.Proofs.Try.func51
-- internal/stringslite.HasPrefix
abbrev f_internal_stringslite_HasPrefix : Nat := 52
@[reducible] noncomputable def b_internal_stringslite_HasPrefix : Func := Go.Proofs.Try.f52
theorem h_internal_stringslite_HasPrefix : P.funcs[f_internal_stringslite_HasPrefix]? = some b_internal_stringslite_HasPrefix := Go.Proofs.Try.func52
-- slices.pdqsortCmpFunc[saltern/api.File]
abbrev f_slices_pdqsortCmpFuncarapi_File : Nat := 53
@[reducible] noncomputable def b_slices_pdqsortCmpFuncarapi_File : Func := Go.Proofs.Try.f53
theorem h_slices_pdqsortCmpFuncarapi_File : P.funcs[f_slices_pdqsortCmpFuncarapi_File]? = some b_slices_pdqsortCmpFuncarapi_File := Go.Proofs.Try.func53
-- math/bits.Len
abbrev f_math_bits_Len : Nat := 54
@[reducible] noncomputable def b_math_bits_Len : Func := Go.Proofs.Try.f54
theorem h_math_bits_Len : P.funcs[f_math_bits_Len]? = some b_math_bits_Len := Go.Proofs.Try.func54
-- cmp.isNaN[string]
abbrev f_cmp_isNaNarstring : Nat := 55
@[reducible] noncomputable def b_cmp_isNaNarstring : Func := Go.Proofs.Try.f55
theorem h_cmp_isNaNarstring : P.funcs[f_cmp_isNaNarstring]? = some b_cmp_isNaNarstring := Go.Proofs.Try.func55
-- saltern/salternref13.IsPath
abbrev f_ref13_IsPath : Nat := 56
@[reducible] noncomputable def b_ref13_IsPath : Func := Go.Proofs.Try.f56
theorem h_ref13_IsPath : P.funcs[f_ref13_IsPath]? = some b_ref13_IsPath := Go.Proofs.Try.func56
-- saltern/record.fits
abbrev f_record_fits : Nat := 57
@[reducible] noncomputable def b_record_fits : Func := Go.Proofs.Try.f57
theorem h_record_fits : P.funcs[f_record_fits]? = some b_record_fits := Go.Proofs.Try.func57
-- saltern/salternref15.Parts
abbrev f_ref15_Parts : Nat := 58
@[reducible] noncomputable def b_ref15_Parts : Func := Go.Proofs.Try.f58
theorem h_ref15_Parts : P.funcs[f_ref15_Parts]? = some b_ref15_Parts := Go.Proofs.Try.func58
-- saltern/salternref15.Into
abbrev f_ref15_Into : Nat := 59
@[reducible] noncomputable def b_ref15_Into : Func := Go.Proofs.Try.f59
theorem h_ref15_Into : P.funcs[f_ref15_Into]? = some b_ref15_Into := Go.Proofs.Try.func59
-- slices.Collect[saltern/api.Digest]
abbrev f_slices_Collectarapi_Digest : Nat := 60
@[reducible] noncomputable def b_slices_Collectarapi_Digest : Func := Go.Proofs.Try.f60
theorem h_slices_Collectarapi_Digest : P.funcs[f_slices_Collectarapi_Digest]? = some b_slices_Collectarapi_Digest := Go.Proofs.Try.func60
-- slices.SortFunc[[]saltern/api.Digest,saltern/api.Digest]
abbrev f_slices_SortFunc_Digest : Nat := 61
@[reducible] noncomputable def b_slices_SortFunc_Digest : Func := Go.Proofs.Try.f61
theorem h_slices_SortFunc_Digest : P.funcs[f_slices_SortFunc_Digest]? = some b_slices_SortFunc_Digest := Go.Proofs.Try.func61
-- maps.Keys[map[saltern/api.Digest]struct{},saltern/api.Digest,struct{}]$1
abbrev f_maps_Keysarmaparapi_Digest_struct_api_Digest_struct_f1 : Nat := 62
@[reducible] noncomputable def b_maps_Keysarmaparapi_Digest_struct_api_Digest_struct_f1 : Func := Go.Proofs.Try.f62
theorem h_maps_Keysarmaparapi_Digest_struct_api_Digest_struct_f1 : P.funcs[f_maps_Keysarmaparapi_Digest_struct_api_Digest_struct_f1]? = some b_maps_Keysarmaparapi_Digest_struct_api_Digest_struct_f1 := Go.Proofs.Try.func62
-- internal/bytealg.Compare
abbrev f_internal_bytealg_Compare : Nat := 63
@[reducible] noncomputable def b_internal_bytealg_Compare : Func := Go.Proofs.Try.f63
theorem h_internal_bytealg_Compare : P.funcs[f_internal_bytealg_Compare]? = some b_internal_bytealg_Compare := Go.Proofs.Try.func63
-- slices.insertionSortCmpFunc[saltern/api.File]
abbrev f_slices_insertionSortCmpFuncarapi_File : Nat := 64
@[reducible] noncomputable def b_slices_insertionSortCmpFuncarapi_File : Func := Go.Proofs.Try.f64
theorem h_slices_insertionSortCmpFuncarapi_File : P.funcs[f_slices_insertionSortCmpFuncarapi_File]? = some b_slices_insertionSortCmpFuncarapi_File := Go.Proofs.Try.func64
-- slices.heapSortCmpFunc[saltern/api.File]
abbrev f_slices_heapSortCmpFuncarapi_File : Nat := 65
@[reducible] noncomputable def b_slices_heapSortCmpFuncarapi_File : Func := Go.Proofs.Try.f65
theorem h_slices_heapSortCmpFuncarapi_File : P.funcs[f_slices_heapSortCmpFuncarapi_File]? = some b_slices_heapSortCmpFuncarapi_File := Go.Proofs.Try.func65
-- slices.breakPatternsCmpFunc[saltern/api.File]
abbrev f_slices_breakPatternsCmpFuncarapi_File : Nat := 66
@[reducible] noncomputable def b_slices_breakPatternsCmpFuncarapi_File : Func := Go.Proofs.Try.f66
theorem h_slices_breakPatternsCmpFuncarapi_File : P.funcs[f_slices_breakPatternsCmpFuncarapi_File]? = some b_slices_breakPatternsCmpFuncarapi_File := Go.Proofs.Try.func66
-- slices.choosePivotCmpFunc[saltern/api.File]
abbrev f_slices_choosePivotCmpFuncarapi_File : Nat := 67
@[reducible] noncomputable def b_slices_choosePivotCmpFuncarapi_File : Func := Go.Proofs.Try.f67
theorem h_slices_choosePivotCmpFuncarapi_File : P.funcs[f_slices_choosePivotCmpFuncarapi_File]? = some b_slices_choosePivotCmpFuncarapi_File := Go.Proofs.Try.func67
-- slices.reverseRangeCmpFunc[saltern/api.File]
abbrev f_slices_reverseRangeCmpFuncarapi_File : Nat := 68
@[reducible] noncomputable def b_slices_reverseRangeCmpFuncarapi_File : Func := Go.Proofs.Try.f68
theorem h_slices_reverseRangeCmpFuncarapi_File : P.funcs[f_slices_reverseRangeCmpFuncarapi_File]? = some b_slices_reverseRangeCmpFuncarapi_File := Go.Proofs.Try.func68
-- slices.partialInsertionSortCmpFunc[saltern/api.File]
abbrev f_slices_partialInsertionSortCmpFuncarapi_File : Nat := 69
@[reducible] noncomputable def b_slices_partialInsertionSortCmpFuncarapi_File : Func := Go.Proofs.Try.f69
theorem h_slices_partialInsertionSortCmpFuncarapi_File : P.funcs[f_slices_partialInsertionSortCmpFuncarapi_File]? = some b_slices_partialInsertionSortCmpFuncarapi_File := Go.Proofs.Try.func69
-- slices.partitionEqualCmpFunc[saltern/api.File]
abbrev f_slices_partitionEqualCmpFuncarapi_File : Nat := 70
@[reducible] noncomputable def b_slices_partitionEqualCmpFuncarapi_File : Func := Go.Proofs.Try.f70
theorem h_slices_partitionEqualCmpFuncarapi_File : P.funcs[f_slices_partitionEqualCmpFuncarapi_File]? = some b_slices_partitionEqualCmpFuncarapi_File := Go.Proofs.Try.func70
-- slices.partitionCmpFunc[saltern/api.File]
abbrev f_slices_partitionCmpFuncarapi_File : Nat := 71
@[reducible] noncomputable def b_slices_partitionCmpFuncarapi_File : Func := Go.Proofs.Try.f71
theorem h_slices_partitionCmpFuncarapi_File : P.funcs[f_slices_partitionCmpFuncarapi_File]? = some b_slices_partitionCmpFuncarapi_File := Go.Proofs.Try.func71
-- math/bits.Len32
abbrev f_math_bits_Len32 : Nat := 72
@[reducible] noncomputable def b_math_bits_Len32 : Func := Go.Proofs.Try.f72
theorem h_math_bits_Len32 : P.funcs[f_math_bits_Len32]? = some b_math_bits_Len32 := Go.Proofs.Try.func72
-- math/bits.Len64
abbrev f_math_bits_Len64 : Nat := 73
@[reducible] noncomputable def b_math_bits_Len64 : Func := Go.Proofs.Try.f73
theorem h_math_bits_Len64 : P.funcs[f_math_bits_Len64]? = some b_math_bits_Len64 := Go.Proofs.Try.func73
-- saltern/record.IsPath
abbrev f_record_IsPath : Nat := 74
@[reducible] noncomputable def b_record_IsPath : Func := Go.Proofs.Try.f74
theorem h_record_IsPath : P.funcs[f_record_IsPath]? = some b_record_IsPath := Go.Proofs.Try.func74
-- saltern/salternref15.Less
abbrev f_ref15_Less : Nat := 75
@[reducible] noncomputable def b_ref15_Less : Func := Go.Proofs.Try.f75
theorem h_ref15_Less : P.funcs[f_ref15_Less]? = some b_ref15_Less := Go.Proofs.Try.func75
-- slices.AppendSeq[[]saltern/api.Digest,saltern/api.Digest]
abbrev f_slices_AppendSeq_Digest : Nat := 76
@[reducible] noncomputable def b_slices_AppendSeq_Digest : Func := Go.Proofs.Try.f76
theorem h_slices_AppendSeq_Digest : P.funcs[f_slices_AppendSeq_Digest]? = some b_slices_AppendSeq_Digest := Go.Proofs.Try.func76
-- slices.pdqsortCmpFunc[saltern/api.Digest]
abbrev f_slices_pdqsortCmpFuncarapi_Digest : Nat := 77
@[reducible] noncomputable def b_slices_pdqsortCmpFuncarapi_Digest : Func := Go.Proofs.Try.f77
theorem h_slices_pdqsortCmpFuncarapi_Digest : P.funcs[f_slices_pdqsortCmpFuncarapi_Digest]? = some b_slices_pdqsortCmpFuncarapi_Digest := Go.Proofs.Try.func77
-- slices.siftDownCmpFunc[saltern/api.File]
abbrev f_slices_siftDownCmpFuncarapi_File : Nat := 78
@[reducible] noncomputable def b_slices_siftDownCmpFuncarapi_File : Func := Go.Proofs.Try.f78
theorem h_slices_siftDownCmpFuncarapi_File : P.funcs[f_slices_siftDownCmpFuncarapi_File]? = some b_slices_siftDownCmpFuncarapi_File := Go.Proofs.Try.func78
-- slices.nextPowerOfTwo
abbrev f_slices_nextPowerOfTwo : Nat := 79
@[reducible] noncomputable def b_slices_nextPowerOfTwo : Func := Go.Proofs.Try.f79
theorem h_slices_nextPowerOfTwo : P.funcs[f_slices_nextPowerOfTwo]? = some b_slices_nextPowerOfTwo := Go.Proofs.Try.func79
-- (*slices.xorshift).Next
abbrev f_slices_xorshift_Next : Nat := 80
@[reducible] noncomputable def b_slices_xorshift_Next : Func := Go.Proofs.Try.f80
theorem h_slices_xorshift_Next : P.funcs[f_slices_xorshift_Next]? = some b_slices_xorshift_Next := Go.Proofs.Try.func80
-- slices.medianAdjacentCmpFunc[saltern/api.File]
abbrev f_slices_medianAdjacentCmpFuncarapi_File : Nat := 81
@[reducible] noncomputable def b_slices_medianAdjacentCmpFuncarapi_File : Func := Go.Proofs.Try.f81
theorem h_slices_medianAdjacentCmpFuncarapi_File : P.funcs[f_slices_medianAdjacentCmpFuncarapi_File]? = some b_slices_medianAdjacentCmpFuncarapi_File := Go.Proofs.Try.func81
-- slices.medianCmpFunc[saltern/api.File]
abbrev f_slices_medianCmpFuncarapi_File : Nat := 82
@[reducible] noncomputable def b_slices_medianCmpFuncarapi_File : Func := Go.Proofs.Try.f82
theorem h_slices_medianCmpFuncarapi_File : P.funcs[f_slices_medianCmpFuncarapi_File]? = some b_slices_medianCmpFuncarapi_File := Go.Proofs.Try.func82
-- slices.insertionSortCmpFunc[saltern/api.Digest]
abbrev f_slices_insertionSortCmpFuncarapi_Digest : Nat := 83
@[reducible] noncomputable def b_slices_insertionSortCmpFuncarapi_Digest : Func := Go.Proofs.Try.f83
theorem h_slices_insertionSortCmpFuncarapi_Digest : P.funcs[f_slices_insertionSortCmpFuncarapi_Digest]? = some b_slices_insertionSortCmpFuncarapi_Digest := Go.Proofs.Try.func83
-- slices.heapSortCmpFunc[saltern/api.Digest]
abbrev f_slices_heapSortCmpFuncarapi_Digest : Nat := 84
@[reducible] noncomputable def b_slices_heapSortCmpFuncarapi_Digest : Func := Go.Proofs.Try.f84
theorem h_slices_heapSortCmpFuncarapi_Digest : P.funcs[f_slices_heapSortCmpFuncarapi_Digest]? = some b_slices_heapSortCmpFuncarapi_Digest := Go.Proofs.Try.func84
-- slices.breakPatternsCmpFunc[saltern/api.Digest]
abbrev f_slices_breakPatternsCmpFuncarapi_Digest : Nat := 85
@[reducible] noncomputable def b_slices_breakPatternsCmpFuncarapi_Digest : Func := Go.Proofs.Try.f85
theorem h_slices_breakPatternsCmpFuncarapi_Digest : P.funcs[f_slices_breakPatternsCmpFuncarapi_Digest]? = some b_slices_breakPatternsCmpFuncarapi_Digest := Go.Proofs.Try.func85
-- slices.choosePivotCmpFunc[saltern/api.Digest]
abbrev f_slices_choosePivotCmpFuncarapi_Digest : Nat := 86
@[reducible] noncomputable def b_slices_choosePivotCmpFuncarapi_Digest : Func := Go.Proofs.Try.f86
theorem h_slices_choosePivotCmpFuncarapi_Digest : P.funcs[f_slices_choosePivotCmpFuncarapi_Digest]? = some b_slices_choosePivotCmpFuncarapi_Digest := Go.Proofs.Try.func86
-- slices.reverseRangeCmpFunc[saltern/api.Digest]
abbrev f_slices_reverseRangeCmpFuncarapi_Digest : Nat := 87
@[reducible] noncomputable def b_slices_reverseRangeCmpFuncarapi_Digest : Func := Go.Proofs.Try.f87
theorem h_slices_reverseRangeCmpFuncarapi_Digest : P.funcs[f_slices_reverseRangeCmpFuncarapi_Digest]? = some b_slices_reverseRangeCmpFuncarapi_Digest := Go.Proofs.Try.func87
-- slices.partialInsertionSortCmpFunc[saltern/api.Digest]
abbrev f_slices_partialInsertionSortCmpFuncarapi_Digest : Nat := 88
@[reducible] noncomputable def b_slices_partialInsertionSortCmpFuncarapi_Digest : Func := Go.Proofs.Try.f88
theorem h_slices_partialInsertionSortCmpFuncarapi_Digest : P.funcs[f_slices_partialInsertionSortCmpFuncarapi_Digest]? = some b_slices_partialInsertionSortCmpFuncarapi_Digest := Go.Proofs.Try.func88
-- slices.partitionEqualCmpFunc[saltern/api.Digest]
abbrev f_slices_partitionEqualCmpFuncarapi_Digest : Nat := 89
@[reducible] noncomputable def b_slices_partitionEqualCmpFuncarapi_Digest : Func := Go.Proofs.Try.f89
theorem h_slices_partitionEqualCmpFuncarapi_Digest : P.funcs[f_slices_partitionEqualCmpFuncarapi_Digest]? = some b_slices_partitionEqualCmpFuncarapi_Digest := Go.Proofs.Try.func89
-- slices.partitionCmpFunc[saltern/api.Digest]
abbrev f_slices_partitionCmpFuncarapi_Digest : Nat := 90
@[reducible] noncomputable def b_slices_partitionCmpFuncarapi_Digest : Func := Go.Proofs.Try.f90
theorem h_slices_partitionCmpFuncarapi_Digest : P.funcs[f_slices_partitionCmpFuncarapi_Digest]? = some b_slices_partitionCmpFuncarapi_Digest := Go.Proofs.Try.func90
-- slices.order2CmpFunc[saltern/api.File]
abbrev f_slices_order2CmpFuncarapi_File : Nat := 91
@[reducible] noncomputable def b_slices_order2CmpFuncarapi_File : Func := Go.Proofs.Try.f91
theorem h_slices_order2CmpFuncarapi_File : P.funcs[f_slices_order2CmpFuncarapi_File]? = some b_slices_order2CmpFuncarapi_File := Go.Proofs.Try.func91
-- slices.siftDownCmpFunc[saltern/api.Digest]
abbrev f_slices_siftDownCmpFuncarapi_Digest : Nat := 92
@[reducible] noncomputable def b_slices_siftDownCmpFuncarapi_Digest : Func := Go.Proofs.Try.f92
theorem h_slices_siftDownCmpFuncarapi_Digest : P.funcs[f_slices_siftDownCmpFuncarapi_Digest]? = some b_slices_siftDownCmpFuncarapi_Digest := Go.Proofs.Try.func92
-- slices.medianAdjacentCmpFunc[saltern/api.Digest]
abbrev f_slices_medianAdjacentCmpFuncarapi_Digest : Nat := 93
@[reducible] noncomputable def b_slices_medianAdjacentCmpFuncarapi_Digest : Func := Go.Proofs.Try.f93
theorem h_slices_medianAdjacentCmpFuncarapi_Digest : P.funcs[f_slices_medianAdjacentCmpFuncarapi_Digest]? = some b_slices_medianAdjacentCmpFuncarapi_Digest := Go.Proofs.Try.func93
-- slices.medianCmpFunc[saltern/api.Digest]
abbrev f_slices_medianCmpFuncarapi_Digest : Nat := 94
@[reducible] noncomputable def b_slices_medianCmpFuncarapi_Digest : Func := Go.Proofs.Try.f94
theorem h_slices_medianCmpFuncarapi_Digest : P.funcs[f_slices_medianCmpFuncarapi_Digest]? = some b_slices_medianCmpFuncarapi_Digest := Go.Proofs.Try.func94
-- slices.order2CmpFunc[saltern/api.Digest]
abbrev f_slices_order2CmpFuncarapi_Digest : Nat := 95
@[reducible] noncomputable def b_slices_order2CmpFuncarapi_Digest : Func := Go.Proofs.Try.f95
theorem h_slices_order2CmpFuncarapi_Digest : P.funcs[f_slices_order2CmpFuncarapi_Digest]? = some b_slices_order2CmpFuncarapi_Digest := Go.Proofs.Try.func95
abbrev t_int64 : Nat := 2
abbrev t_int : Nat := 3
abbrev t_bool : Nat := 4
abbrev t_uint8 : Nat := 5
abbrev t_string : Nat := 9
abbrev t_uintptr : Nat := 12
abbrev t_maps_unhashableTypeError : Nat := 19
abbrev t_int32 : Nat := 21
abbrev t_sl_uint16 : Nat := 22
abbrev t_sl_uint8 : Nat := 23
abbrev t_sl_api_Piece : Nat := 24
abbrev t_uint16 : Nat := 25
abbrev t_ar32_uint8 : Nat := 26
abbrev t_api_Digest : Nat := 27
abbrev t_api_Piece : Nat := 29
abbrev t_p_names_Names : Nat := 30
abbrev t_api_Errno : Nat := 31
abbrev t_api_RecordKind : Nat := 34
abbrev t_api_Record : Nat := 36
abbrev t_sl_api_Part : Nat := 37
abbrev t_api_Part : Nat := 42
abbrev t_sl_api_Record : Nat := 44
abbrev t_api_File : Nat := 49
abbrev t_sl_api_File : Nat := 53
abbrev t_p_salternref15_Names : Nat := 55
abbrev t_salternref15_Names : Nat := 60
abbrev t_maparstring_api_File : Nat := 67
abbrev t_names_Names : Nat := 69
abbrev t_sl_p_names_Names : Nat := 70
abbrev t_sl_api_Digest : Nat := 71
abbrev t_sl_int : Nat := 74
abbrev t_iter_Seqarapi_Digest : Nat := 99
abbrev t_uint : Nat := 103
abbrev t_slices_sortedHint : Nat := 115
abbrev t_uint32 : Nat := 123
abbrev t_uint64 : Nat := 125
abbrev t_slices_xorshift : Nat := 129
abbrev t_p_int : Nat := 133
abbrev t_p_slices_xorshift : Nat := 140
abbrev t_p_uint8 : Nat := 155
end Go.Sal.Nm
