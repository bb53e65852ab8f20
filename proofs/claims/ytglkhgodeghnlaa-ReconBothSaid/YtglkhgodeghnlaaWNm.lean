/- The numbers of this translation's functions and types, by name: written by a program of this session. -/
import Derived.Test.YtglkhgodeghnlaaProg
import Derived.Test.YtglkhgodeghnlaaWVseTyped
namespace Go.Sal.Nm
open Go.Vse
@[reducible] noncomputable def P : Program := Go.Proofs.Try.prog
@[reducible] noncomputable def b_law28_ReconResponds : Func := Go.Proofs.Try.f3
@[reducible] noncomputable def b_law28_ReconMeets : Func := Go.Proofs.Try.f4
abbrev f_law28_ReconJust : Nat := 5
@[reducible] noncomputable def b_law28_ReconJust : Func := Go.Proofs.Try.f5
theorem h_law28_ReconJust : P.funcs[f_law28_ReconJust]? = some b_law28_ReconJust := Go.Proofs.Try.func5
abbrev f_law28_ReconBoth : Nat := 6
@[reducible] noncomputable def b_law28_ReconBoth : Func := Go.Proofs.Try.f6
theorem h_law28_ReconBoth : P.funcs[f_law28_ReconBoth]? = some b_law28_ReconBoth := Go.Proofs.Try.func6
@[reducible] noncomputable def b_law28_ReconSums : Func := Go.Proofs.Try.f7
@[reducible] noncomputable def b_law28_ReconForms : Func := Go.Proofs.Try.f8
@[reducible] noncomputable def b_law28_few : Func := Go.Proofs.Try.f9
@[reducible] noncomputable def b_law28_some : Func := Go.Proofs.Try.f10
abbrev f_recon_Respond : Nat := 11
@[reducible] noncomputable def b_recon_Respond : Func := Go.Proofs.Try.f11
theorem h_recon_Respond : P.funcs[f_recon_Respond]? = some b_recon_Respond := Go.Proofs.Try.func11
@[reducible] noncomputable def b_ref28_Respond : Func := Go.Proofs.Try.f12
@[reducible] noncomputable def b_ref28_SameAll : Func := Go.Proofs.Try.f13
abbrev f_ref12_Same : Nat := 14
@[reducible] noncomputable def b_ref12_Same : Func := Go.Proofs.Try.f14
theorem h_ref12_Same : P.funcs[f_ref12_Same]? = some b_ref12_Same := Go.Proofs.Try.func14
abbrev f_law28_awake : Nat := 15
@[reducible] noncomputable def b_law28_awake : Func := Go.Proofs.Try.f15
theorem h_law28_awake : P.funcs[f_law28_awake]? = some b_law28_awake := Go.Proofs.Try.func15
abbrev f_law28_set : Nat := 16
@[reducible] noncomputable def b_law28_set : Func := Go.Proofs.Try.f16
theorem h_law28_set : P.funcs[f_law28_set]? = some b_law28_set := Go.Proofs.Try.func16
abbrev f_recon_Meet : Nat := 17
@[reducible] noncomputable def b_recon_Meet : Func := Go.Proofs.Try.f17
theorem h_recon_Meet : P.funcs[f_recon_Meet]? = some b_recon_Meet := Go.Proofs.Try.func17
@[reducible] noncomputable def b_ref28_Meet : Func := Go.Proofs.Try.f18
abbrev f_law28_without : Nat := 19
@[reducible] noncomputable def b_law28_without : Func := Go.Proofs.Try.f19
theorem h_law28_without : P.funcs[f_law28_without]? = some b_law28_without := Go.Proofs.Try.func19
abbrev f_ref28_Twice : Nat := 20
@[reducible] noncomputable def b_ref28_Twice : Func := Go.Proofs.Try.f20
theorem h_ref28_Twice : P.funcs[f_ref28_Twice]? = some b_ref28_Twice := Go.Proofs.Try.func20
abbrev f_recon_Begin : Nat := 21
@[reducible] noncomputable def b_recon_Begin : Func := Go.Proofs.Try.f21
theorem h_recon_Begin : P.funcs[f_recon_Begin]? = some b_recon_Begin := Go.Proofs.Try.func21
abbrev f_ref20_Rising : Nat := 22
@[reducible] noncomputable def b_ref20_Rising : Func := Go.Proofs.Try.f22
theorem h_ref20_Rising : P.funcs[f_ref20_Rising]? = some b_ref20_Rising := Go.Proofs.Try.func22
@[reducible] noncomputable def b_recon_Below : Func := Go.Proofs.Try.f23
@[reducible] noncomputable def b_ref28_Below : Func := Go.Proofs.Try.f24
@[reducible] noncomputable def b_recon_Sum : Func := Go.Proofs.Try.f25
@[reducible] noncomputable def b_ref28_Sum : Func := Go.Proofs.Try.f26
@[reducible] noncomputable def b_ref28_Begin : Func := Go.Proofs.Try.f27
@[reducible] noncomputable def b_ref28_Same : Func := Go.Proofs.Try.f28
@[reducible] noncomputable def b_recon_Parts : Func := Go.Proofs.Try.f29
@[reducible] noncomputable def b_ref28_Parts : Func := Go.Proofs.Try.f30
abbrev f_recon_Check : Nat := 31
@[reducible] noncomputable def b_recon_Check : Func := Go.Proofs.Try.f31
theorem h_recon_Check : P.funcs[f_recon_Check]? = some b_recon_Check := Go.Proofs.Try.func31
@[reducible] noncomputable def b_ref28_Check : Func := Go.Proofs.Try.f32
abbrev f_recon_Right : Nat := 33
@[reducible] noncomputable def b_recon_Right : Func := Go.Proofs.Try.f33
theorem h_recon_Right : P.funcs[f_recon_Right]? = some b_recon_Right := Go.Proofs.Try.func33
@[reducible] noncomputable def b_ref28_Right : Func := Go.Proofs.Try.f34
abbrev f_recon_Good : Nat := 35
@[reducible] noncomputable def b_recon_Good : Func := Go.Proofs.Try.f35
theorem h_recon_Good : P.funcs[f_recon_Good]? = some b_recon_Good := Go.Proofs.Try.func35
@[reducible] noncomputable def b_ref28_Good : Func := Go.Proofs.Try.f36
@[reducible] noncomputable def b_recon_Same : Func := Go.Proofs.Try.f37
abbrev f_recon_side_items : Nat := 38
@[reducible] noncomputable def b_recon_side_items : Func := Go.Proofs.Try.f38
theorem h_recon_side_items : P.funcs[f_recon_side_items]? = some b_recon_side_items := Go.Proofs.Try.func38
abbrev f_recon_digests : Nat := 39
@[reducible] noncomputable def b_recon_digests : Func := Go.Proofs.Try.f39
theorem h_recon_digests : P.funcs[f_recon_digests]? = some b_recon_digests := Go.Proofs.Try.func39
abbrev f_recon_rowarapi_Digest_of : Nat := 40
@[reducible] noncomputable def b_recon_rowarapi_Digest_of : Func := Go.Proofs.Try.f40
theorem h_recon_rowarapi_Digest_of : P.funcs[f_recon_rowarapi_Digest_of]? = some b_recon_rowarapi_Digest_of := Go.Proofs.Try.func40
abbrev f_ref28_below : Nat := 41
@[reducible] noncomputable def b_ref28_below : Func := Go.Proofs.Try.f41
theorem h_ref28_below : P.funcs[f_ref28_below]? = some b_ref28_below := Go.Proofs.Try.func41
@[reducible] noncomputable def b_ref28_summed : Func := Go.Proofs.Try.f42
@[reducible] noncomputable def b_ref28_without : Func := Go.Proofs.Try.f43
abbrev f_ref12_In : Nat := 44
@[reducible] noncomputable def b_ref12_In : Func := Go.Proofs.Try.f44
theorem h_ref12_In : P.funcs[f_ref12_In]? = some b_ref12_In := Go.Proofs.Try.func44
abbrev f_ref28_with : Nat := 45
@[reducible] noncomputable def b_ref28_with : Func := Go.Proofs.Try.f45
theorem h_ref28_with : P.funcs[f_ref28_with]? = some b_ref28_with := Go.Proofs.Try.func45
abbrev f_ref28_bit : Nat := 46
@[reducible] noncomputable def b_ref28_bit : Func := Go.Proofs.Try.f46
theorem h_ref28_bit : P.funcs[f_ref28_bit]? = some b_ref28_bit := Go.Proofs.Try.func46
abbrev f_ref03_Of : Nat := 47
@[reducible] noncomputable def b_ref03_Of : Func := Go.Proofs.Try.f47
theorem h_ref03_Of : P.funcs[f_ref03_Of]? = some b_ref03_Of := Go.Proofs.Try.func47
abbrev f_ref28_all : Nat := 48
@[reducible] noncomputable def b_ref28_all : Func := Go.Proofs.Try.f48
theorem h_ref28_all : P.funcs[f_ref28_all]? = some b_ref28_all := Go.Proofs.Try.func48
abbrev f_recon_summary : Nat := 49
@[reducible] noncomputable def b_recon_summary : Func := Go.Proofs.Try.f49
theorem h_recon_summary : P.funcs[f_recon_summary]? = some b_recon_summary := Go.Proofs.Try.func49
abbrev f_ref12_Rising : Nat := 50
@[reducible] noncomputable def b_ref12_Rising : Func := Go.Proofs.Try.f50
theorem h_ref12_Rising : P.funcs[f_ref12_Rising]? = some b_ref12_Rising := Go.Proofs.Try.func50
@[reducible] noncomputable def b_recon_asked : Func := Go.Proofs.Try.f51
abbrev f_slices_Clone_Digest : Nat := 52
@[reducible] noncomputable def b_slices_Clone_Digest : Func := Go.Proofs.Try.f52
theorem h_slices_Clone_Digest : P.funcs[f_slices_Clone_Digest]? = some b_slices_Clone_Digest := Go.Proofs.Try.func52
abbrev f_recon_below : Nat := 53
@[reducible] noncomputable def b_recon_below : Func := Go.Proofs.Try.f53
theorem h_recon_below : P.funcs[f_recon_below]? = some b_recon_below := Go.Proofs.Try.func53
@[reducible] noncomputable def b_ref28_sum : Func := Go.Proofs.Try.f54
abbrev f_recon_parts : Nat := 55
@[reducible] noncomputable def b_recon_parts : Func := Go.Proofs.Try.f55
theorem h_recon_parts : P.funcs[f_recon_parts]? = some b_recon_parts := Go.Proofs.Try.func55
abbrev f_recon_rowarapi_Digest_is : Nat := 56
@[reducible] noncomputable def b_recon_rowarapi_Digest_is : Func := Go.Proofs.Try.f56
theorem h_recon_rowarapi_Digest_is : P.funcs[f_recon_rowarapi_Digest_is]? = some b_recon_rowarapi_Digest_is := Go.Proofs.Try.func56
abbrev f_ref12_Less : Nat := 57
@[reducible] noncomputable def b_ref12_Less : Func := Go.Proofs.Try.f57
theorem h_ref12_Less : P.funcs[f_ref12_Less]? = some b_ref12_Less := Go.Proofs.Try.func57
abbrev f_recon_mask : Nat := 58
@[reducible] noncomputable def b_recon_mask : Func := Go.Proofs.Try.f58
theorem h_recon_mask : P.funcs[f_recon_mask]? = some b_recon_mask := Go.Proofs.Try.func58
@[reducible] noncomputable def b_slices_Equal_Digest : Func := Go.Proofs.Try.f59
abbrev f_recon_side_lists : Nat := 60
@[reducible] noncomputable def b_recon_side_lists : Func := Go.Proofs.Try.f60
theorem h_recon_side_lists : P.funcs[f_recon_side_lists]? = some b_recon_side_lists := Go.Proofs.Try.func60
abbrev f_recon_side_told : Nat := 61
@[reducible] noncomputable def b_recon_side_told : Func := Go.Proofs.Try.f61
theorem h_recon_side_told : P.funcs[f_recon_side_told]? = some b_recon_side_told := Go.Proofs.Try.func61
abbrev f_recon_side_to : Nat := 62
@[reducible] noncomputable def b_recon_side_to : Func := Go.Proofs.Try.f62
theorem h_recon_side_to : P.funcs[f_recon_side_to]? = some b_recon_side_to := Go.Proofs.Try.func62
abbrev f_recon_side_sum : Nat := 63
@[reducible] noncomputable def b_recon_side_sum : Func := Go.Proofs.Try.f63
theorem h_recon_side_sum : P.funcs[f_recon_side_sum]? = some b_recon_side_sum := Go.Proofs.Try.func63
abbrev f_recon_compare : Nat := 64
@[reducible] noncomputable def b_recon_compare : Func := Go.Proofs.Try.f64
theorem h_recon_compare : P.funcs[f_recon_compare]? = some b_recon_compare := Go.Proofs.Try.func64
abbrev f_slices_SortFunc_Digest : Nat := 65
@[reducible] noncomputable def b_slices_SortFunc_Digest : Func := Go.Proofs.Try.f65
theorem h_slices_SortFunc_Digest : P.funcs[f_slices_SortFunc_Digest]? = some b_slices_SortFunc_Digest := Go.Proofs.Try.func65
abbrev f_slices_CompactFunc_Digest : Nat := 66
@[reducible] noncomputable def b_slices_CompactFunc_Digest : Func := Go.Proofs.Try.f66
theorem h_slices_CompactFunc_Digest : P.funcs[f_slices_CompactFunc_Digest]? = some b_slices_CompactFunc_Digest := Go.Proofs.Try.func66
abbrev f_recon_rowarapi_Digest_of_f1 : Nat := 67
@[reducible] noncomputable def b_recon_rowarapi_Digest_of_f1 : Func := Go.Proofs.Try.f67
theorem h_recon_rowarapi_Digest_of_f1 : P.funcs[f_recon_rowarapi_Digest_of_f1]? = some b_recon_rowarapi_Digest_of_f1 := Go.Proofs.Try.func67
abbrev f_ref28_Under : Nat := 68
@[reducible] noncomputable def b_ref28_Under : Func := Go.Proofs.Try.f68
theorem h_ref28_Under : P.funcs[f_ref28_Under]? = some b_ref28_Under := Go.Proofs.Try.func68
abbrev f_ref03_Sum : Nat := 69
@[reducible] noncomputable def b_ref03_Sum : Func := Go.Proofs.Try.f69
theorem h_ref03_Sum : P.funcs[f_ref03_Sum]? = some b_ref03_Sum := Go.Proofs.Try.func69
abbrev f_sha_Sum : Nat := 70
@[reducible] noncomputable def b_sha_Sum : Func := Go.Proofs.Try.f70
theorem h_sha_Sum : P.funcs[f_sha_Sum]? = some b_sha_Sum := Go.Proofs.Try.func70
abbrev f_slices_BinarySearchFunc_Digest : Nat := 71
@[reducible] noncomputable def b_slices_BinarySearchFunc_Digest : Func := Go.Proofs.Try.f71
theorem h_slices_BinarySearchFunc_Digest : P.funcs[f_slices_BinarySearchFunc_Digest]? = some b_slices_BinarySearchFunc_Digest := Go.Proofs.Try.func71
abbrev f_recon_rowarapi_Digest_less : Nat := 72
@[reducible] noncomputable def b_recon_rowarapi_Digest_less : Func := Go.Proofs.Try.f72
theorem h_recon_rowarapi_Digest_less : P.funcs[f_recon_rowarapi_Digest_less]? = some b_recon_rowarapi_Digest_less := Go.Proofs.Try.func72
abbrev f_bytes_Compare : Nat := 73
@[reducible] noncomputable def b_bytes_Compare : Func := Go.Proofs.Try.f73
theorem h_bytes_Compare : P.funcs[f_bytes_Compare]? = some b_bytes_Compare := Go.Proofs.Try.func73
@[reducible] noncomputable def b_slices_pdqsortCmpFuncarapi_Digest : Func := Go.Proofs.Try.f74
@[reducible] noncomputable def b_math_bits_Len : Func := Go.Proofs.Try.f75
abbrev f_ref03_Pad : Nat := 76
@[reducible] noncomputable def b_ref03_Pad : Func := Go.Proofs.Try.f76
theorem h_ref03_Pad : P.funcs[f_ref03_Pad]? = some b_ref03_Pad := Go.Proofs.Try.func76
abbrev f_ref03_Start : Nat := 77
@[reducible] noncomputable def b_ref03_Start : Func := Go.Proofs.Try.f77
theorem h_ref03_Start : P.funcs[f_ref03_Start]? = some b_ref03_Start := Go.Proofs.Try.func77
abbrev f_ref03_Step : Nat := 78
@[reducible] noncomputable def b_ref03_Step : Func := Go.Proofs.Try.f78
theorem h_ref03_Step : P.funcs[f_ref03_Step]? = some b_ref03_Step := Go.Proofs.Try.func78
abbrev f_ref03_Bytes : Nat := 79
@[reducible] noncomputable def b_ref03_Bytes : Func := Go.Proofs.Try.f79
theorem h_ref03_Bytes : P.funcs[f_ref03_Bytes]? = some b_ref03_Bytes := Go.Proofs.Try.func79
abbrev f_sha_New : Nat := 80
@[reducible] noncomputable def b_sha_New : Func := Go.Proofs.Try.f80
theorem h_sha_New : P.funcs[f_sha_New]? = some b_sha_New := Go.Proofs.Try.func80
abbrev f_sha_Hash_take : Nat := 81
@[reducible] noncomputable def b_sha_Hash_take : Func := Go.Proofs.Try.f81
theorem h_sha_Hash_take : P.funcs[f_sha_Hash_take]? = some b_sha_Hash_take := Go.Proofs.Try.func81
abbrev f_sha_Hash_end : Nat := 82
@[reducible] noncomputable def b_sha_Hash_end : Func := Go.Proofs.Try.f82
theorem h_sha_Hash_end : P.funcs[f_sha_Hash_end]? = some b_sha_Hash_end := Go.Proofs.Try.func82
abbrev f_recon_rowarapi_Digest_has : Nat := 83
@[reducible] noncomputable def b_recon_rowarapi_Digest_has : Func := Go.Proofs.Try.f83
theorem h_recon_rowarapi_Digest_has : P.funcs[f_recon_rowarapi_Digest_has]? = some b_recon_rowarapi_Digest_has := Go.Proofs.Try.func83
abbrev f_internal_bytealg_Compare : Nat := 84
@[reducible] noncomputable def b_internal_bytealg_Compare : Func := Go.Proofs.Try.f84
theorem h_internal_bytealg_Compare : P.funcs[f_internal_bytealg_Compare]? = some b_internal_bytealg_Compare := Go.Proofs.Try.func84
@[reducible] noncomputable def b_slices_insertionSortCmpFuncarapi_Digest : Func := Go.Proofs.Try.f85
@[reducible] noncomputable def b_slices_heapSortCmpFuncarapi_Digest : Func := Go.Proofs.Try.f86
@[reducible] noncomputable def b_slices_breakPatternsCmpFuncarapi_Digest : Func := Go.Proofs.Try.f87
@[reducible] noncomputable def b_slices_choosePivotCmpFuncarapi_Digest : Func := Go.Proofs.Try.f88
@[reducible] noncomputable def b_slices_reverseRangeCmpFuncarapi_Digest : Func := Go.Proofs.Try.f89
@[reducible] noncomputable def b_slices_partialInsertionSortCmpFuncarapi_Digest : Func := Go.Proofs.Try.f90
@[reducible] noncomputable def b_slices_partitionEqualCmpFuncarapi_Digest : Func := Go.Proofs.Try.f91
@[reducible] noncomputable def b_slices_partitionCmpFuncarapi_Digest : Func := Go.Proofs.Try.f92
@[reducible] noncomputable def b_math_bits_Len32 : Func := Go.Proofs.Try.f93
@[reducible] noncomputable def b_math_bits_Len64 : Func := Go.Proofs.Try.f94
abbrev f_ref03_right : Nat := 95
@[reducible] noncomputable def b_ref03_right : Func := Go.Proofs.Try.f95
theorem h_ref03_right : P.funcs[f_ref03_right]? = some b_ref03_right := Go.Proofs.Try.func95
abbrev f_ref03_moved : Nat := 96
@[reducible] noncomputable def b_ref03_moved : Func := Go.Proofs.Try.f96
theorem h_ref03_moved : P.funcs[f_ref03_moved]? = some b_ref03_moved := Go.Proofs.Try.func96
abbrev f_ref03_constants : Nat := 97
@[reducible] noncomputable def b_ref03_constants : Func := Go.Proofs.Try.f97
theorem h_ref03_constants : P.funcs[f_ref03_constants]? = some b_ref03_constants := Go.Proofs.Try.func97
abbrev f_sha_Start : Nat := 98
@[reducible] noncomputable def b_sha_Start : Func := Go.Proofs.Try.f98
theorem h_sha_Start : P.funcs[f_sha_Start]? = some b_sha_Start := Go.Proofs.Try.func98
abbrev f_bytes_Clone : Nat := 99
@[reducible] noncomputable def b_bytes_Clone : Func := Go.Proofs.Try.f99
theorem h_bytes_Clone : P.funcs[f_bytes_Clone]? = some b_bytes_Clone := Go.Proofs.Try.func99
abbrev f_sha_Step : Nat := 100
@[reducible] noncomputable def b_sha_Step : Func := Go.Proofs.Try.f100
theorem h_sha_Step : P.funcs[f_sha_Step]? = some b_sha_Step := Go.Proofs.Try.func100
abbrev f_sha_Pad : Nat := 101
@[reducible] noncomputable def b_sha_Pad : Func := Go.Proofs.Try.f101
theorem h_sha_Pad : P.funcs[f_sha_Pad]? = some b_sha_Pad := Go.Proofs.Try.func101
abbrev f_word_Bytes : Nat := 102
@[reducible] noncomputable def b_word_Bytes : Func := Go.Proofs.Try.f102
theorem h_word_Bytes : P.funcs[f_word_Bytes]? = some b_word_Bytes := Go.Proofs.Try.func102
@[reducible] noncomputable def b_slices_siftDownCmpFuncarapi_Digest : Func := Go.Proofs.Try.f103
@[reducible] noncomputable def b_slices_nextPowerOfTwo : Func := Go.Proofs.Try.f104
@[reducible] noncomputable def b_slices_xorshift_Next : Func := Go.Proofs.Try.f105
@[reducible] noncomputable def b_slices_medianAdjacentCmpFuncarapi_Digest : Func := Go.Proofs.Try.f106
@[reducible] noncomputable def b_slices_medianCmpFuncarapi_Digest : Func := Go.Proofs.Try.f107
abbrev f_sha_schedule : Nat := 108
@[reducible] noncomputable def b_sha_schedule : Func := Go.Proofs.Try.f108
theorem h_sha_schedule : P.funcs[f_sha_schedule]? = some b_sha_schedule := Go.Proofs.Try.func108
abbrev f_sha_constants : Nat := 109
@[reducible] noncomputable def b_sha_constants : Func := Go.Proofs.Try.f109
theorem h_sha_constants : P.funcs[f_sha_constants]? = some b_sha_constants := Go.Proofs.Try.func109
abbrev f_sha_right : Nat := 110
@[reducible] noncomputable def b_sha_right : Func := Go.Proofs.Try.f110
theorem h_sha_right : P.funcs[f_sha_right]? = some b_sha_right := Go.Proofs.Try.func110
abbrev f_word_way : Nat := 111
@[reducible] noncomputable def b_word_way : Func := Go.Proofs.Try.f111
theorem h_word_way : P.funcs[f_word_way]? = some b_word_way := Go.Proofs.Try.func111
abbrev f_word_shift : Nat := 112
@[reducible] noncomputable def b_word_shift : Func := Go.Proofs.Try.f112
theorem h_word_shift : P.funcs[f_word_shift]? = some b_word_shift := Go.Proofs.Try.func112
@[reducible] noncomputable def b_slices_order2CmpFuncarapi_Digest : Func := Go.Proofs.Try.f113
abbrev f_word_Words : Nat := 114
@[reducible] noncomputable def b_word_Words : Func := Go.Proofs.Try.f114
theorem h_word_Words : P.funcs[f_word_Words]? = some b_word_Words := Go.Proofs.Try.func114
abbrev f_word_width : Nat := 115
@[reducible] noncomputable def b_word_width : Func := Go.Proofs.Try.f115
theorem h_word_width : P.funcs[f_word_width]? = some b_word_width := Go.Proofs.Try.func115
abbrev f_word_number : Nat := 116
@[reducible] noncomputable def b_word_number : Func := Go.Proofs.Try.f116
theorem h_word_number : P.funcs[f_word_number]? = some b_word_number := Go.Proofs.Try.func116
@[reducible] noncomputable def b_sha_Hash_is : Func := Go.Proofs.Try.f133
abbrev t_uint8 : Nat := 5
abbrev t_api_Digest : Nat := 42
abbrev t_api_Prefix : Nat := 44
abbrev t_api_Item : Nat := 49
abbrev t_uint64 : Nat := 103
end Go.Sal.Nm
