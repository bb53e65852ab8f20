/- The numbers of this translation's functions and types, by name: written by a program of this session. -/
import Derived.Test.YtogjeflhlnnbdaaProg
import Derived.Test.YtogjeflhlnnbdaaWVseTyped
namespace Go.Sal.Nm
open Go.Vse
@[reducible] noncomputable def P : Program := Go.Proofs.Try.prog
@[reducible] noncomputable def b_law20_ShipForms : Func := Go.Proofs.Try.f3
@[reducible] noncomputable def b_law20_ShipReads : Func := Go.Proofs.Try.f4
@[reducible] noncomputable def b_law20_ShipBack : Func := Go.Proofs.Try.f5
abbrev f_law20_ShipMissing : Nat := 6
@[reducible] noncomputable def b_law20_ShipMissing : Func := Go.Proofs.Try.f6
theorem h_law20_ShipMissing : P.funcs[f_law20_ShipMissing]? = some b_law20_ShipMissing := Go.Proofs.Try.func6
abbrev f_law20_ShipTurns : Nat := 7
@[reducible] noncomputable def b_law20_ShipTurns : Func := Go.Proofs.Try.f7
theorem h_law20_ShipTurns : P.funcs[f_law20_ShipTurns]? = some b_law20_ShipTurns := Go.Proofs.Try.func7
@[reducible] noncomputable def b_law20_light : Func := Go.Proofs.Try.f8
abbrev f_ship_Bytes : Nat := 9
@[reducible] noncomputable def b_ship_Bytes : Func := Go.Proofs.Try.f9
theorem h_ship_Bytes : P.funcs[f_ship_Bytes]? = some b_ship_Bytes := Go.Proofs.Try.func9
@[reducible] noncomputable def b_ref20_Bytes : Func := Go.Proofs.Try.f10
abbrev f_ship_Check : Nat := 11
@[reducible] noncomputable def b_ship_Check : Func := Go.Proofs.Try.f11
theorem h_ship_Check : P.funcs[f_ship_Check]? = some b_ship_Check := Go.Proofs.Try.func11
@[reducible] noncomputable def b_ref20_Check : Func := Go.Proofs.Try.f12
abbrev f_ship_Same : Nat := 13
@[reducible] noncomputable def b_ship_Same : Func := Go.Proofs.Try.f13
theorem h_ship_Same : P.funcs[f_ship_Same]? = some b_ship_Same := Go.Proofs.Try.func13
@[reducible] noncomputable def b_ref20_Same : Func := Go.Proofs.Try.f14
abbrev f_law20_awake : Nat := 15
@[reducible] noncomputable def b_law20_awake : Func := Go.Proofs.Try.f15
theorem h_law20_awake : P.funcs[f_law20_awake]? = some b_law20_awake := Go.Proofs.Try.func15
@[reducible] noncomputable def b_law20_cut : Func := Go.Proofs.Try.f16
abbrev f_ship_Parse : Nat := 17
@[reducible] noncomputable def b_ship_Parse : Func := Go.Proofs.Try.f17
theorem h_ship_Parse : P.funcs[f_ship_Parse]? = some b_ship_Parse := Go.Proofs.Try.func17
@[reducible] noncomputable def b_ref20_Parse : Func := Go.Proofs.Try.f18
abbrev f_law20_few : Nat := 19
@[reducible] noncomputable def b_law20_few : Func := Go.Proofs.Try.f19
theorem h_law20_few : P.funcs[f_law20_few]? = some b_law20_few := Go.Proofs.Try.func19
abbrev f_ref12_Same : Nat := 20
@[reducible] noncomputable def b_ref12_Same : Func := Go.Proofs.Try.f20
theorem h_ref12_Same : P.funcs[f_ref12_Same]? = some b_ref12_Same := Go.Proofs.Try.func20
abbrev f_ship_Missing : Nat := 21
@[reducible] noncomputable def b_ship_Missing : Func := Go.Proofs.Try.f21
theorem h_ship_Missing : P.funcs[f_ship_Missing]? = some b_ship_Missing := Go.Proofs.Try.func21
abbrev f_ref20_Missing : Nat := 22
@[reducible] noncomputable def b_ref20_Missing : Func := Go.Proofs.Try.f22
theorem h_ref20_Missing : P.funcs[f_ref20_Missing]? = some b_ref20_Missing := Go.Proofs.Try.func22
abbrev f_ship_Rising : Nat := 23
@[reducible] noncomputable def b_ship_Rising : Func := Go.Proofs.Try.f23
theorem h_ship_Rising : P.funcs[f_ship_Rising]? = some b_ship_Rising := Go.Proofs.Try.func23
abbrev f_ref20_Rising : Nat := 24
@[reducible] noncomputable def b_ref20_Rising : Func := Go.Proofs.Try.f24
theorem h_ref20_Rising : P.funcs[f_ref20_Rising]? = some b_ref20_Rising := Go.Proofs.Try.func24
abbrev f_word_Varint : Nat := 25
@[reducible] noncomputable def b_word_Varint : Func := Go.Proofs.Try.f25
theorem h_word_Varint : P.funcs[f_word_Varint]? = some b_word_Varint := Go.Proofs.Try.func25
abbrev f_record_Bytes : Nat := 26
@[reducible] noncomputable def b_record_Bytes : Func := Go.Proofs.Try.f26
theorem h_record_Bytes : P.funcs[f_record_Bytes]? = some b_record_Bytes := Go.Proofs.Try.func26
@[reducible] noncomputable def b_ref20_bytes : Func := Go.Proofs.Try.f27
abbrev f_ship_only : Nat := 28
@[reducible] noncomputable def b_ship_only : Func := Go.Proofs.Try.f28
theorem h_ship_only : P.funcs[f_ship_only]? = some b_ship_only := Go.Proofs.Try.func28
@[reducible] noncomputable def b_ref16_IsHead : Func := Go.Proofs.Try.f29
@[reducible] noncomputable def b_ref13_Check : Func := Go.Proofs.Try.f30
@[reducible] noncomputable def b_ref20_row : Func := Go.Proofs.Try.f31
@[reducible] noncomputable def b_ref20_Only : Func := Go.Proofs.Try.f32
abbrev f_record_Same : Nat := 33
@[reducible] noncomputable def b_record_Same : Func := Go.Proofs.Try.f33
theorem h_record_Same : P.funcs[f_record_Same]? = some b_record_Same := Go.Proofs.Try.func33
abbrev f_slices_Equal_Digest : Nat := 34
@[reducible] noncomputable def b_slices_Equal_Digest : Func := Go.Proofs.Try.f34
theorem h_slices_Equal_Digest : P.funcs[f_slices_Equal_Digest]? = some b_slices_Equal_Digest := Go.Proofs.Try.func34
abbrev f_bytes_Equal : Nat := 35
@[reducible] noncomputable def b_bytes_Equal : Func := Go.Proofs.Try.f35
theorem h_bytes_Equal : P.funcs[f_bytes_Equal]? = some b_bytes_Equal := Go.Proofs.Try.func35
@[reducible] noncomputable def b_ref13_Same : Func := Go.Proofs.Try.f36
abbrev f_ship_number : Nat := 37
@[reducible] noncomputable def b_ship_number : Func := Go.Proofs.Try.f37
theorem h_ship_number : P.funcs[f_ship_number]? = some b_ship_number := Go.Proofs.Try.func37
abbrev f_ship_first : Nat := 38
@[reducible] noncomputable def b_ship_first : Func := Go.Proofs.Try.f38
theorem h_ship_first : P.funcs[f_ship_first]? = some b_ship_first := Go.Proofs.Try.func38
abbrev f_record_Parse : Nat := 39
@[reducible] noncomputable def b_record_Parse : Func := Go.Proofs.Try.f39
theorem h_record_Parse : P.funcs[f_record_Parse]? = some b_record_Parse := Go.Proofs.Try.func39
abbrev f_ship_digests : Nat := 40
@[reducible] noncomputable def b_ship_digests : Func := Go.Proofs.Try.f40
theorem h_ship_digests : P.funcs[f_ship_digests]? = some b_ship_digests := Go.Proofs.Try.func40
abbrev f_slices_Clone_byte : Nat := 41
@[reducible] noncomputable def b_slices_Clone_byte : Func := Go.Proofs.Try.f41
theorem h_slices_Clone_byte : P.funcs[f_slices_Clone_byte]? = some b_slices_Clone_byte := Go.Proofs.Try.func41
@[reducible] noncomputable def b_ref20_number : Func := Go.Proofs.Try.f42
@[reducible] noncomputable def b_ref20_digest : Func := Go.Proofs.Try.f43
@[reducible] noncomputable def b_ref13_Parse : Func := Go.Proofs.Try.f44
abbrev f_slices_DeleteFunc_Digest : Nat := 45
@[reducible] noncomputable def b_slices_DeleteFunc_Digest : Func := Go.Proofs.Try.f45
theorem h_slices_DeleteFunc_Digest : P.funcs[f_slices_DeleteFunc_Digest]? = some b_slices_DeleteFunc_Digest := Go.Proofs.Try.func45
abbrev f_ship_Missing_f1 : Nat := 46
@[reducible] noncomputable def b_ship_Missing_f1 : Func := Go.Proofs.Try.f46
theorem h_ship_Missing_f1 : P.funcs[f_ship_Missing_f1]? = some b_ship_Missing_f1 := Go.Proofs.Try.func46
abbrev f_ref12_In : Nat := 47
@[reducible] noncomputable def b_ref12_In : Func := Go.Proofs.Try.f47
theorem h_ref12_In : P.funcs[f_ref12_In]? = some b_ref12_In := Go.Proofs.Try.func47
abbrev f_slices_Clone_Digest : Nat := 48
@[reducible] noncomputable def b_slices_Clone_Digest : Func := Go.Proofs.Try.f48
theorem h_slices_Clone_Digest : P.funcs[f_slices_Clone_Digest]? = some b_slices_Clone_Digest := Go.Proofs.Try.func48
abbrev f_slices_SortFunc_Digest : Nat := 49
@[reducible] noncomputable def b_slices_SortFunc_Digest : Func := Go.Proofs.Try.f49
theorem h_slices_SortFunc_Digest : P.funcs[f_slices_SortFunc_Digest]? = some b_slices_SortFunc_Digest := Go.Proofs.Try.func49
abbrev f_ship_compare : Nat := 50
@[reducible] noncomputable def b_ship_compare : Func := Go.Proofs.Try.f50
theorem h_ship_compare : P.funcs[f_ship_compare]? = some b_ship_compare := Go.Proofs.Try.func50
abbrev f_slices_Compact_Digest : Nat := 51
@[reducible] noncomputable def b_slices_Compact_Digest : Func := Go.Proofs.Try.f51
theorem h_slices_Compact_Digest : P.funcs[f_slices_Compact_Digest]? = some b_slices_Compact_Digest := Go.Proofs.Try.func51
abbrev f_ref12_Rising : Nat := 52
@[reducible] noncomputable def b_ref12_Rising : Func := Go.Proofs.Try.f52
theorem h_ref12_Rising : P.funcs[f_ref12_Rising]? = some b_ref12_Rising := Go.Proofs.Try.func52
abbrev f_record_Check : Nat := 53
@[reducible] noncomputable def b_record_Check : Func := Go.Proofs.Try.f53
theorem h_record_Check : P.funcs[f_record_Check]? = some b_record_Check := Go.Proofs.Try.func53
@[reducible] noncomputable def b_ref01_Varint : Func := Go.Proofs.Try.f54
@[reducible] noncomputable def b_ref13_Bytes : Func := Go.Proofs.Try.f55
abbrev f_check_Check : Nat := 56
@[reducible] noncomputable def b_check_Check : Func := Go.Proofs.Try.f56
theorem h_check_Check : P.funcs[f_check_Check]? = some b_check_Check := Go.Proofs.Try.func56
abbrev f_ship_seq : Nat := 57
@[reducible] noncomputable def b_ship_seq : Func := Go.Proofs.Try.f57
theorem h_ship_seq : P.funcs[f_ship_seq]? = some b_ship_seq := Go.Proofs.Try.func57
abbrev f_ship_row : Nat := 58
@[reducible] noncomputable def b_ship_row : Func := Go.Proofs.Try.f58
theorem h_ship_row : P.funcs[f_ship_row]? = some b_ship_row := Go.Proofs.Try.func58
@[reducible] noncomputable def b_ref13_Size : Func := Go.Proofs.Try.f59
@[reducible] noncomputable def b_ref13_IsPath : Func := Go.Proofs.Try.f60
abbrev f_slices_Equal_Piece : Nat := 61
@[reducible] noncomputable def b_slices_Equal_Piece : Func := Go.Proofs.Try.f61
theorem h_slices_Equal_Piece : P.funcs[f_slices_Equal_Piece]? = some b_slices_Equal_Piece := Go.Proofs.Try.func61
abbrev f_word_Read : Nat := 62
@[reducible] noncomputable def b_word_Read : Func := Go.Proofs.Try.f62
theorem h_word_Read : P.funcs[f_word_Read]? = some b_word_Read := Go.Proofs.Try.func62
abbrev f_record_Parse_f1 : Nat := 63
@[reducible] noncomputable def b_record_Parse_f1 : Func := Go.Proofs.Try.f63
theorem h_record_Parse_f1 : P.funcs[f_record_Parse_f1]? = some b_record_Parse_f1 := Go.Proofs.Try.func63
abbrev f_record_reader_record : Nat := 64
@[reducible] noncomputable def b_record_reader_record : Func := Go.Proofs.Try.f64
theorem h_record_reader_record : P.funcs[f_record_reader_record]? = some b_record_reader_record := Go.Proofs.Try.func64
@[reducible] noncomputable def b_ref01_Read : Func := Go.Proofs.Try.f65
@[reducible] noncomputable def b_ref13_Reader_byte : Func := Go.Proofs.Try.f66
@[reducible] noncomputable def b_ref13_Reader_number : Func := Go.Proofs.Try.f67
@[reducible] noncomputable def b_ref13_Reader_digest : Func := Go.Proofs.Try.f68
@[reducible] noncomputable def b_ref13_Reader_take : Func := Go.Proofs.Try.f69
abbrev f_slices_IndexFunc_Digest : Nat := 70
@[reducible] noncomputable def b_slices_IndexFunc_Digest : Func := Go.Proofs.Try.f70
theorem h_slices_IndexFunc_Digest : P.funcs[f_slices_IndexFunc_Digest]? = some b_slices_IndexFunc_Digest := Go.Proofs.Try.func70
@[reducible] noncomputable def b_slices_pdqsortCmpFuncarapi_Digest : Func := Go.Proofs.Try.f71
@[reducible] noncomputable def b_math_bits_Len : Func := Go.Proofs.Try.f72
abbrev f_bytes_Compare : Nat := 73
@[reducible] noncomputable def b_bytes_Compare : Func := Go.Proofs.Try.f73
theorem h_bytes_Compare : P.funcs[f_bytes_Compare]? = some b_bytes_Compare := Go.Proofs.Try.func73
abbrev f_ref12_Less : Nat := 74
@[reducible] noncomputable def b_ref12_Less : Func := Go.Proofs.Try.f74
theorem h_ref12_Less : P.funcs[f_ref12_Less]? = some b_ref12_Less := Go.Proofs.Try.func74
abbrev f_record_fits : Nat := 75
@[reducible] noncomputable def b_record_fits : Func := Go.Proofs.Try.f75
theorem h_record_fits : P.funcs[f_record_fits]? = some b_record_fits := Go.Proofs.Try.func75
abbrev f_check_may : Nat := 76
@[reducible] noncomputable def b_check_may : Func := Go.Proofs.Try.f76
theorem h_check_may : P.funcs[f_check_may]? = some b_check_may := Go.Proofs.Try.func76
abbrev f_record_reader_byte : Nat := 77
@[reducible] noncomputable def b_record_reader_byte : Func := Go.Proofs.Try.f77
theorem h_record_reader_byte : P.funcs[f_record_reader_byte]? = some b_record_reader_byte := Go.Proofs.Try.func77
abbrev f_record_left_number : Nat := 78
@[reducible] noncomputable def b_record_left_number : Func := Go.Proofs.Try.f78
theorem h_record_left_number : P.funcs[f_record_left_number]? = some b_record_left_number := Go.Proofs.Try.func78
abbrev f_record_reader_digest : Nat := 79
@[reducible] noncomputable def b_record_reader_digest : Func := Go.Proofs.Try.f79
theorem h_record_reader_digest : P.funcs[f_record_reader_digest]? = some b_record_reader_digest := Go.Proofs.Try.func79
abbrev f_record_left_take : Nat := 80
@[reducible] noncomputable def b_record_left_take : Func := Go.Proofs.Try.f80
theorem h_record_left_take : P.funcs[f_record_left_take]? = some b_record_left_take := Go.Proofs.Try.func80
@[reducible] noncomputable def b_slices_insertionSortCmpFuncarapi_Digest : Func := Go.Proofs.Try.f81
@[reducible] noncomputable def b_slices_heapSortCmpFuncarapi_Digest : Func := Go.Proofs.Try.f82
@[reducible] noncomputable def b_slices_breakPatternsCmpFuncarapi_Digest : Func := Go.Proofs.Try.f83
@[reducible] noncomputable def b_slices_choosePivotCmpFuncarapi_Digest : Func := Go.Proofs.Try.f84
@[reducible] noncomputable def b_slices_reverseRangeCmpFuncarapi_Digest : Func := Go.Proofs.Try.f85
@[reducible] noncomputable def b_slices_partialInsertionSortCmpFuncarapi_Digest : Func := Go.Proofs.Try.f86
@[reducible] noncomputable def b_slices_partitionEqualCmpFuncarapi_Digest : Func := Go.Proofs.Try.f87
@[reducible] noncomputable def b_slices_partitionCmpFuncarapi_Digest : Func := Go.Proofs.Try.f88
@[reducible] noncomputable def b_math_bits_Len32 : Func := Go.Proofs.Try.f89
@[reducible] noncomputable def b_math_bits_Len64 : Func := Go.Proofs.Try.f90
abbrev f_internal_bytealg_Compare : Nat := 91
@[reducible] noncomputable def b_internal_bytealg_Compare : Func := Go.Proofs.Try.f91
theorem h_internal_bytealg_Compare : P.funcs[f_internal_bytealg_Compare]? = some b_internal_bytealg_Compare := Go.Proofs.Try.func91
abbrev f_record_Size : Nat := 92
@[reducible] noncomputable def b_record_Size : Func := Go.Proofs.Try.f92
theorem h_record_Size : P.funcs[f_record_Size]? = some b_record_Size := Go.Proofs.Try.func92
abbrev f_record_IsPath : Nat := 93
@[reducible] noncomputable def b_record_IsPath : Func := Go.Proofs.Try.f93
theorem h_record_IsPath : P.funcs[f_record_IsPath]? = some b_record_IsPath := Go.Proofs.Try.func93
@[reducible] noncomputable def b_slices_siftDownCmpFuncarapi_Digest : Func := Go.Proofs.Try.f94
@[reducible] noncomputable def b_slices_nextPowerOfTwo : Func := Go.Proofs.Try.f95
@[reducible] noncomputable def b_slices_xorshift_Next : Func := Go.Proofs.Try.f96
@[reducible] noncomputable def b_slices_medianAdjacentCmpFuncarapi_Digest : Func := Go.Proofs.Try.f97
@[reducible] noncomputable def b_slices_medianCmpFuncarapi_Digest : Func := Go.Proofs.Try.f98
@[reducible] noncomputable def b_slices_order2CmpFuncarapi_Digest : Func := Go.Proofs.Try.f99
abbrev t_uint8 : Nat := 5
abbrev t_api_Digest : Nat := 24
abbrev t_api_Piece : Nat := 83
abbrev t_record_fault : Nat := 96
end Go.Sal.Nm
