/- The numbers of this translation's functions and types, by name: written by a program of this session. -/
import Derived.Test.YtogjeflhlnnbdaaProg
import Derived.Test.YtogjeflhlnnbdaaQVseTyped
namespace Go.Sal.Nm
open Go.Vse
@[reducible] noncomputable def P : Program := Go.Proofs.Try.prog
-- saltern/salternlaw20.ShipForms
abbrev f_law20_ShipForms : Nat := 3
@[reducible] noncomputable def b_law20_ShipForms : Func := Go.Proofs.Try.f3
theorem h_law20_ShipForms : P.funcs[f_law20_ShipForms]? = some b_law20_ShipForms := Go.Proofs.Try.func3
-- saltern/salternlaw20.ShipReads
abbrev f_law20_ShipReads : Nat := 4
@[reducible] noncomputable def b_law20_ShipReads : Func := Go.Proofs.Try.f4
theorem h_law20_ShipReads : P.funcs[f_law20_ShipReads]? = some b_law20_ShipReads := Go.Proofs.Try.func4
-- saltern/salternlaw20.ShipBack
abbrev f_law20_ShipBack : Nat := 5
@[reducible] noncomputable def b_law20_ShipBack : Func := Go.Proofs.Try.f5
theorem h_law20_ShipBack : P.funcs[f_law20_ShipBack]? = some b_law20_ShipBack := Go.Proofs.Try.func5
-- saltern/salternlaw20.ShipMissing
abbrev f_law20_ShipMissing : Nat := 6
@[reducible] noncomputable def b_law20_ShipMissing : Func := Go.Proofs.Try.f6
theorem h_law20_ShipMissing : P.funcs[f_law20_ShipMissing]? = some b_law20_ShipMissing := Go.Proofs.Try.func6
-- saltern/salternlaw20.ShipTurns
abbrev f_law20_ShipTurns : Nat := 7
@[reducible] noncomputable def b_law20_ShipTurns : Func := Go.Proofs.Try.f7
theorem h_law20_ShipTurns : P.funcs[f_law20_ShipTurns]? = some b_law20_ShipTurns := Go.Proofs.Try.func7
-- saltern/salternlaw20.light
abbrev f_law20_light : Nat := 8
@[reducible] noncomputable def b_law20_light : Func := Go.Proofs.Try.f8
theorem h_law20_light : P.funcs[f_law20_light]? = some b_law20_light := Go.Proofs.Try.func8
-- saltern/ship.Bytes
abbrev f_ship_Bytes : Nat := 9
@[reducible] noncomputable def b_ship_Bytes : Func := Go.Proofs.Try.f9
theorem h_ship_Bytes : P.funcs[f_ship_Bytes]? = some b_ship_Bytes := Go.Proofs.Try.func9
-- saltern/salternref20.Bytes
abbrev f_ref20_Bytes : Nat := 10
@[reducible] noncomputable def b_ref20_Bytes : Func := Go.Proofs.Try.f10
theorem h_ref20_Bytes : P.funcs[f_ref20_Bytes]? = some b_ref20_Bytes := Go.Proofs.Try.func10
-- saltern/ship.Check
abbrev f_ship_Check : Nat := 11
@[reducible] noncomputable def b_ship_Check : Func := Go.Proofs.Try.f11
theorem h_ship_Check : P.funcs[f_ship_Check]? = some b_ship_Check := Go.Proofs.Try.func11
-- saltern/salternref20.Check
abbrev f_ref20_Check : Nat := 12
@[reducible] noncomputable def b_ref20_Check : Func := Go.Proofs.Try.f12
theorem h_ref20_Check : P.funcs[f_ref20_Check]? = some b_ref20_Check := Go.Proofs.Try.func12
-- saltern/ship.Same
abbrev f_ship_Same : Nat := 13
@[reducible] noncomputable def b_ship_Same : Func := Go.Proofs.Try.f13
theorem h_ship_Same : P.funcs[f_ship_Same]? = some b_ship_Same := Go.Proofs.Try.func13
-- saltern/salternref20.Same
abbrev f_ref20_Same : Nat := 14
@[reducible] noncomputable def b_ref20_Same : Func := Go.Proofs.Try.f14
theorem h_ref20_Same : P.funcs[f_ref20_Same]? = some b_ref20_Same := Go.Proofs.Try.func14
-- saltern/salternlaw20.awake
abbrev f_law20_awake : Nat := 15
@[reducible] noncomputable def b_law20_awake : Func := Go.Proofs.Try.f15
theorem h_law20_awake : P.funcs[f_law20_awake]? = some b_law20_awake := Go.Proofs.Try.func15
-- saltern/salternlaw20.cut
abbrev f_law20_cut : Nat := 16
@[reducible] noncomputable def b_law20_cut : Func := Go.Proofs.Try.f16
theorem h_law20_cut : P.funcs[f_law20_cut]? = some b_law20_cut := Go.Proofs.Try.func16
-- saltern/ship.Parse
abbrev f_ship_Parse : Nat := 17
@[reducible] noncomputable def b_ship_Parse : Func := Go.Proofs.Try.f17
theorem h_ship_Parse : P.funcs[f_ship_Parse]? = some b_ship_Parse := Go.Proofs.Try.func17
-- saltern/salternref20.Parse
abbrev f_ref20_Parse : Nat := 18
@[reducible] noncomputable def b_ref20_Parse : Func := Go.Proofs.Try.f18
theorem h_ref20_Parse : P.funcs[f_ref20_Parse]? = some b_ref20_Parse := Go.Proofs.Try.func18
-- saltern/salternlaw20.few
abbrev f_law20_few : Nat := 19
@[reducible] noncomputable def b_law20_few : Func := Go.Proofs.Try.f19
theorem h_law20_few : P.funcs[f_law20_few]? = some b_law20_few := Go.Proofs.Try.func19
-- saltern/salternref12.Same
abbrev f_ref12_Same : Nat := 20
@[reducible] noncomputable def b_ref12_Same : Func := Go.Proofs.Try.f20
theorem h_ref12_Same : P.funcs[f_ref12_Same]? = some b_ref12_Same := Go.Proofs.Try.func20
-- saltern/ship.Missing
abbrev f_ship_Missing : Nat := 21
@[reducible] noncomputable def b_ship_Missing : Func := Go.Proofs.Try.f21
theorem h_ship_Missing : P.funcs[f_ship_Missing]? = some b_ship_Missing := Go.Proofs.Try.func21
-- saltern/salternref20.Missing
abbrev f_ref20_Missing : Nat := 22
@[reducible] noncomputable def b_ref20_Missing : Func := Go.Proofs.Try.f22
theorem h_ref20_Missing : P.funcs[f_ref20_Missing]? = some b_ref20_Missing := Go.Proofs.Try.func22
-- saltern/ship.Rising
abbrev f_ship_Rising : Nat := 23
@[reducible] noncomputable def b_ship_Rising : Func := Go.Proofs.Try.f23
theorem h_ship_Rising : P.funcs[f_ship_Rising]? = some b_ship_Rising := Go.Proofs.Try.func23
-- saltern/salternref20.Rising
abbrev f_ref20_Rising : Nat := 24
@[reducible] noncomputable def b_ref20_Rising : Func := Go.Proofs.Try.f24
theorem h_ref20_Rising : P.funcs[f_ref20_Rising]? = some b_ref20_Rising := Go.Proofs.Try.func24
-- saltern/word.Varint
abbrev f_word_Varint : Nat := 25
@[reducible] noncomputable def b_word_Varint : Func := Go.Proofs.Try.f25
theorem h_word_Varint : P.funcs[f_word_Varint]? = some b_word_Varint := Go.Proofs.Try.func25
-- saltern/record.Bytes
abbrev f_record_Bytes : Nat := 26
@[reducible] noncomputable def b_record_Bytes : Func := Go.Proofs.Try.f26
theorem h_record_Bytes : P.funcs[f_record_Bytes]? = some b_record_Bytes := Go.Proofs.Try.func26
-- saltern/salternref20.bytes
abbrev f_ref20_bytes : Nat := 27
@[reducible] noncomputable def b_ref20_bytes : Func := Go.Proofs.Try.f27
theorem h_ref20_bytes : P.funcs[f_ref20_bytes]? = some b_ref20_bytes := Go.Proofs.Try.func27
-- saltern/ship.only
abbrev f_ship_only : Nat := 28
@[reducible] noncomputable def b_ship_only : Func := Go.Proofs.Try.f28
theorem h_ship_only : P.funcs[f_ship_only]? = some b_ship_only := Go.Proofs.Try.func28
-- saltern/salternref16.IsHead
abbrev f_ref16_IsHead : Nat := 29
@[reducible] noncomputable def b_ref16_IsHead : Func := Go.Proofs.Try.f29
theorem h_ref16_IsHead : P.funcs[f_ref16_IsHead]? = some b_ref16_IsHead := Go.Proofs.Try.func29
-- saltern/salternref13.Check
abbrev f_ref13_Check : Nat := 30
@[reducible] noncomputable def b_ref13_Check : Func := Go.Proofs.Try.f30
theorem h_ref13_Check : P.funcs[f_ref13_Check]? = some b_ref13_Check := Go.Proofs.Try.func30
-- saltern/salternref20.row
abbrev f_ref20_row : Nat := 31
@[reducible] noncomputable def b_ref20_row : Func := Go.Proofs.Try.f31
theorem h_ref20_row : P.funcs[f_ref20_row]? = some b_ref20_row := Go.Proofs.Try.func31
-- saltern/salternref20.Only
abbrev f_ref20_Only : Nat := 32
@[reducible] noncomputable def b_ref20_Only : Func := Go.Proofs.Try.f32
theorem h_ref20_Only : P.funcs[f_ref20_Only]? = some b_ref20_Only := Go.Proofs.Try.func32
-- saltern/record.Same
abbrev f_record_Same : Nat := 33
@[reducible] noncomputable def b_record_Same : Func := Go.Proofs.Try.f33
theorem h_record_Same : P.funcs[f_record_Same]? = some b_record_Same := Go.Proofs.Try.func33
-- slices.Equal[[]saltern/api.Digest,saltern/api.Digest]
abbrev f_slices_Equal_Digest : Nat := 34
@[reducible] noncomputable def b_slices_Equal_Digest : Func := Go.Proofs.Try.f34
theorem h_slices_Equal_Digest : P.funcs[f_slices_Equal_Digest]? = some b_slices_Equal_Digest := Go.Proofs.Try.func34
-- bytes.Equal
abbrev f_bytes_Equal : Nat := 35
@[reducible] noncomputable def b_bytes_Equal : Func := Go.Proofs.Try.f35
theorem h_bytes_Equal : P.funcs[f_bytes_Equal]? = some b_bytes_Equal := Go.Proofs.Try.func35
-- saltern/salternref13.Same
abbrev f_ref13_Same : Nat := 36
@[reducible] noncomputable def b_ref13_Same : Func := Go.Proofs.Try.f36
theorem h_ref13_Same : P.funcs[f_ref13_Same]? = some b_ref13_Same := Go.Proofs.Try.func36
-- saltern/ship.number
abbrev f_ship_number : Nat := 37
@[reducible] noncomputable def b_ship_number : Func := Go.Proofs.Try.f37
theorem h_ship_number : P.funcs[f_ship_number]? = some b_ship_number := Go.Proofs.Try.func37
-- saltern/ship.first
abbrev f_ship_first : Nat := 38
@[reducible] noncomputable def b_ship_first : Func := Go.Proofs.Try.f38
theorem h_ship_first : P.funcs[f_ship_first]? = some b_ship_first := Go.Proofs.Try.func38
-- saltern/record.Parse
abbrev f_record_Parse : Nat := 39
@[reducible] noncomputable def b_record_Parse : Func := Go.Proofs.Try.f39
theorem h_record_Parse : P.funcs[f_record_Parse]? = some b_record_Parse := Go.Proofs.Try.func39
-- saltern/ship.digests
abbrev f_ship_digests : Nat := 40
@[reducible] noncomputable def b_ship_digests : Func := Go.Proofs.Try.f40
theorem h_ship_digests : P.funcs[f_ship_digests]? = some b_ship_digests := Go.Proofs.Try.func40
-- slices.Clone[[]byte,byte]
abbrev f_slices_Clone_byte : Nat := 41
@[reducible] noncomputable def b_slices_Clone_byte : Func := Go.Proofs.Try.f41
theorem h_slices_Clone_byte : P.funcs[f_slices_Clone_byte]? = some b_slices_Clone_byte := Go.Proofs.Try.func41
-- saltern/salternref20.number
abbrev f_ref20_number : Nat := 42
@[reducible] noncomputable def b_ref20_number : Func := Go.Proofs.Try.f42
theorem h_ref20_number : P.funcs[f_ref20_number]? = some b_ref20_number := Go.Proofs.Try.func42
-- saltern/salternref20.digest
abbrev f_ref20_digest : Nat := 43
@[reducible] noncomputable def b_ref20_digest : Func := Go.Proofs.Try.f43
theorem h_ref20_digest : P.funcs[f_ref20_digest]? = some b_ref20_digest := Go.Proofs.Try.func43
-- saltern/salternref13.Parse
abbrev f_ref13_Parse : Nat := 44
@[reducible] noncomputable def b_ref13_Parse : Func := Go.Proofs.Try.f44
theorem h_ref13_Parse : P.funcs[f_ref13_Parse]? = some b_ref13_Parse := Go.Proofs.Try.func44
-- slices.DeleteFunc[[]saltern/api.Digest,saltern/api.Digest]
abbrev f_slices_DeleteFunc_Digest : Nat := 45
@[reducible] noncomputable def b_slices_DeleteFunc_Digest : Func := Go.Proofs.Try.f45
theorem h_slices_DeleteFunc_Digest : P.funcs[f_slices_DeleteFunc_Digest]? = some b_slices_DeleteFunc_Digest := Go.Proofs.Try.func45
-- saltern/ship.Missing$1
abbrev f_ship_Missing_f1 : Nat := 46
@[reducible] noncomputable def b_ship_Missing_f1 : Func := Go.Proofs.Try.f46
theorem h_ship_Missing_f1 : P.funcs[f_ship_Missing_f1]? = some b_ship_Missing_f1 := Go.Proofs.Try.func46
-- saltern/salternref12.In
abbrev f_ref12_In : Nat := 47
@[reducible] noncomputable def b_ref12_In : Func := Go.Proofs.Try.f47
theorem h_ref12_In : P.funcs[f_ref12_In]? = some b_ref12_In := Go.Proofs.Try.func47
-- slices.Clone[[]saltern/api.Digest,saltern/api.Digest]
abbrev f_slices_Clone_Digest : Nat := 48
@[reducible] noncomputable def b_slices_Clone_Digest : Func := Go.Proofs.Try.f48
theorem h_slices_Clone_Digest : P.funcs[f_slices_Clone_Digest]? = some b_slices_Clone_Digest := Go.Proofs.Try.func48
-- slices.SortFunc[[]saltern/api.Digest,saltern/api.Digest]
abbrev f_slices_SortFunc_Digest : Nat := 49
@[reducible] noncomputable def b_slices_SortFunc_Digest : Func := Go.Proofs.Try.f49
theorem h_slices_SortFunc_Digest : P.funcs[f_slices_SortFunc_Digest]? = some b_slices_SortFunc_Digest := Go.Proofs.Try.func49
-- saltern/ship.compare
abbrev f_ship_compare : Nat := 50
@[reducible] noncomputable def b_ship_compare : Func := Go.Proofs.Try.f50
theorem h_ship_compare : P.funcs[f_ship_compare]? = some b_ship_compare := Go.Proofs.Try.func50
-- slices.Compact[[]saltern/api.Digest,saltern/api.Digest]
abbrev f_slices_Compact_Digest : Nat := 51
@[reducible] noncomputable def b_slices_Compact_Digest : Func := Go.Proofs.Try.f51
theorem h_slices_Compact_Digest : P.funcs[f_slices_Compact_Digest]? = some b_slices_Compact_Digest := Go.Proofs.Try.func51
-- saltern/salternref12.Rising
abbrev f_ref12_Rising : Nat := 52
@[reducible] noncomputable def b_ref12_Rising : Func := Go.Proofs.Try.f52
theorem h_ref12_Rising : P.funcs[f_ref12_Rising]? = some b_ref12_Rising := Go.Proofs.Try.func52
-- saltern/record.Check
abbrev f_record_Check : Nat := 53
@[reducible] noncomputable def b_record_Check : Func := Go.Proofs.Try.f53
theorem h_record_Check : P.funcs[f_record_Check]? = some b_record_Check := Go.Proofs.Try.func53
-- saltern/salternref01.Varint
abbrev f_ref01_Varint : Nat := 54
@[reducible] noncomputable def b_ref01_Varint : Func := Go.Proofs.Try.f54
theorem h_ref01_Varint : P.funcs[f_ref01_Varint]? = some b_ref01_Varint := Go.Proofs.Try.func54
-- saltern/salternref13.Bytes
abbrev f_ref13_Bytes : Nat := 55
@[reducible] noncomputable def b_ref13_Bytes : Func := Go.Proofs.Try.f55
theorem h_ref13_Bytes : P.funcs[f_ref13_Bytes]? = some b_ref13_Bytes := Go.Proofs.Try.func55
-- saltern/check.Check
abbrev f_check_Check : Nat := 56
@[reducible] noncomputable def b_check_Check : Func := Go.Proofs.Try.f56
theorem h_check_Check : P.funcs[f_check_Check]? = some b_check_Check := Go.Proofs.Try.func56
-- saltern/ship.seq
abbrev f_ship_seq : Nat := 57
@[reducible] noncomputable def b_ship_seq : Func := Go.Proofs.Try.f57
theorem h_ship_seq : P.funcs[f_ship_seq]? = some b_ship_seq := Go.Proofs.Try.func57
-- saltern/ship.row
abbrev f_ship_row : Nat := 58
@[reducible] noncomputable def b_ship_row : Func := Go.Proofs.Try.f58
theorem h_ship_row : P.funcs[f_ship_row]? = some b_ship_row := Go.Proofs.Try.func58
-- saltern/salternref13.Size
abbrev f_ref13_Size : Nat := 59
@[reducible] noncomputable def b_ref13_Size : Func := Go.Proofs.Try.f59
theorem h_ref13_Size : P.funcs[f_ref13_Size]? = some b_ref13_Size := Go.Proofs.Try.func59
-- saltern/salternref13.IsPath
abbrev f_ref13_IsPath : Nat := 60
@[reducible] noncomputable def b_ref13_IsPath : Func := Go.Proofs.Try.f60
theorem h_ref13_IsPath : P.funcs[f_ref13_IsPath]? = some b_ref13_IsPath := Go.Proofs.Try.func60
-- slices.Equal[[]saltern/api.Piece,saltern/api.Piece]
abbrev f_slices_Equal_Piece : Nat := 61
@[reducible] noncomputable def b_slices_Equal_Piece : Func := Go.Proofs.Try.f61
theorem h_slices_Equal_Piece : P.funcs[f_slices_Equal_Piece]? = some b_slices_Equal_Piece := Go.Proofs.Try.func61
-- saltern/word.Read
abbrev f_word_Read : Nat := 62
@[reducible] noncomputable def b_word_Read : Func := Go.Proofs.Try.f62
theorem h_word_Read : P.funcs[f_word_Read]? = some b_word_Read := Go.Proofs.Try.func62
-- saltern/record.Parse$1
abbrev f_record_Parse_f1 : Nat := 63
@[reducible] noncomputable def b_record_Parse_f1 : Func := Go.Proofs.Try.f63
theorem h_record_Parse_f1 : P.funcs[f_record_Parse_f1]? = some b_record_Parse_f1 := Go.Proofs.Try.func63
-- (*saltern/record.reader).record
abbrev f_record_reader_record : Nat := 64
@[reducible] noncomputable def b_record_reader_record : Func := Go.Proofs.Try.f64
theorem h_record_reader_record : P.funcs[f_record_reader_record]? = some b_record_reader_record := Go.Proofs.Try.func64
-- saltern/salternref01.Read
abbrev f_ref01_Read : Nat := 65
@[reducible] noncomputable def b_ref01_Read : Func := Go.Proofs.Try.f65
theorem h_ref01_Read : P.funcs[f_ref01_Read]? = some b_ref01_Read := Go.Proofs.Try.func65
-- (*saltern/salternref13.Reader).byte
abbrev f_ref13_Reader_byte : Nat := 66
@[reducible] noncomputable def b_ref13_Reader_byte : Func := Go.Proofs.Try.f66
theorem h_ref13_Reader_byte : P.funcs[f_ref13_Reader_byte]? = some b_ref13_Reader_byte := Go.Proofs.Try.func66
-- (*saltern/salternref13.Reader).number
abbrev f_ref13_Reader_number : Nat := 67
@[reducible] noncomputable def b_ref13_Reader_number : Func := Go.Proofs.Try.f67
theorem h_ref13_Reader_number : P.funcs[f_ref13_Reader_number]? = some b_ref13_Reader_number := Go.Proofs.Try.func67
-- (*saltern/salternref13.Reader).digest
abbrev f_ref13_Reader_digest : Nat := 68
@[reducible] noncomputable def b_ref13_Reader_digest : Func := Go.Proofs.Try.f68
theorem h_ref13_Reader_digest : P.funcs[f_ref13_Reader_digest]? = some b_ref13_Reader_digest := Go.Proofs.Try.func68
-- (*saltern/salternref13.Reader).take
abbrev f_ref13_Reader_take : Nat := 69
@[reducible] noncomputable def b_ref13_Reader_take : Func := Go.Proofs.Try.f69
theorem h_ref13_Reader_take : P.funcs[f_ref13_Reader_take]? = some b_ref13_Reader_take := Go.Proofs.Try.func69
-- slices.IndexFunc[[]saltern/api.Digest,saltern/api.Digest]
abbrev f_slices_IndexFunc_Digest : Nat := 70
@[reducible] noncomputable def b_slices_IndexFunc_Digest : Func := Go.Proofs.Try.f70
theorem h_slices_IndexFunc_Digest : P.funcs[f_slices_IndexFunc_Digest]? = some b_slices_IndexFunc_Digest := Go.Proofs.Try.func70
-- slices.pdqsortCmpFunc[saltern/api.Digest]
abbrev f_slices_pdqsortCmpFuncarapi_Digest : Nat := 71
@[reducible] noncomputable def b_slices_pdqsortCmpFuncarapi_Digest : Func := Go.Proofs.Try.f71
theorem h_slices_pdqsortCmpFuncarapi_Digest : P.funcs[f_slices_pdqsortCmpFuncarapi_Digest]? = some b_slices_pdqsortCmpFuncarapi_Digest := Go.Proofs.Try.func71
-- math/bits.Len
abbrev f_math_bits_Len : Nat := 72
@[reducible] noncomputable def b_math_bits_Len : Func := Go.Proofs.Try.f72
theorem h_math_bits_Len : P.funcs[f_math_bits_Len]? = some b_math_bits_Len := Go.Proofs.Try.func72
-- bytes.Compare
abbrev f_bytes_Compare : Nat := 73
@[reducible] noncomputable def b_bytes_Compare : Func := Go.Proofs.Try.f73
theorem h_bytes_Compare : P.funcs[f_bytes_Compare]? = some b_bytes_Compare := Go.Proofs.Try.func73
-- saltern/salternref12.Less
abbrev f_ref12_Less : Nat := 74
@[reducible] noncomputable def b_ref12_Less : Func := Go.Proofs.Try.f74
theorem h_ref12_Less : P.funcs[f_ref12_Less]? = some b_ref12_Less := Go.Proofs.Try.func74
-- saltern/record.fits
abbrev f_record_fits : Nat := 75
@[reducible] noncomputable def b_record_fits : Func := Go.Proofs.Try.f75
theorem h_record_fits : P.funcs[f_record_fits]? = some b_record_fits := Go.Proofs.Try.func75
-- saltern/check.may
abbrev f_check_may : Nat := 76
@[reducible] noncomputable def b_check_may : Func := Go.Proofs.Try.f76
theorem h_check_may : P.funcs[f_check_may]? = some b_check_may := Go.Proofs.Try.func76
-- (*saltern/record.reader).byte
abbrev f_record_reader_byte : Nat := 77
@[reducible] noncomputable def b_record_reader_byte : Func := Go.Proofs.Try.f77
theorem h_record_reader_byte : P.funcs[f_record_reader_byte]? = some b_record_reader_byte := Go.Proofs.Try.func77
-- (*saltern/record.left).number
abbrev f_record_left_number : Nat := 78
@[reducible] noncomputable def b_record_left_number : Func := Go.Proofs.Try.f78
theorem h_record_left_number : P.funcs[f_record_left_number]? = some b_record_left_number := Go.Proofs.Try.func78
-- (*saltern/record.reader).digest
abbrev f_record_reader_digest : Nat := 79
@[reducible] noncomputable def b_record_reader_digest : Func := Go.Proofs.Try.f79
theorem h_record_reader_digest : P.funcs[f_record_reader_digest]? = some b_record_reader_digest := Go.Proofs.Try.func79
-- (*saltern/record.left).take
abbrev f_record_left_take : Nat := 80
@[reducible] noncomputable def b_record_left_take : Func := Go.Proofs.Try.f80
theorem h_record_left_take : P.funcs[f_record_left_take]? = some b_record_left_take := Go.Proofs.Try.func80
-- slices.insertionSortCmpFunc[saltern/api.Digest]
abbrev f_slices_insertionSortCmpFuncarapi_Digest : Nat := 81
@[reducible] noncomputable def b_slices_insertionSortCmpFuncarapi_Digest : Func := Go.Proofs.Try.f81
theorem h_slices_insertionSortCmpFuncarapi_Digest : P.funcs[f_slices_insertionSortCmpFuncarapi_Digest]? = some b_slices_insertionSortCmpFuncarapi_Digest := Go.Proofs.Try.func81
-- slices.heapSortCmpFunc[saltern/api.Digest]
abbrev f_slices_heapSortCmpFuncarapi_Digest : Nat := 82
@[reducible] noncomputable def b_slices_heapSortCmpFuncarapi_Digest : Func := Go.Proofs.Try.f82
theorem h_slices_heapSortCmpFuncarapi_Digest : P.funcs[f_slices_heapSortCmpFuncarapi_Digest]? = some b_slices_heapSortCmpFuncarapi_Digest := Go.Proofs.Try.func82
-- slices.breakPatternsCmpFunc[saltern/api.Digest]
abbrev f_slices_breakPatternsCmpFuncarapi_Digest : Nat := 83
@[reducible] noncomputable def b_slices_breakPatternsCmpFuncarapi_Digest : Func := Go.Proofs.Try.f83
theorem h_slices_breakPatternsCmpFuncarapi_Digest : P.funcs[f_slices_breakPatternsCmpFuncarapi_Digest]? = some b_slices_breakPatternsCmpFuncarapi_Digest := Go.Proofs.Try.func83
-- slices.choosePivotCmpFunc[saltern/api.Digest]
abbrev f_slices_choosePivotCmpFuncarapi_Digest : Nat := 84
@[reducible] noncomputable def b_slices_choosePivotCmpFuncarapi_Digest : Func := Go.Proofs.Try.f84
theorem h_slices_choosePivotCmpFuncarapi_Digest : P.funcs[f_slices_choosePivotCmpFuncarapi_Digest]? = some b_slices_choosePivotCmpFuncarapi_Digest := Go.Proofs.Try.func84
-- slices.reverseRangeCmpFunc[saltern/api.Digest]
abbrev f_slices_reverseRangeCmpFuncarapi_Digest : Nat := 85
@[reducible] noncomputable def b_slices_reverseRangeCmpFuncarapi_Digest : Func := Go.Proofs.Try.f85
theorem h_slices_reverseRangeCmpFuncarapi_Digest : P.funcs[f_slices_reverseRangeCmpFuncarapi_Digest]? = some b_slices_reverseRangeCmpFuncarapi_Digest := Go.Proofs.Try.func85
-- slices.partialInsertionSortCmpFunc[saltern/api.Digest]
abbrev f_slices_partialInsertionSortCmpFuncarapi_Digest : Nat := 86
@[reducible] noncomputable def b_slices_partialInsertionSortCmpFuncarapi_Digest : Func := Go.Proofs.Try.f86
theorem h_slices_partialInsertionSortCmpFuncarapi_Digest : P.funcs[f_slices_partialInsertionSortCmpFuncarapi_Digest]? = some b_slices_partialInsertionSortCmpFuncarapi_Digest := Go.Proofs.Try.func86
-- slices.partitionEqualCmpFunc[saltern/api.Digest]
abbrev f_slices_partitionEqualCmpFuncarapi_Digest : Nat := 87
@[reducible] noncomputable def b_slices_partitionEqualCmpFuncarapi_Digest : Func := Go.Proofs.Try.f87
theorem h_slices_partitionEqualCmpFuncarapi_Digest : P.funcs[f_slices_partitionEqualCmpFuncarapi_Digest]? = some b_slices_partitionEqualCmpFuncarapi_Digest := Go.Proofs.Try.func87
-- slices.partitionCmpFunc[saltern/api.Digest]
abbrev f_slices_partitionCmpFuncarapi_Digest : Nat := 88
@[reducible] noncomputable def b_slices_partitionCmpFuncarapi_Digest : Func := Go.Proofs.Try.f88
theorem h_slices_partitionCmpFuncarapi_Digest : P.funcs[f_slices_partitionCmpFuncarapi_Digest]? = some b_slices_partitionCmpFuncarapi_Digest := Go.Proofs.Try.func88
-- math/bits.Len32
abbrev f_math_bits_Len32 : Nat := 89
@[reducible] noncomputable def b_math_bits_Len32 : Func := Go.Proofs.Try.f89
theorem h_math_bits_Len32 : P.funcs[f_math_bits_Len32]? = some b_math_bits_Len32 := Go.Proofs.Try.func89
-- math/bits.Len64
abbrev f_math_bits_Len64 : Nat := 90
@[reducible] noncomputable def b_math_bits_Len64 : Func := Go.Proofs.Try.f90
theorem h_math_bits_Len64 : P.funcs[f_math_bits_Len64]? = some b_math_bits_Len64 := Go.Proofs.Try.func90
-- internal/bytealg.Compare
abbrev f_internal_bytealg_Compare : Nat := 91
@[reducible] noncomputable def b_internal_bytealg_Compare : Func := Go.Proofs.Try.f91
theorem h_internal_bytealg_Compare : P.funcs[f_internal_bytealg_Compare]? = some b_internal_bytealg_Compare := Go.Proofs.Try.func91
-- saltern/record.Size
abbrev f_record_Size : Nat := 92
@[reducible] noncomputable def b_record_Size : Func := Go.Proofs.Try.f92
theorem h_record_Size : P.funcs[f_record_Size]? = some b_record_Size := Go.Proofs.Try.func92
-- saltern/record.IsPath
abbrev f_record_IsPath : Nat := 93
@[reducible] noncomputable def b_record_IsPath : Func := Go.Proofs.Try.f93
theorem h_record_IsPath : P.funcs[f_record_IsPath]? = some b_record_IsPath := Go.Proofs.Try.func93
-- slices.siftDownCmpFunc[saltern/api.Digest]
abbrev f_slices_siftDownCmpFuncarapi_Digest : Nat := 94
@[reducible] noncomputable def b_slices_siftDownCmpFuncarapi_Digest : Func := Go.Proofs.Try.f94
theorem h_slices_siftDownCmpFuncarapi_Digest : P.funcs[f_slices_siftDownCmpFuncarapi_Digest]? = some b_slices_siftDownCmpFuncarapi_Digest := Go.Proofs.Try.func94
-- slices.nextPowerOfTwo
abbrev f_slices_nextPowerOfTwo : Nat := 95
@[reducible] noncomputable def b_slices_nextPowerOfTwo : Func := Go.Proofs.Try.f95
theorem h_slices_nextPowerOfTwo : P.funcs[f_slices_nextPowerOfTwo]? = some b_slices_nextPowerOfTwo := Go.Proofs.Try.func95
-- (*slices.xorshift).Next
abbrev f_slices_xorshift_Next : Nat := 96
@[reducible] noncomputable def b_slices_xorshift_Next : Func := Go.Proofs.Try.f96
theorem h_slices_xorshift_Next : P.funcs[f_slices_xorshift_Next]? = some b_slices_xorshift_Next := Go.Proofs.Try.func96
-- slices.medianAdjacentCmpFunc[saltern/api.Digest]
abbrev f_slices_medianAdjacentCmpFuncarapi_Digest : Nat := 97
@[reducible] noncomputable def b_slices_medianAdjacentCmpFuncarapi_Digest : Func := Go.Proofs.Try.f97
theorem h_slices_medianAdjacentCmpFuncarapi_Digest : P.funcs[f_slices_medianAdjacentCmpFuncarapi_Digest]? = some b_slices_medianAdjacentCmpFuncarapi_Digest := Go.Proofs.Try.func97
-- slices.medianCmpFunc[saltern/api.Digest]
abbrev f_slices_medianCmpFuncarapi_Digest : Nat := 98
@[reducible] noncomputable def b_slices_medianCmpFuncarapi_Digest : Func := Go.Proofs.Try.f98
theorem h_slices_medianCmpFuncarapi_Digest : P.funcs[f_slices_medianCmpFuncarapi_Digest]? = some b_slices_medianCmpFuncarapi_Digest := Go.Proofs.Try.func98
-- slices.order2CmpFunc[saltern/api.Digest]
abbrev f_slices_order2CmpFuncarapi_Digest : Nat := 99
@[reducible] noncomputable def b_slices_order2CmpFuncarapi_Digest : Func := Go.Proofs.Try.f99
theorem h_slices_order2CmpFuncarapi_Digest : P.funcs[f_slices_order2CmpFuncarapi_Digest]? = some b_slices_order2CmpFuncarapi_Digest := Go.Proofs.Try.func99
abbrev t_int64 : Nat := 2
abbrev t_int : Nat := 3
abbrev t_bool : Nat := 4
abbrev t_uint8 : Nat := 5
abbrev t_string : Nat := 9
abbrev t_uintptr : Nat := 12
abbrev t_maps_unhashableTypeError : Nat := 19
abbrev t_int32 : Nat := 21
abbrev t_api_MsgKind : Nat := 22
abbrev t_ar32_uint8 : Nat := 23
abbrev t_api_Digest : Nat := 24
abbrev t_api_Head : Nat := 26
abbrev t_api_RecordKind : Nat := 27
abbrev t_sl_api_Piece : Nat := 28
abbrev t_api_Record : Nat := 30
abbrev t_sl_api_Digest : Nat := 31
abbrev t_sl_uint8 : Nat := 32
abbrev t_api_Msg : Nat := 34
abbrev t_api_Errno : Nat := 36
abbrev t_uint64 : Nat := 53
abbrev t_maparapi_Digest_bool : Nat := 74
abbrev t_uint : Nat := 80
abbrev t_api_Piece : Nat := 83
abbrev t_api_Mark : Nat := 88
abbrev t_record_fault : Nat := 96
abbrev t_p_record_reader : Nat := 98
abbrev t_record_left : Nat := 100
abbrev t_record_reader : Nat := 102
abbrev t_p_salternref13_Reader : Nat := 106
abbrev t_salternref13_Reader : Nat := 108
abbrev t_slices_sortedHint : Nat := 120
abbrev t_uint32 : Nat := 128
abbrev t_p_record_left : Nat := 132
abbrev t_slices_xorshift : Nat := 133
abbrev t_p_int : Nat := 137
abbrev t_p_slices_xorshift : Nat := 139
abbrev t_p_uint8 : Nat := 150
end Go.Sal.Nm
