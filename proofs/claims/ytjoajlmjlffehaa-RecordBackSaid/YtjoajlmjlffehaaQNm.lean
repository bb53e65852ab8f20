/- The numbers of this translation's functions and types, by name: written by a program of this session. -/
import Derived.Test.YtjoajlmjlffehaaProg
import Derived.Test.YtjoajlmjlffehaaQVseTyped
namespace Go.Sal.Nm
open Go.Vse
@[reducible] noncomputable def P : Program := Go.Proofs.Try.prog
-- saltern/salternlaw13.RecordWalks
abbrev f_law13_RecordWalks : Nat := 3
@[reducible] noncomputable def b_law13_RecordWalks : Func := Go.Proofs.Try.f3
theorem h_law13_RecordWalks : P.funcs[f_law13_RecordWalks]? = some b_law13_RecordWalks := Go.Proofs.Try.func3
-- saltern/salternlaw13.RecordOne
abbrev f_law13_RecordOne : Nat := 4
@[reducible] noncomputable def b_law13_RecordOne : Func := Go.Proofs.Try.f4
theorem h_law13_RecordOne : P.funcs[f_law13_RecordOne]? = some b_law13_RecordOne := Go.Proofs.Try.func4
-- saltern/salternlaw13.RecordEpochs
abbrev f_law13_RecordEpochs : Nat := 5
@[reducible] noncomputable def b_law13_RecordEpochs : Func := Go.Proofs.Try.f5
theorem h_law13_RecordEpochs : P.funcs[f_law13_RecordEpochs]? = some b_law13_RecordEpochs := Go.Proofs.Try.func5
-- saltern/salternlaw13.RecordForms
abbrev f_law13_RecordForms : Nat := 6
@[reducible] noncomputable def b_law13_RecordForms : Func := Go.Proofs.Try.f6
theorem h_law13_RecordForms : P.funcs[f_law13_RecordForms]? = some b_law13_RecordForms := Go.Proofs.Try.func6
-- saltern/salternlaw13.RecordParses
abbrev f_law13_RecordParses : Nat := 7
@[reducible] noncomputable def b_law13_RecordParses : Func := Go.Proofs.Try.f7
theorem h_law13_RecordParses : P.funcs[f_law13_RecordParses]? = some b_law13_RecordParses := Go.Proofs.Try.func7
-- saltern/salternlaw13.RecordBack
abbrev f_law13_RecordBack : Nat := 8
@[reducible] noncomputable def b_law13_RecordBack : Func := Go.Proofs.Try.f8
theorem h_law13_RecordBack : P.funcs[f_law13_RecordBack]? = some b_law13_RecordBack := Go.Proofs.Try.func8
-- saltern/salternlaw13.few
abbrev f_law13_few : Nat := 9
@[reducible] noncomputable def b_law13_few : Func := Go.Proofs.Try.f9
theorem h_law13_few : P.funcs[f_law13_few]? = some b_law13_few := Go.Proofs.Try.func9
-- saltern/salternlaw13.cut
abbrev f_law13_cut : Nat := 10
@[reducible] noncomputable def b_law13_cut : Func := Go.Proofs.Try.f10
theorem h_law13_cut : P.funcs[f_law13_cut]? = some b_law13_cut := Go.Proofs.Try.func10
-- saltern/record.Walk
abbrev f_record_Walk : Nat := 11
@[reducible] noncomputable def b_record_Walk : Func := Go.Proofs.Try.f11
theorem h_record_Walk : P.funcs[f_record_Walk]? = some b_record_Walk := Go.Proofs.Try.func11
-- saltern/salternref13.Walk
abbrev f_ref13_Walk : Nat := 12
@[reducible] noncomputable def b_ref13_Walk : Func := Go.Proofs.Try.f12
theorem h_ref13_Walk : P.funcs[f_ref13_Walk]? = some b_ref13_Walk := Go.Proofs.Try.func12
-- saltern/record.Next
abbrev f_record_Next : Nat := 13
@[reducible] noncomputable def b_record_Next : Func := Go.Proofs.Try.f13
theorem h_record_Next : P.funcs[f_record_Next]? = some b_record_Next := Go.Proofs.Try.func13
-- saltern/salternref13.Next
abbrev f_ref13_Next : Nat := 14
@[reducible] noncomputable def b_ref13_Next : Func := Go.Proofs.Try.f14
theorem h_ref13_Next : P.funcs[f_ref13_Next]? = some b_ref13_Next := Go.Proofs.Try.func14
-- saltern/record.Make
abbrev f_record_Make : Nat := 15
@[reducible] noncomputable def b_record_Make : Func := Go.Proofs.Try.f15
theorem h_record_Make : P.funcs[f_record_Make]? = some b_record_Make := Go.Proofs.Try.func15
-- saltern/salternref13.Make
abbrev f_ref13_Make : Nat := 16
@[reducible] noncomputable def b_ref13_Make : Func := Go.Proofs.Try.f16
theorem h_ref13_Make : P.funcs[f_ref13_Make]? = some b_ref13_Make := Go.Proofs.Try.func16
-- saltern/salternref13.Same
abbrev f_ref13_Same : Nat := 17
@[reducible] noncomputable def b_ref13_Same : Func := Go.Proofs.Try.f17
theorem h_ref13_Same : P.funcs[f_ref13_Same]? = some b_ref13_Same := Go.Proofs.Try.func17
-- saltern/salternlaw13.alive
abbrev f_law13_alive : Nat := 18
@[reducible] noncomputable def b_law13_alive : Func := Go.Proofs.Try.f18
theorem h_law13_alive : P.funcs[f_law13_alive]? = some b_law13_alive := Go.Proofs.Try.func18
-- saltern/salternref13.SameAll
abbrev f_ref13_SameAll : Nat := 19
@[reducible] noncomputable def b_ref13_SameAll : Func := Go.Proofs.Try.f19
theorem h_ref13_SameAll : P.funcs[f_ref13_SameAll]? = some b_ref13_SameAll := Go.Proofs.Try.func19
-- saltern/salternref13.Chain
abbrev f_ref13_Chain : Nat := 20
@[reducible] noncomputable def b_ref13_Chain : Func := Go.Proofs.Try.f20
theorem h_ref13_Chain : P.funcs[f_ref13_Chain]? = some b_ref13_Chain := Go.Proofs.Try.func20
-- saltern/record.Bytes
abbrev f_record_Bytes : Nat := 21
@[reducible] noncomputable def b_record_Bytes : Func := Go.Proofs.Try.f21
theorem h_record_Bytes : P.funcs[f_record_Bytes]? = some b_record_Bytes := Go.Proofs.Try.func21
-- saltern/salternref13.Bytes
abbrev f_ref13_Bytes : Nat := 22
@[reducible] noncomputable def b_ref13_Bytes : Func := Go.Proofs.Try.f22
theorem h_ref13_Bytes : P.funcs[f_ref13_Bytes]? = some b_ref13_Bytes := Go.Proofs.Try.func22
-- saltern/record.Chain
abbrev f_record_Chain : Nat := 23
@[reducible] noncomputable def b_record_Chain : Func := Go.Proofs.Try.f23
theorem h_record_Chain : P.funcs[f_record_Chain]? = some b_record_Chain := Go.Proofs.Try.func23
-- saltern/record.Size
abbrev f_record_Size : Nat := 24
@[reducible] noncomputable def b_record_Size : Func := Go.Proofs.Try.f24
theorem h_record_Size : P.funcs[f_record_Size]? = some b_record_Size := Go.Proofs.Try.func24
-- saltern/salternref13.Size
abbrev f_ref13_Size : Nat := 25
@[reducible] noncomputable def b_ref13_Size : Func := Go.Proofs.Try.f25
theorem h_ref13_Size : P.funcs[f_ref13_Size]? = some b_ref13_Size := Go.Proofs.Try.func25
-- saltern/record.Check
abbrev f_record_Check : Nat := 26
@[reducible] noncomputable def b_record_Check : Func := Go.Proofs.Try.f26
theorem h_record_Check : P.funcs[f_record_Check]? = some b_record_Check := Go.Proofs.Try.func26
-- saltern/salternref13.Check
abbrev f_ref13_Check : Nat := 27
@[reducible] noncomputable def b_ref13_Check : Func := Go.Proofs.Try.f27
theorem h_ref13_Check : P.funcs[f_ref13_Check]? = some b_ref13_Check := Go.Proofs.Try.func27
-- saltern/record.IsPath
abbrev f_record_IsPath : Nat := 28
@[reducible] noncomputable def b_record_IsPath : Func := Go.Proofs.Try.f28
theorem h_record_IsPath : P.funcs[f_record_IsPath]? = some b_record_IsPath := Go.Proofs.Try.func28
-- saltern/salternref13.IsPath
abbrev f_ref13_IsPath : Nat := 29
@[reducible] noncomputable def b_ref13_IsPath : Func := Go.Proofs.Try.f29
theorem h_ref13_IsPath : P.funcs[f_ref13_IsPath]? = some b_ref13_IsPath := Go.Proofs.Try.func29
-- saltern/record.Same
abbrev f_record_Same : Nat := 30
@[reducible] noncomputable def b_record_Same : Func := Go.Proofs.Try.f30
theorem h_record_Same : P.funcs[f_record_Same]? = some b_record_Same := Go.Proofs.Try.func30
-- saltern/record.Parse
abbrev f_record_Parse : Nat := 31
@[reducible] noncomputable def b_record_Parse : Func := Go.Proofs.Try.f31
theorem h_record_Parse : P.funcs[f_record_Parse]? = some b_record_Parse := Go.Proofs.Try.func31
-- saltern/salternref13.Parse
abbrev f_ref13_Parse : Nat := 32
@[reducible] noncomputable def b_ref13_Parse : Func := Go.Proofs.Try.f32
theorem h_ref13_Parse : P.funcs[f_ref13_Parse]? = some b_ref13_Parse := Go.Proofs.Try.func32
-- saltern/record.follows
abbrev f_record_follows : Nat := 33
@[reducible] noncomputable def b_record_follows : Func := Go.Proofs.Try.f33
theorem h_record_follows : P.funcs[f_record_follows]? = some b_record_follows := Go.Proofs.Try.func33
-- saltern/salternref13.Follows
abbrev f_ref13_Follows : Nat := 34
@[reducible] noncomputable def b_ref13_Follows : Func := Go.Proofs.Try.f34
theorem h_ref13_Follows : P.funcs[f_ref13_Follows]? = some b_ref13_Follows := Go.Proofs.Try.func34
-- slices.Clone[[]saltern/api.Piece,saltern/api.Piece]
abbrev f_slices_Clone_Piece : Nat := 35
@[reducible] noncomputable def b_slices_Clone_Piece : Func := Go.Proofs.Try.f35
theorem h_slices_Clone_Piece : P.funcs[f_slices_Clone_Piece]? = some b_slices_Clone_Piece := Go.Proofs.Try.func35
-- saltern/salternref03.Of
abbrev f_ref03_Of : Nat := 36
@[reducible] noncomputable def b_ref03_Of : Func := Go.Proofs.Try.f36
theorem h_ref03_Of : P.funcs[f_ref03_Of]? = some b_ref03_Of := Go.Proofs.Try.func36
-- saltern/word.Varint
abbrev f_word_Varint : Nat := 37
@[reducible] noncomputable def b_word_Varint : Func := Go.Proofs.Try.f37
theorem h_word_Varint : P.funcs[f_word_Varint]? = some b_word_Varint := Go.Proofs.Try.func37
-- saltern/salternref01.Varint
abbrev f_ref01_Varint : Nat := 38
@[reducible] noncomputable def b_ref01_Varint : Func := Go.Proofs.Try.f38
theorem h_ref01_Varint : P.funcs[f_ref01_Varint]? = some b_ref01_Varint := Go.Proofs.Try.func38
-- saltern/sha.Sum
abbrev f_sha_Sum : Nat := 39
@[reducible] noncomputable def b_sha_Sum : Func := Go.Proofs.Try.f39
theorem h_sha_Sum : P.funcs[f_sha_Sum]? = some b_sha_Sum := Go.Proofs.Try.func39
-- saltern/record.fits
abbrev f_record_fits : Nat := 40
@[reducible] noncomputable def b_record_fits : Func := Go.Proofs.Try.f40
theorem h_record_fits : P.funcs[f_record_fits]? = some b_record_fits := Go.Proofs.Try.func40
-- slices.Equal[[]saltern/api.Piece,saltern/api.Piece]
abbrev f_slices_Equal_Piece : Nat := 41
@[reducible] noncomputable def b_slices_Equal_Piece : Func := Go.Proofs.Try.f41
theorem h_slices_Equal_Piece : P.funcs[f_slices_Equal_Piece]? = some b_slices_Equal_Piece := Go.Proofs.Try.func41
-- saltern/record.Parse$1
abbrev f_record_Parse_f1 : Nat := 42
@[reducible] noncomputable def b_record_Parse_f1 : Func := Go.Proofs.Try.f42
theorem h_record_Parse_f1 : P.funcs[f_record_Parse_f1]? = some b_record_Parse_f1 := Go.Proofs.Try.func42
-- (*saltern/record.reader).record
abbrev f_record_reader_record : Nat := 43
@[reducible] noncomputable def b_record_reader_record : Func := Go.Proofs.Try.f43
theorem h_record_reader_record : P.funcs[f_record_reader_record]? = some b_record_reader_record := Go.Proofs.Try.func43
-- bytes.Equal
abbrev f_bytes_Equal : Nat := 44
@[reducible] noncomputable def b_bytes_Equal : Func := Go.Proofs.Try.f44
theorem h_bytes_Equal : P.funcs[f_bytes_Equal]? = some b_bytes_Equal := Go.Proofs.Try.func44
-- (*saltern/salternref13.Reader).byte
abbrev f_ref13_Reader_byte : Nat := 45
@[reducible] noncomputable def b_ref13_Reader_byte : Func := Go.Proofs.Try.f45
theorem h_ref13_Reader_byte : P.funcs[f_ref13_Reader_byte]? = some b_ref13_Reader_byte := Go.Proofs.Try.func45
-- (*saltern/salternref13.Reader).number
abbrev f_ref13_Reader_number : Nat := 46
@[reducible] noncomputable def b_ref13_Reader_number : Func := Go.Proofs.Try.f46
theorem h_ref13_Reader_number : P.funcs[f_ref13_Reader_number]? = some b_ref13_Reader_number := Go.Proofs.Try.func46
-- (*saltern/salternref13.Reader).digest
abbrev f_ref13_Reader_digest : Nat := 47
@[reducible] noncomputable def b_ref13_Reader_digest : Func := Go.Proofs.Try.f47
theorem h_ref13_Reader_digest : P.funcs[f_ref13_Reader_digest]? = some b_ref13_Reader_digest := Go.Proofs.Try.func47
-- (*saltern/salternref13.Reader).take
abbrev f_ref13_Reader_take : Nat := 48
@[reducible] noncomputable def b_ref13_Reader_take : Func := Go.Proofs.Try.f48
theorem h_ref13_Reader_take : P.funcs[f_ref13_Reader_take]? = some b_ref13_Reader_take := Go.Proofs.Try.func48
-- saltern/salternref03.Sum
abbrev f_ref03_Sum : Nat := 49
@[reducible] noncomputable def b_ref03_Sum : Func := Go.Proofs.Try.f49
theorem h_ref03_Sum : P.funcs[f_ref03_Sum]? = some b_ref03_Sum := Go.Proofs.Try.func49
-- saltern/sha.New
abbrev f_sha_New : Nat := 50
@[reducible] noncomputable def b_sha_New : Func := Go.Proofs.Try.f50
theorem h_sha_New : P.funcs[f_sha_New]? = some b_sha_New := Go.Proofs.Try.func50
-- (*saltern/sha.Hash).take
abbrev f_sha_Hash_take : Nat := 51
@[reducible] noncomputable def b_sha_Hash_take : Func := Go.Proofs.Try.f51
theorem h_sha_Hash_take : P.funcs[f_sha_Hash_take]? = some b_sha_Hash_take := Go.Proofs.Try.func51
-- (*saltern/sha.Hash).end
abbrev f_sha_Hash_end : Nat := 52
@[reducible] noncomputable def b_sha_Hash_end : Func := Go.Proofs.Try.f52
theorem h_sha_Hash_end : P.funcs[f_sha_Hash_end]? = some b_sha_Hash_end := Go.Proofs.Try.func52
-- (*saltern/record.reader).byte
abbrev f_record_reader_byte : Nat := 53
@[reducible] noncomputable def b_record_reader_byte : Func := Go.Proofs.Try.f53
theorem h_record_reader_byte : P.funcs[f_record_reader_byte]? = some b_record_reader_byte := Go.Proofs.Try.func53
-- (*saltern/record.left).number
abbrev f_record_left_number : Nat := 54
@[reducible] noncomputable def b_record_left_number : Func := Go.Proofs.Try.f54
theorem h_record_left_number : P.funcs[f_record_left_number]? = some b_record_left_number := Go.Proofs.Try.func54
-- (*saltern/record.reader).digest
abbrev f_record_reader_digest : Nat := 55
@[reducible] noncomputable def b_record_reader_digest : Func := Go.Proofs.Try.f55
theorem h_record_reader_digest : P.funcs[f_record_reader_digest]? = some b_record_reader_digest := Go.Proofs.Try.func55
-- (*saltern/record.left).take
abbrev f_record_left_take : Nat := 56
@[reducible] noncomputable def b_record_left_take : Func := Go.Proofs.Try.f56
theorem h_record_left_take : P.funcs[f_record_left_take]? = some b_record_left_take := Go.Proofs.Try.func56
-- saltern/salternref01.Read
abbrev f_ref01_Read : Nat := 57
@[reducible] noncomputable def b_ref01_Read : Func := Go.Proofs.Try.f57
theorem h_ref01_Read : P.funcs[f_ref01_Read]? = some b_ref01_Read := Go.Proofs.Try.func57
-- saltern/salternref03.Pad
abbrev f_ref03_Pad : Nat := 58
@[reducible] noncomputable def b_ref03_Pad : Func := Go.Proofs.Try.f58
theorem h_ref03_Pad : P.funcs[f_ref03_Pad]? = some b_ref03_Pad := Go.Proofs.Try.func58
-- saltern/salternref03.Start
abbrev f_ref03_Start : Nat := 59
@[reducible] noncomputable def b_ref03_Start : Func := Go.Proofs.Try.f59
theorem h_ref03_Start : P.funcs[f_ref03_Start]? = some b_ref03_Start := Go.Proofs.Try.func59
-- saltern/salternref03.Step
abbrev f_ref03_Step : Nat := 60
@[reducible] noncomputable def b_ref03_Step : Func := Go.Proofs.Try.f60
theorem h_ref03_Step : P.funcs[f_ref03_Step]? = some b_ref03_Step := Go.Proofs.Try.func60
-- saltern/salternref03.Bytes
abbrev f_ref03_Bytes : Nat := 61
@[reducible] noncomputable def b_ref03_Bytes : Func := Go.Proofs.Try.f61
theorem h_ref03_Bytes : P.funcs[f_ref03_Bytes]? = some b_ref03_Bytes := Go.Proofs.Try.func61
-- saltern/sha.Start
abbrev f_sha_Start : Nat := 62
@[reducible] noncomputable def b_sha_Start : Func := Go.Proofs.Try.f62
theorem h_sha_Start : P.funcs[f_sha_Start]? = some b_sha_Start := Go.Proofs.Try.func62
-- bytes.Clone
abbrev f_bytes_Clone : Nat := 63
@[reducible] noncomputable def b_bytes_Clone : Func := Go.Proofs.Try.f63
theorem h_bytes_Clone : P.funcs[f_bytes_Clone]? = some b_bytes_Clone := Go.Proofs.Try.func63
-- saltern/sha.Step
abbrev f_sha_Step : Nat := 64
@[reducible] noncomputable def b_sha_Step : Func := Go.Proofs.Try.f64
theorem h_sha_Step : P.funcs[f_sha_Step]? = some b_sha_Step := Go.Proofs.Try.func64
-- saltern/sha.Pad
abbrev f_sha_Pad : Nat := 65
@[reducible] noncomputable def b_sha_Pad : Func := Go.Proofs.Try.f65
theorem h_sha_Pad : P.funcs[f_sha_Pad]? = some b_sha_Pad := Go.Proofs.Try.func65
-- saltern/word.Bytes
abbrev f_word_Bytes : Nat := 66
@[reducible] noncomputable def b_word_Bytes : Func := Go.Proofs.Try.f66
theorem h_word_Bytes : P.funcs[f_word_Bytes]? = some b_word_Bytes := Go.Proofs.Try.func66
-- saltern/word.Read
abbrev f_word_Read : Nat := 67
@[reducible] noncomputable def b_word_Read : Func := Go.Proofs.Try.f67
theorem h_word_Read : P.funcs[f_word_Read]? = some b_word_Read := Go.Proofs.Try.func67
-- saltern/salternref03.right
abbrev f_ref03_right : Nat := 68
@[reducible] noncomputable def b_ref03_right : Func := Go.Proofs.Try.f68
theorem h_ref03_right : P.funcs[f_ref03_right]? = some b_ref03_right := Go.Proofs.Try.func68
-- saltern/salternref03.moved
abbrev f_ref03_moved : Nat := 69
@[reducible] noncomputable def b_ref03_moved : Func := Go.Proofs.Try.f69
theorem h_ref03_moved : P.funcs[f_ref03_moved]? = some b_ref03_moved := Go.Proofs.Try.func69
-- saltern/salternref03.constants
abbrev f_ref03_constants : Nat := 70
@[reducible] noncomputable def b_ref03_constants : Func := Go.Proofs.Try.f70
theorem h_ref03_constants : P.funcs[f_ref03_constants]? = some b_ref03_constants := Go.Proofs.Try.func70
-- saltern/sha.schedule
abbrev f_sha_schedule : Nat := 71
@[reducible] noncomputable def b_sha_schedule : Func := Go.Proofs.Try.f71
theorem h_sha_schedule : P.funcs[f_sha_schedule]? = some b_sha_schedule := Go.Proofs.Try.func71
-- saltern/sha.constants
abbrev f_sha_constants : Nat := 72
@[reducible] noncomputable def b_sha_constants : Func := Go.Proofs.Try.f72
theorem h_sha_constants : P.funcs[f_sha_constants]? = some b_sha_constants := Go.Proofs.Try.func72
-- saltern/sha.right
abbrev f_sha_right : Nat := 73
@[reducible] noncomputable def b_sha_right : Func := Go.Proofs.Try.f73
theorem h_sha_right : P.funcs[f_sha_right]? = some b_sha_right := Go.Proofs.Try.func73
-- saltern/word.way
abbrev f_word_way : Nat := 74
@[reducible] noncomputable def b_word_way : Func := Go.Proofs.Try.f74
theorem h_word_way : P.funcs[f_word_way]? = some b_word_way := Go.Proofs.Try.func74
-- saltern/word.shift
abbrev f_word_shift : Nat := 75
@[reducible] noncomputable def b_word_shift : Func := Go.Proofs.Try.f75
theorem h_word_shift : P.funcs[f_word_shift]? = some b_word_shift := Go.Proofs.Try.func75
-- saltern/word.Words
abbrev f_word_Words : Nat := 76
@[reducible] noncomputable def b_word_Words : Func := Go.Proofs.Try.f76
theorem h_word_Words : P.funcs[f_word_Words]? = some b_word_Words := Go.Proofs.Try.func76
-- saltern/word.width
abbrev f_word_width : Nat := 77
@[reducible] noncomputable def b_word_width : Func := Go.Proofs.Try.f77
theorem h_word_width : P.funcs[f_word_width]? = some b_word_width := Go.Proofs.Try.func77
-- saltern/word.number
abbrev f_word_number : Nat := 78
@[reducible] noncomputable def b_word_number : Func := Go.Proofs.Try.f78
theorem h_word_number : P.funcs[f_word_number]? = some b_word_number := Go.Proofs.Try.func78
-- (*saltern/sha.Hash).is
abbrev f_sha_Hash_is : Nat := 95
@[reducible] noncomputable def b_sha_Hash_is : Func := Go.Proofs.Try.f95
theorem h_sha_Hash_is : P.funcs[f_sha_Hash_is]? = some b_sha_Hash_is := Go.Proofs.Try.func95
abbrev t_int64 : Nat := 2
abbrev t_int : Nat := 3
abbrev t_bool : Nat := 4
abbrev t_uint8 : Nat := 5
abbrev t_string : Nat := 9
abbrev t_uintptr : Nat := 12
abbrev t_maps_unhashableTypeError : Nat := 19
abbrev t_int32 : Nat := 21
abbrev t_ar32_uint8 : Nat := 22
abbrev t_api_Digest : Nat := 23
abbrev t_api_Head : Nat := 25
abbrev t_sl_api_Record : Nat := 26
abbrev t_api_RecordKind : Nat := 27
abbrev t_sl_api_Piece : Nat := 28
abbrev t_api_Record : Nat := 30
abbrev t_api_Errno : Nat := 33
abbrev t_sl_uint8 : Nat := 53
abbrev t_api_Piece : Nat := 75
abbrev t_uint64 : Nat := 78
abbrev t_record_fault : Nat := 83
abbrev t_p_record_reader : Nat := 85
abbrev t_record_left : Nat := 87
abbrev t_record_reader : Nat := 89
abbrev t_p_salternref13_Reader : Nat := 92
abbrev t_salternref13_Reader : Nat := 94
abbrev t_sl_sl_uint8 : Nat := 99
abbrev t_uint : Nat := 100
abbrev t_p_sha_Hash : Nat := 101
abbrev t_uint32 : Nat := 106
abbrev t_ar8_uint32 : Nat := 107
abbrev t_ar64_uint8 : Nat := 109
abbrev t_sha_Hash : Nat := 113
abbrev t_api_Order : Nat := 116
abbrev t_p_record_left : Nat := 117
abbrev t_ar64_uint32 : Nat := 120
abbrev t_sl_uint64 : Nat := 127
abbrev t_p_uint8 : Nat := 141
end Go.Sal.Nm
