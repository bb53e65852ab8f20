/- The numbers of this translation's functions and types, by name: written by a program of this session. -/
import Derived.Test.YtmebmabepifjaaaProg
import Derived.Test.YtmebmabepifjaaaQVseTyped
namespace Go.Sal.Nm
open Go.Vse
@[reducible] noncomputable def P : Program := Go.Proofs.Try.prog
-- saltern/salternlaw16.CheckAudits
abbrev f_law16_CheckAudits : Nat := 3
@[reducible] noncomputable def b_law16_CheckAudits : Func := Go.Proofs.Try.f3
theorem h_law16_CheckAudits : P.funcs[f_law16_CheckAudits]? = some b_law16_CheckAudits := Go.Proofs.Try.func3
-- saltern/salternlaw16.CheckPrefix
abbrev f_law16_CheckPrefix : Nat := 4
@[reducible] noncomputable def b_law16_CheckPrefix : Func := Go.Proofs.Try.f4
theorem h_law16_CheckPrefix : P.funcs[f_law16_CheckPrefix]? = some b_law16_CheckPrefix := Go.Proofs.Try.func4
-- saltern/salternlaw16.CheckForks
abbrev f_law16_CheckForks : Nat := 5
@[reducible] noncomputable def b_law16_CheckForks : Func := Go.Proofs.Try.f5
theorem h_law16_CheckForks : P.funcs[f_law16_CheckForks]? = some b_law16_CheckForks := Go.Proofs.Try.func5
-- saltern/salternlaw16.CheckSealed
abbrev f_law16_CheckSealed : Nat := 6
@[reducible] noncomputable def b_law16_CheckSealed : Func := Go.Proofs.Try.f6
theorem h_law16_CheckSealed : P.funcs[f_law16_CheckSealed]? = some b_law16_CheckSealed := Go.Proofs.Try.func6
-- saltern/salternlaw16.CheckHeads
abbrev f_law16_CheckHeads : Nat := 7
@[reducible] noncomputable def b_law16_CheckHeads : Func := Go.Proofs.Try.f7
theorem h_law16_CheckHeads : P.funcs[f_law16_CheckHeads]? = some b_law16_CheckHeads := Go.Proofs.Try.func7
-- saltern/salternlaw16.CheckBack
abbrev f_law16_CheckBack : Nat := 8
@[reducible] noncomputable def b_law16_CheckBack : Func := Go.Proofs.Try.f8
theorem h_law16_CheckBack : P.funcs[f_law16_CheckBack]? = some b_law16_CheckBack := Go.Proofs.Try.func8
-- saltern/salternlaw16.CheckMarks
abbrev f_law16_CheckMarks : Nat := 9
@[reducible] noncomputable def b_law16_CheckMarks : Func := Go.Proofs.Try.f9
theorem h_law16_CheckMarks : P.funcs[f_law16_CheckMarks]? = some b_law16_CheckMarks := Go.Proofs.Try.func9
-- saltern/salternlaw16.cut
abbrev f_law16_cut : Nat := 10
@[reducible] noncomputable def b_law16_cut : Func := Go.Proofs.Try.f10
theorem h_law16_cut : P.funcs[f_law16_cut]? = some b_law16_cut := Go.Proofs.Try.func10
-- saltern/salternlaw16.few
abbrev f_law16_few : Nat := 11
@[reducible] noncomputable def b_law16_few : Func := Go.Proofs.Try.f11
theorem h_law16_few : P.funcs[f_law16_few]? = some b_law16_few := Go.Proofs.Try.func11
-- saltern/salternlaw16.some
abbrev f_law16_some : Nat := 12
@[reducible] noncomputable def b_law16_some : Func := Go.Proofs.Try.f12
theorem h_law16_some : P.funcs[f_law16_some]? = some b_law16_some := Go.Proofs.Try.func12
-- saltern/check.Audit
abbrev f_check_Audit : Nat := 13
@[reducible] noncomputable def b_check_Audit : Func := Go.Proofs.Try.f13
theorem h_check_Audit : P.funcs[f_check_Audit]? = some b_check_Audit := Go.Proofs.Try.func13
-- saltern/salternref16.Audit
abbrev f_ref16_Audit : Nat := 14
@[reducible] noncomputable def b_ref16_Audit : Func := Go.Proofs.Try.f14
theorem h_ref16_Audit : P.funcs[f_ref16_Audit]? = some b_ref16_Audit := Go.Proofs.Try.func14
-- saltern/salternlaw16.awake
abbrev f_law16_awake : Nat := 15
@[reducible] noncomputable def b_law16_awake : Func := Go.Proofs.Try.f15
theorem h_law16_awake : P.funcs[f_law16_awake]? = some b_law16_awake := Go.Proofs.Try.func15
-- saltern/salternlaw16.chain
abbrev f_law16_chain : Nat := 16
@[reducible] noncomputable def b_law16_chain : Func := Go.Proofs.Try.f16
theorem h_law16_chain : P.funcs[f_law16_chain]? = some b_law16_chain := Go.Proofs.Try.func16
-- saltern/salternref13.Walk
abbrev f_ref13_Walk : Nat := 17
@[reducible] noncomputable def b_ref13_Walk : Func := Go.Proofs.Try.f17
theorem h_ref13_Walk : P.funcs[f_ref13_Walk]? = some b_ref13_Walk := Go.Proofs.Try.func17
-- saltern/check.Make
abbrev f_check_Make : Nat := 18
@[reducible] noncomputable def b_check_Make : Func := Go.Proofs.Try.f18
theorem h_check_Make : P.funcs[f_check_Make]? = some b_check_Make := Go.Proofs.Try.func18
-- saltern/salternref13.Same
abbrev f_ref13_Same : Nat := 19
@[reducible] noncomputable def b_ref13_Same : Func := Go.Proofs.Try.f19
theorem h_ref13_Same : P.funcs[f_ref13_Same]? = some b_ref13_Same := Go.Proofs.Try.func19
-- saltern/salternlaw16.twice
abbrev f_law16_twice : Nat := 20
@[reducible] noncomputable def b_law16_twice : Func := Go.Proofs.Try.f20
theorem h_law16_twice : P.funcs[f_law16_twice]? = some b_law16_twice := Go.Proofs.Try.func20
-- saltern/salternlaw16.collided
abbrev f_law16_collided : Nat := 21
@[reducible] noncomputable def b_law16_collided : Func := Go.Proofs.Try.f21
theorem h_law16_collided : P.funcs[f_law16_collided]? = some b_law16_collided := Go.Proofs.Try.func21
-- saltern/check.Sealed
abbrev f_check_Sealed : Nat := 22
@[reducible] noncomputable def b_check_Sealed : Func := Go.Proofs.Try.f22
theorem h_check_Sealed : P.funcs[f_check_Sealed]? = some b_check_Sealed := Go.Proofs.Try.func22
-- saltern/check.Check
abbrev f_check_Check : Nat := 23
@[reducible] noncomputable def b_check_Check : Func := Go.Proofs.Try.f23
theorem h_check_Check : P.funcs[f_check_Check]? = some b_check_Check := Go.Proofs.Try.func23
-- saltern/check.Newest
abbrev f_check_Newest : Nat := 24
@[reducible] noncomputable def b_check_Newest : Func := Go.Proofs.Try.f24
theorem h_check_Newest : P.funcs[f_check_Newest]? = some b_check_Newest := Go.Proofs.Try.func24
-- saltern/salternref16.Newest
abbrev f_ref16_Newest : Nat := 25
@[reducible] noncomputable def b_ref16_Newest : Func := Go.Proofs.Try.f25
theorem h_ref16_Newest : P.funcs[f_ref16_Newest]? = some b_ref16_Newest := Go.Proofs.Try.func25
-- saltern/check.Has
abbrev f_check_Has : Nat := 26
@[reducible] noncomputable def b_check_Has : Func := Go.Proofs.Try.f26
theorem h_check_Has : P.funcs[f_check_Has]? = some b_check_Has := Go.Proofs.Try.func26
-- saltern/salternref16.Has
abbrev f_ref16_Has : Nat := 27
@[reducible] noncomputable def b_ref16_Has : Func := Go.Proofs.Try.f27
theorem h_ref16_Has : P.funcs[f_ref16_Has]? = some b_ref16_Has := Go.Proofs.Try.func27
-- saltern/check.Bytes
abbrev f_check_Bytes : Nat := 28
@[reducible] noncomputable def b_check_Bytes : Func := Go.Proofs.Try.f28
theorem h_check_Bytes : P.funcs[f_check_Bytes]? = some b_check_Bytes := Go.Proofs.Try.func28
-- saltern/check.Parse
abbrev f_check_Parse : Nat := 29
@[reducible] noncomputable def b_check_Parse : Func := Go.Proofs.Try.f29
theorem h_check_Parse : P.funcs[f_check_Parse]? = some b_check_Parse := Go.Proofs.Try.func29
-- saltern/salternref16.Make
abbrev f_ref16_Make : Nat := 30
@[reducible] noncomputable def b_ref16_Make : Func := Go.Proofs.Try.f30
theorem h_ref16_Make : P.funcs[f_ref16_Make]? = some b_ref16_Make := Go.Proofs.Try.func30
-- saltern/salternref16.Bytes
abbrev f_ref16_Bytes : Nat := 31
@[reducible] noncomputable def b_ref16_Bytes : Func := Go.Proofs.Try.f31
theorem h_ref16_Bytes : P.funcs[f_ref16_Bytes]? = some b_ref16_Bytes := Go.Proofs.Try.func31
-- saltern/salternref16.Parse
abbrev f_ref16_Parse : Nat := 32
@[reducible] noncomputable def b_ref16_Parse : Func := Go.Proofs.Try.f32
theorem h_ref16_Parse : P.funcs[f_ref16_Parse]? = some b_ref16_Parse := Go.Proofs.Try.func32
-- saltern/salternref16.Check
abbrev f_ref16_Check : Nat := 33
@[reducible] noncomputable def b_ref16_Check : Func := Go.Proofs.Try.f33
theorem h_ref16_Check : P.funcs[f_ref16_Check]? = some b_ref16_Check := Go.Proofs.Try.func33
-- saltern/salternref16.Sealed
abbrev f_ref16_Sealed : Nat := 34
@[reducible] noncomputable def b_ref16_Sealed : Func := Go.Proofs.Try.f34
theorem h_ref16_Sealed : P.funcs[f_ref16_Sealed]? = some b_ref16_Sealed := Go.Proofs.Try.func34
-- saltern/record.Walk
abbrev f_record_Walk : Nat := 35
@[reducible] noncomputable def b_record_Walk : Func := Go.Proofs.Try.f35
theorem h_record_Walk : P.funcs[f_record_Walk]? = some b_record_Walk := Go.Proofs.Try.func35
-- saltern/check.forks
abbrev f_check_forks : Nat := 36
@[reducible] noncomputable def b_check_forks : Func := Go.Proofs.Try.f36
theorem h_check_forks : P.funcs[f_check_forks]? = some b_check_forks := Go.Proofs.Try.func36
-- saltern/salternref13.Make
abbrev f_ref13_Make : Nat := 37
@[reducible] noncomputable def b_ref13_Make : Func := Go.Proofs.Try.f37
theorem h_ref13_Make : P.funcs[f_ref13_Make]? = some b_ref13_Make := Go.Proofs.Try.func37
-- saltern/salternref13.Next
abbrev f_ref13_Next : Nat := 38
@[reducible] noncomputable def b_ref13_Next : Func := Go.Proofs.Try.f38
theorem h_ref13_Next : P.funcs[f_ref13_Next]? = some b_ref13_Next := Go.Proofs.Try.func38
-- saltern/check.may
abbrev f_check_may : Nat := 39
@[reducible] noncomputable def b_check_may : Func := Go.Proofs.Try.f39
theorem h_check_may : P.funcs[f_check_may]? = some b_check_may := Go.Proofs.Try.func39
-- saltern/check.seal
abbrev f_check_seal : Nat := 40
@[reducible] noncomputable def b_check_seal : Func := Go.Proofs.Try.f40
theorem h_check_seal : P.funcs[f_check_seal]? = some b_check_seal := Go.Proofs.Try.func40
-- saltern/salternref13.Bytes
abbrev f_ref13_Bytes : Nat := 41
@[reducible] noncomputable def b_ref13_Bytes : Func := Go.Proofs.Try.f41
theorem h_ref13_Bytes : P.funcs[f_ref13_Bytes]? = some b_ref13_Bytes := Go.Proofs.Try.func41
-- saltern/salternref03.Of
abbrev f_ref03_Of : Nat := 42
@[reducible] noncomputable def b_ref03_Of : Func := Go.Proofs.Try.f42
theorem h_ref03_Of : P.funcs[f_ref03_Of]? = some b_ref03_Of := Go.Proofs.Try.func42
-- saltern/mac.Same
abbrev f_mac_Same : Nat := 43
@[reducible] noncomputable def b_mac_Same : Func := Go.Proofs.Try.f43
theorem h_mac_Same : P.funcs[f_mac_Same]? = some b_mac_Same := Go.Proofs.Try.func43
-- saltern/check.body
abbrev f_check_body : Nat := 44
@[reducible] noncomputable def b_check_body : Func := Go.Proofs.Try.f44
theorem h_check_body : P.funcs[f_check_body]? = some b_check_body := Go.Proofs.Try.func44
-- saltern/check.number
abbrev f_check_number : Nat := 45
@[reducible] noncomputable def b_check_number : Func := Go.Proofs.Try.f45
theorem h_check_number : P.funcs[f_check_number]? = some b_check_number := Go.Proofs.Try.func45
-- saltern/salternref16.seal
abbrev f_ref16_seal : Nat := 46
@[reducible] noncomputable def b_ref16_seal : Func := Go.Proofs.Try.f46
theorem h_ref16_seal : P.funcs[f_ref16_seal]? = some b_ref16_seal := Go.Proofs.Try.func46
-- saltern/salternref16.body
abbrev f_ref16_body : Nat := 47
@[reducible] noncomputable def b_ref16_body : Func := Go.Proofs.Try.f47
theorem h_ref16_body : P.funcs[f_ref16_body]? = some b_ref16_body := Go.Proofs.Try.func47
-- saltern/salternref01.Read
abbrev f_ref01_Read : Nat := 48
@[reducible] noncomputable def b_ref01_Read : Func := Go.Proofs.Try.f48
theorem h_ref01_Read : P.funcs[f_ref01_Read]? = some b_ref01_Read := Go.Proofs.Try.func48
-- saltern/salternref16.IsHead
abbrev f_ref16_IsHead : Nat := 49
@[reducible] noncomputable def b_ref16_IsHead : Func := Go.Proofs.Try.f49
theorem h_ref16_IsHead : P.funcs[f_ref16_IsHead]? = some b_ref16_IsHead := Go.Proofs.Try.func49
-- saltern/record.Next
abbrev f_record_Next : Nat := 50
@[reducible] noncomputable def b_record_Next : Func := Go.Proofs.Try.f50
theorem h_record_Next : P.funcs[f_record_Next]? = some b_record_Next := Go.Proofs.Try.func50
-- saltern/salternref13.Chain
abbrev f_ref13_Chain : Nat := 51
@[reducible] noncomputable def b_ref13_Chain : Func := Go.Proofs.Try.f51
theorem h_ref13_Chain : P.funcs[f_ref13_Chain]? = some b_ref13_Chain := Go.Proofs.Try.func51
-- saltern/salternref13.Follows
abbrev f_ref13_Follows : Nat := 52
@[reducible] noncomputable def b_ref13_Follows : Func := Go.Proofs.Try.f52
theorem h_ref13_Follows : P.funcs[f_ref13_Follows]? = some b_ref13_Follows := Go.Proofs.Try.func52
-- saltern/mac.Derive
abbrev f_mac_Derive : Nat := 53
@[reducible] noncomputable def b_mac_Derive : Func := Go.Proofs.Try.f53
theorem h_mac_Derive : P.funcs[f_mac_Derive]? = some b_mac_Derive := Go.Proofs.Try.func53
-- saltern/mac.Sum
abbrev f_mac_Sum : Nat := 54
@[reducible] noncomputable def b_mac_Sum : Func := Go.Proofs.Try.f54
theorem h_mac_Sum : P.funcs[f_mac_Sum]? = some b_mac_Sum := Go.Proofs.Try.func54
-- saltern/salternref13.Check
abbrev f_ref13_Check : Nat := 55
@[reducible] noncomputable def b_ref13_Check : Func := Go.Proofs.Try.f55
theorem h_ref13_Check : P.funcs[f_ref13_Check]? = some b_ref13_Check := Go.Proofs.Try.func55
-- saltern/salternref01.Varint
abbrev f_ref01_Varint : Nat := 56
@[reducible] noncomputable def b_ref01_Varint : Func := Go.Proofs.Try.f56
theorem h_ref01_Varint : P.funcs[f_ref01_Varint]? = some b_ref01_Varint := Go.Proofs.Try.func56
-- saltern/salternref03.Sum
abbrev f_ref03_Sum : Nat := 57
@[reducible] noncomputable def b_ref03_Sum : Func := Go.Proofs.Try.f57
theorem h_ref03_Sum : P.funcs[f_ref03_Sum]? = some b_ref03_Sum := Go.Proofs.Try.func57
-- saltern/word.Varint
abbrev f_word_Varint : Nat := 58
@[reducible] noncomputable def b_word_Varint : Func := Go.Proofs.Try.f58
theorem h_word_Varint : P.funcs[f_word_Varint]? = some b_word_Varint := Go.Proofs.Try.func58
-- saltern/word.Read
abbrev f_word_Read : Nat := 59
@[reducible] noncomputable def b_word_Read : Func := Go.Proofs.Try.f59
theorem h_word_Read : P.funcs[f_word_Read]? = some b_word_Read := Go.Proofs.Try.func59
-- saltern/salternref04.Derive
abbrev f_ref04_Derive : Nat := 60
@[reducible] noncomputable def b_ref04_Derive : Func := Go.Proofs.Try.f60
theorem h_ref04_Derive : P.funcs[f_ref04_Derive]? = some b_ref04_Derive := Go.Proofs.Try.func60
-- saltern/salternref04.Of
abbrev f_ref04_Of : Nat := 61
@[reducible] noncomputable def b_ref04_Of : Func := Go.Proofs.Try.f61
theorem h_ref04_Of : P.funcs[f_ref04_Of]? = some b_ref04_Of := Go.Proofs.Try.func61
-- saltern/record.Chain
abbrev f_record_Chain : Nat := 62
@[reducible] noncomputable def b_record_Chain : Func := Go.Proofs.Try.f62
theorem h_record_Chain : P.funcs[f_record_Chain]? = some b_record_Chain := Go.Proofs.Try.func62
-- saltern/record.follows
abbrev f_record_follows : Nat := 63
@[reducible] noncomputable def b_record_follows : Func := Go.Proofs.Try.f63
theorem h_record_follows : P.funcs[f_record_follows]? = some b_record_follows := Go.Proofs.Try.func63
-- saltern/word.Bytes
abbrev f_word_Bytes : Nat := 64
@[reducible] noncomputable def b_word_Bytes : Func := Go.Proofs.Try.f64
theorem h_word_Bytes : P.funcs[f_word_Bytes]? = some b_word_Bytes := Go.Proofs.Try.func64
-- saltern/mac.of
abbrev f_mac_of : Nat := 65
@[reducible] noncomputable def b_mac_of : Func := Go.Proofs.Try.f65
theorem h_mac_of : P.funcs[f_mac_of]? = some b_mac_of := Go.Proofs.Try.func65
-- saltern/sha.Sum
abbrev f_sha_Sum : Nat := 66
@[reducible] noncomputable def b_sha_Sum : Func := Go.Proofs.Try.f66
theorem h_sha_Sum : P.funcs[f_sha_Sum]? = some b_sha_Sum := Go.Proofs.Try.func66
-- (saltern/mac.block).with
abbrev f_mac_block_with : Nat := 67
@[reducible] noncomputable def b_mac_block_with : Func := Go.Proofs.Try.f67
theorem h_mac_block_with : P.funcs[f_mac_block_with]? = some b_mac_block_with := Go.Proofs.Try.func67
-- saltern/salternref13.Size
abbrev f_ref13_Size : Nat := 68
@[reducible] noncomputable def b_ref13_Size : Func := Go.Proofs.Try.f68
theorem h_ref13_Size : P.funcs[f_ref13_Size]? = some b_ref13_Size := Go.Proofs.Try.func68
-- saltern/salternref13.IsPath
abbrev f_ref13_IsPath : Nat := 69
@[reducible] noncomputable def b_ref13_IsPath : Func := Go.Proofs.Try.f69
theorem h_ref13_IsPath : P.funcs[f_ref13_IsPath]? = some b_ref13_IsPath := Go.Proofs.Try.func69
-- saltern/salternref03.Pad
abbrev f_ref03_Pad : Nat := 70
@[reducible] noncomputable def b_ref03_Pad : Func := Go.Proofs.Try.f70
theorem h_ref03_Pad : P.funcs[f_ref03_Pad]? = some b_ref03_Pad := Go.Proofs.Try.func70
-- saltern/salternref03.Start
abbrev f_ref03_Start : Nat := 71
@[reducible] noncomputable def b_ref03_Start : Func := Go.Proofs.Try.f71
theorem h_ref03_Start : P.funcs[f_ref03_Start]? = some b_ref03_Start := Go.Proofs.Try.func71
-- saltern/salternref03.Step
abbrev f_ref03_Step : Nat := 72
@[reducible] noncomputable def b_ref03_Step : Func := Go.Proofs.Try.f72
theorem h_ref03_Step : P.funcs[f_ref03_Step]? = some b_ref03_Step := Go.Proofs.Try.func72
-- saltern/salternref03.Bytes
abbrev f_ref03_Bytes : Nat := 73
@[reducible] noncomputable def b_ref03_Bytes : Func := Go.Proofs.Try.f73
theorem h_ref03_Bytes : P.funcs[f_ref03_Bytes]? = some b_ref03_Bytes := Go.Proofs.Try.func73
-- saltern/salternref04.Sum
abbrev f_ref04_Sum : Nat := 74
@[reducible] noncomputable def b_ref04_Sum : Func := Go.Proofs.Try.f74
theorem h_ref04_Sum : P.funcs[f_ref04_Sum]? = some b_ref04_Sum := Go.Proofs.Try.func74
-- saltern/record.Bytes
abbrev f_record_Bytes : Nat := 75
@[reducible] noncomputable def b_record_Bytes : Func := Go.Proofs.Try.f75
theorem h_record_Bytes : P.funcs[f_record_Bytes]? = some b_record_Bytes := Go.Proofs.Try.func75
-- saltern/word.way
abbrev f_word_way : Nat := 76
@[reducible] noncomputable def b_word_way : Func := Go.Proofs.Try.f76
theorem h_word_way : P.funcs[f_word_way]? = some b_word_way := Go.Proofs.Try.func76
-- saltern/word.shift
abbrev f_word_shift : Nat := 77
@[reducible] noncomputable def b_word_shift : Func := Go.Proofs.Try.f77
theorem h_word_shift : P.funcs[f_word_shift]? = some b_word_shift := Go.Proofs.Try.func77
-- saltern/sha.New
abbrev f_sha_New : Nat := 78
@[reducible] noncomputable def b_sha_New : Func := Go.Proofs.Try.f78
theorem h_sha_New : P.funcs[f_sha_New]? = some b_sha_New := Go.Proofs.Try.func78
-- (*saltern/sha.Hash).take
abbrev f_sha_Hash_take : Nat := 79
@[reducible] noncomputable def b_sha_Hash_take : Func := Go.Proofs.Try.f79
theorem h_sha_Hash_take : P.funcs[f_sha_Hash_take]? = some b_sha_Hash_take := Go.Proofs.Try.func79
-- (*saltern/sha.Hash).end
abbrev f_sha_Hash_end : Nat := 80
@[reducible] noncomputable def b_sha_Hash_end : Func := Go.Proofs.Try.f80
theorem h_sha_Hash_end : P.funcs[f_sha_Hash_end]? = some b_sha_Hash_end := Go.Proofs.Try.func80
-- saltern/salternref03.right
abbrev f_ref03_right : Nat := 81
@[reducible] noncomputable def b_ref03_right : Func := Go.Proofs.Try.f81
theorem h_ref03_right : P.funcs[f_ref03_right]? = some b_ref03_right := Go.Proofs.Try.func81
-- saltern/salternref03.moved
abbrev f_ref03_moved : Nat := 82
@[reducible] noncomputable def b_ref03_moved : Func := Go.Proofs.Try.f82
theorem h_ref03_moved : P.funcs[f_ref03_moved]? = some b_ref03_moved := Go.Proofs.Try.func82
-- saltern/salternref03.constants
abbrev f_ref03_constants : Nat := 83
@[reducible] noncomputable def b_ref03_constants : Func := Go.Proofs.Try.f83
theorem h_ref03_constants : P.funcs[f_ref03_constants]? = some b_ref03_constants := Go.Proofs.Try.func83
-- saltern/salternref04.block
abbrev f_ref04_block : Nat := 84
@[reducible] noncomputable def b_ref04_block : Func := Go.Proofs.Try.f84
theorem h_ref04_block : P.funcs[f_ref04_block]? = some b_ref04_block := Go.Proofs.Try.func84
-- saltern/salternref04.xored
abbrev f_ref04_xored : Nat := 85
@[reducible] noncomputable def b_ref04_xored : Func := Go.Proofs.Try.f85
theorem h_ref04_xored : P.funcs[f_ref04_xored]? = some b_ref04_xored := Go.Proofs.Try.func85
-- saltern/record.Check
abbrev f_record_Check : Nat := 86
@[reducible] noncomputable def b_record_Check : Func := Go.Proofs.Try.f86
theorem h_record_Check : P.funcs[f_record_Check]? = some b_record_Check := Go.Proofs.Try.func86
-- saltern/word.width
abbrev f_word_width : Nat := 87
@[reducible] noncomputable def b_word_width : Func := Go.Proofs.Try.f87
theorem h_word_width : P.funcs[f_word_width]? = some b_word_width := Go.Proofs.Try.func87
-- saltern/sha.Start
abbrev f_sha_Start : Nat := 88
@[reducible] noncomputable def b_sha_Start : Func := Go.Proofs.Try.f88
theorem h_sha_Start : P.funcs[f_sha_Start]? = some b_sha_Start := Go.Proofs.Try.func88
-- bytes.Clone
abbrev f_bytes_Clone : Nat := 89
@[reducible] noncomputable def b_bytes_Clone : Func := Go.Proofs.Try.f89
theorem h_bytes_Clone : P.funcs[f_bytes_Clone]? = some b_bytes_Clone := Go.Proofs.Try.func89
-- saltern/sha.Step
abbrev f_sha_Step : Nat := 90
@[reducible] noncomputable def b_sha_Step : Func := Go.Proofs.Try.f90
theorem h_sha_Step : P.funcs[f_sha_Step]? = some b_sha_Step := Go.Proofs.Try.func90
-- saltern/sha.Pad
abbrev f_sha_Pad : Nat := 91
@[reducible] noncomputable def b_sha_Pad : Func := Go.Proofs.Try.f91
theorem h_sha_Pad : P.funcs[f_sha_Pad]? = some b_sha_Pad := Go.Proofs.Try.func91
-- saltern/record.fits
abbrev f_record_fits : Nat := 92
@[reducible] noncomputable def b_record_fits : Func := Go.Proofs.Try.f92
theorem h_record_fits : P.funcs[f_record_fits]? = some b_record_fits := Go.Proofs.Try.func92
-- saltern/sha.schedule
abbrev f_sha_schedule : Nat := 93
@[reducible] noncomputable def b_sha_schedule : Func := Go.Proofs.Try.f93
theorem h_sha_schedule : P.funcs[f_sha_schedule]? = some b_sha_schedule := Go.Proofs.Try.func93
-- saltern/sha.constants
abbrev f_sha_constants : Nat := 94
@[reducible] noncomputable def b_sha_constants : Func := Go.Proofs.Try.f94
theorem h_sha_constants : P.funcs[f_sha_constants]? = some b_sha_constants := Go.Proofs.Try.func94
-- saltern/sha.right
abbrev f_sha_right : Nat := 95
@[reducible] noncomputable def b_sha_right : Func := Go.Proofs.Try.f95
theorem h_sha_right : P.funcs[f_sha_right]? = some b_sha_right := Go.Proofs.Try.func95
-- saltern/record.Size
abbrev f_record_Size : Nat := 96
@[reducible] noncomputable def b_record_Size : Func := Go.Proofs.Try.f96
theorem h_record_Size : P.funcs[f_record_Size]? = some b_record_Size := Go.Proofs.Try.func96
-- saltern/record.IsPath
abbrev f_record_IsPath : Nat := 97
@[reducible] noncomputable def b_record_IsPath : Func := Go.Proofs.Try.f97
theorem h_record_IsPath : P.funcs[f_record_IsPath]? = some b_record_IsPath := Go.Proofs.Try.func97
-- saltern/word.Words
abbrev f_word_Words : Nat := 98
@[reducible] noncomputable def b_word_Words : Func := Go.Proofs.Try.f98
theorem h_word_Words : P.funcs[f_word_Words]? = some b_word_Words := Go.Proofs.Try.func98
-- saltern/word.number
abbrev f_word_number : Nat := 99
@[reducible] noncomputable def b_word_number : Func := Go.Proofs.Try.f99
theorem h_word_number : P.funcs[f_word_number]? = some b_word_number := Go.Proofs.Try.func99
-- (*saltern/sha.Hash).is
abbrev f_sha_Hash_is : Nat := 116
@[reducible] noncomputable def b_sha_Hash_is : Func := Go.Proofs.Try.f116
theorem h_sha_Hash_is : P.funcs[f_sha_Hash_is]? = some b_sha_Hash_is := Go.Proofs.Try.func116
abbrev t_int64 : Nat := 2
abbrev t_int : Nat := 3
abbrev t_bool : Nat := 4
abbrev t_uint8 : Nat := 5
abbrev t_string : Nat := 9
abbrev t_uintptr : Nat := 12
abbrev t_maps_unhashableTypeError : Nat := 19
abbrev t_int32 : Nat := 21
abbrev t_sl_uint8 : Nat := 22
abbrev t_sl_api_Record : Nat := 23
abbrev t_sl_api_Mark : Nat := 24
abbrev t_api_FindingKind : Nat := 28
abbrev t_api_Finding : Nat := 30
abbrev t_ar32_uint8 : Nat := 35
abbrev t_api_Digest : Nat := 36
abbrev t_api_Head : Nat := 38
abbrev t_api_Mark : Nat := 40
abbrev t_api_Errno : Nat := 43
abbrev t_api_RecordKind : Nat := 47
abbrev t_sl_api_Piece : Nat := 48
abbrev t_api_Record : Nat := 50
abbrev t_sl_sl_api_Record : Nat := 52
abbrev t_sl_api_FindingKind : Nat := 72
abbrev t_api_Piece : Nat := 80
abbrev t_uint64 : Nat := 88
abbrev t_sl_sl_uint8 : Nat := 102
abbrev t_api_Order : Nat := 109
abbrev t_ar64_uint8 : Nat := 110
abbrev t_mac_block : Nat := 111
abbrev t_uint32 : Nat := 118
abbrev t_ar8_uint32 : Nat := 119
abbrev t_uint : Nat := 123
abbrev t_p_sha_Hash : Nat := 128
abbrev t_ar64_uint32 : Nat := 132
abbrev t_sha_Hash : Nat := 139
abbrev t_sl_uint64 : Nat := 145
abbrev t_p_uint8 : Nat := 159
end Go.Sal.Nm
