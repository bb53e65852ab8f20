/- The numbers of this translation's functions and types, by name: written by a program of this session. -/
import Derived.Test.YtdddnamfecgkeaaProg
import Derived.Test.YtdddnamfecgkeaaQVseTyped
namespace Go.Sal.Nm
open Go.Vse
@[reducible] noncomputable def P : Program := Go.Proofs.Try.prog
-- saltern/salternlaw27.MerkleRoots
abbrev f_law27_MerkleRoots : Nat := 3
@[reducible] noncomputable def b_law27_MerkleRoots : Func := Go.Proofs.Try.f3
theorem h_law27_MerkleRoots : P.funcs[f_law27_MerkleRoots]? = some b_law27_MerkleRoots := Go.Proofs.Try.func3
-- saltern/salternlaw27.MerkleProofs
abbrev f_law27_MerkleProofs : Nat := 4
@[reducible] noncomputable def b_law27_MerkleProofs : Func := Go.Proofs.Try.f4
theorem h_law27_MerkleProofs : P.funcs[f_law27_MerkleProofs]? = some b_law27_MerkleProofs := Go.Proofs.Try.func4
-- saltern/salternlaw27.MerkleTakes
abbrev f_law27_MerkleTakes : Nat := 5
@[reducible] noncomputable def b_law27_MerkleTakes : Func := Go.Proofs.Try.f5
theorem h_law27_MerkleTakes : P.funcs[f_law27_MerkleTakes]? = some b_law27_MerkleTakes := Go.Proofs.Try.func5
-- saltern/salternlaw27.MerkleSound
abbrev f_law27_MerkleSound : Nat := 6
@[reducible] noncomputable def b_law27_MerkleSound : Func := Go.Proofs.Try.f6
theorem h_law27_MerkleSound : P.funcs[f_law27_MerkleSound]? = some b_law27_MerkleSound := Go.Proofs.Try.func6
-- saltern/salternlaw27.MerkleProved
abbrev f_law27_MerkleProved : Nat := 7
@[reducible] noncomputable def b_law27_MerkleProved : Func := Go.Proofs.Try.f7
theorem h_law27_MerkleProved : P.funcs[f_law27_MerkleProved]? = some b_law27_MerkleProved := Go.Proofs.Try.func7
-- saltern/salternlaw27.MerkleRecords
abbrev f_law27_MerkleRecords : Nat := 8
@[reducible] noncomputable def b_law27_MerkleRecords : Func := Go.Proofs.Try.f8
theorem h_law27_MerkleRecords : P.funcs[f_law27_MerkleRecords]? = some b_law27_MerkleRecords := Go.Proofs.Try.func8
-- saltern/salternlaw27.MerkleLogs
abbrev f_law27_MerkleLogs : Nat := 9
@[reducible] noncomputable def b_law27_MerkleLogs : Func := Go.Proofs.Try.f9
theorem h_law27_MerkleLogs : P.funcs[f_law27_MerkleLogs]? = some b_law27_MerkleLogs := Go.Proofs.Try.func9
-- saltern/salternlaw27.cut
abbrev f_law27_cut : Nat := 10
@[reducible] noncomputable def b_law27_cut : Func := Go.Proofs.Try.f10
theorem h_law27_cut : P.funcs[f_law27_cut]? = some b_law27_cut := Go.Proofs.Try.func10
-- saltern/merkle.Root
abbrev f_merkle_Root : Nat := 11
@[reducible] noncomputable def b_merkle_Root : Func := Go.Proofs.Try.f11
theorem h_merkle_Root : P.funcs[f_merkle_Root]? = some b_merkle_Root := Go.Proofs.Try.func11
-- saltern/salternref27.Root
abbrev f_ref27_Root : Nat := 12
@[reducible] noncomputable def b_ref27_Root : Func := Go.Proofs.Try.f12
theorem h_ref27_Root : P.funcs[f_ref27_Root]? = some b_ref27_Root := Go.Proofs.Try.func12
-- saltern/merkle.Leaf
abbrev f_merkle_Leaf : Nat := 13
@[reducible] noncomputable def b_merkle_Leaf : Func := Go.Proofs.Try.f13
theorem h_merkle_Leaf : P.funcs[f_merkle_Leaf]? = some b_merkle_Leaf := Go.Proofs.Try.func13
-- saltern/salternref27.Leaf
abbrev f_ref27_Leaf : Nat := 14
@[reducible] noncomputable def b_ref27_Leaf : Func := Go.Proofs.Try.f14
theorem h_ref27_Leaf : P.funcs[f_ref27_Leaf]? = some b_ref27_Leaf := Go.Proofs.Try.func14
-- saltern/merkle.Node
abbrev f_merkle_Node : Nat := 15
@[reducible] noncomputable def b_merkle_Node : Func := Go.Proofs.Try.f15
theorem h_merkle_Node : P.funcs[f_merkle_Node]? = some b_merkle_Node := Go.Proofs.Try.func15
-- saltern/salternref27.Node
abbrev f_ref27_Node : Nat := 16
@[reducible] noncomputable def b_ref27_Node : Func := Go.Proofs.Try.f16
theorem h_ref27_Node : P.funcs[f_ref27_Node]? = some b_ref27_Node := Go.Proofs.Try.func16
-- saltern/salternlaw27.alive
abbrev f_law27_alive : Nat := 17
@[reducible] noncomputable def b_law27_alive : Func := Go.Proofs.Try.f17
theorem h_law27_alive : P.funcs[f_law27_alive]? = some b_law27_alive := Go.Proofs.Try.func17
-- saltern/merkle.Path
abbrev f_merkle_Path : Nat := 18
@[reducible] noncomputable def b_merkle_Path : Func := Go.Proofs.Try.f18
theorem h_merkle_Path : P.funcs[f_merkle_Path]? = some b_merkle_Path := Go.Proofs.Try.func18
-- saltern/salternref27.Path
abbrev f_ref27_Path : Nat := 19
@[reducible] noncomputable def b_ref27_Path : Func := Go.Proofs.Try.f19
theorem h_ref27_Path : P.funcs[f_ref27_Path]? = some b_ref27_Path := Go.Proofs.Try.func19
-- saltern/merkle.Growth
abbrev f_merkle_Growth : Nat := 20
@[reducible] noncomputable def b_merkle_Growth : Func := Go.Proofs.Try.f20
theorem h_merkle_Growth : P.funcs[f_merkle_Growth]? = some b_merkle_Growth := Go.Proofs.Try.func20
-- saltern/salternref27.Growth
abbrev f_ref27_Growth : Nat := 21
@[reducible] noncomputable def b_ref27_Growth : Func := Go.Proofs.Try.f21
theorem h_ref27_Growth : P.funcs[f_ref27_Growth]? = some b_ref27_Growth := Go.Proofs.Try.func21
-- saltern/salternref27.Same
abbrev f_ref27_Same : Nat := 22
@[reducible] noncomputable def b_ref27_Same : Func := Go.Proofs.Try.f22
theorem h_ref27_Same : P.funcs[f_ref27_Same]? = some b_ref27_Same := Go.Proofs.Try.func22
-- saltern/merkle.In
abbrev f_merkle_In : Nat := 23
@[reducible] noncomputable def b_merkle_In : Func := Go.Proofs.Try.f23
theorem h_merkle_In : P.funcs[f_merkle_In]? = some b_merkle_In := Go.Proofs.Try.func23
-- saltern/salternref27.In
abbrev f_ref27_In : Nat := 24
@[reducible] noncomputable def b_ref27_In : Func := Go.Proofs.Try.f24
theorem h_ref27_In : P.funcs[f_ref27_In]? = some b_ref27_In := Go.Proofs.Try.func24
-- saltern/merkle.Grown
abbrev f_merkle_Grown : Nat := 25
@[reducible] noncomputable def b_merkle_Grown : Func := Go.Proofs.Try.f25
theorem h_merkle_Grown : P.funcs[f_merkle_Grown]? = some b_merkle_Grown := Go.Proofs.Try.func25
-- saltern/salternref27.Grown
abbrev f_ref27_Grown : Nat := 26
@[reducible] noncomputable def b_ref27_Grown : Func := Go.Proofs.Try.f26
theorem h_ref27_Grown : P.funcs[f_ref27_Grown]? = some b_ref27_Grown := Go.Proofs.Try.func26
-- saltern/salternref27.Texts
abbrev f_ref27_Texts : Nat := 27
@[reducible] noncomputable def b_ref27_Texts : Func := Go.Proofs.Try.f27
theorem h_ref27_Texts : P.funcs[f_ref27_Texts]? = some b_ref27_Texts := Go.Proofs.Try.func27
-- saltern/salternref27.PathTexts
abbrev f_ref27_PathTexts : Nat := 28
@[reducible] noncomputable def b_ref27_PathTexts : Func := Go.Proofs.Try.f28
theorem h_ref27_PathTexts : P.funcs[f_ref27_PathTexts]? = some b_ref27_PathTexts := Go.Proofs.Try.func28
-- saltern/salternref27.GrowthTexts
abbrev f_ref27_GrowthTexts : Nat := 29
@[reducible] noncomputable def b_ref27_GrowthTexts : Func := Go.Proofs.Try.f29
theorem h_ref27_GrowthTexts : P.funcs[f_ref27_GrowthTexts]? = some b_ref27_GrowthTexts := Go.Proofs.Try.func29
-- saltern/salternref17.Clash
abbrev f_ref17_Clash : Nat := 30
@[reducible] noncomputable def b_ref17_Clash : Func := Go.Proofs.Try.f30
theorem h_ref17_Clash : P.funcs[f_ref17_Clash]? = some b_ref17_Clash := Go.Proofs.Try.func30
-- saltern/merkle.Records
abbrev f_merkle_Records : Nat := 31
@[reducible] noncomputable def b_merkle_Records : Func := Go.Proofs.Try.f31
theorem h_merkle_Records : P.funcs[f_merkle_Records]? = some b_merkle_Records := Go.Proofs.Try.func31
-- saltern/salternref27.Records
abbrev f_ref27_Records : Nat := 32
@[reducible] noncomputable def b_ref27_Records : Func := Go.Proofs.Try.f32
theorem h_ref27_Records : P.funcs[f_ref27_Records]? = some b_ref27_Records := Go.Proofs.Try.func32
-- saltern/salternref13.Check
abbrev f_ref13_Check : Nat := 33
@[reducible] noncomputable def b_ref13_Check : Func := Go.Proofs.Try.f33
theorem h_ref13_Check : P.funcs[f_ref13_Check]? = some b_ref13_Check := Go.Proofs.Try.func33
-- saltern/merkle.root
abbrev f_merkle_root : Nat := 34
@[reducible] noncomputable def b_merkle_root : Func := Go.Proofs.Try.f34
theorem h_merkle_root : P.funcs[f_merkle_root]? = some b_merkle_root := Go.Proofs.Try.func34
-- saltern/salternref27.root
abbrev f_ref27_root : Nat := 35
@[reducible] noncomputable def b_ref27_root : Func := Go.Proofs.Try.f35
theorem h_ref27_root : P.funcs[f_ref27_root]? = some b_ref27_root := Go.Proofs.Try.func35
-- saltern/sha.Sum
abbrev f_sha_Sum : Nat := 36
@[reducible] noncomputable def b_sha_Sum : Func := Go.Proofs.Try.f36
theorem h_sha_Sum : P.funcs[f_sha_Sum]? = some b_sha_Sum := Go.Proofs.Try.func36
-- saltern/salternref03.Sum
abbrev f_ref03_Sum : Nat := 37
@[reducible] noncomputable def b_ref03_Sum : Func := Go.Proofs.Try.f37
theorem h_ref03_Sum : P.funcs[f_ref03_Sum]? = some b_ref03_Sum := Go.Proofs.Try.func37
-- saltern/merkle.path
abbrev f_merkle_path : Nat := 38
@[reducible] noncomputable def b_merkle_path : Func := Go.Proofs.Try.f38
theorem h_merkle_path : P.funcs[f_merkle_path]? = some b_merkle_path := Go.Proofs.Try.func38
-- saltern/salternref27.path
abbrev f_ref27_path : Nat := 39
@[reducible] noncomputable def b_ref27_path : Func := Go.Proofs.Try.f39
theorem h_ref27_path : P.funcs[f_ref27_path]? = some b_ref27_path := Go.Proofs.Try.func39
-- saltern/merkle.growth
abbrev f_merkle_growth : Nat := 40
@[reducible] noncomputable def b_merkle_growth : Func := Go.Proofs.Try.f40
theorem h_merkle_growth : P.funcs[f_merkle_growth]? = some b_merkle_growth := Go.Proofs.Try.func40
-- saltern/salternref27.parts
abbrev f_ref27_parts : Nat := 41
@[reducible] noncomputable def b_ref27_parts : Func := Go.Proofs.Try.f41
theorem h_ref27_parts : P.funcs[f_ref27_parts]? = some b_ref27_parts := Go.Proofs.Try.func41
-- saltern/merkle.made
abbrev f_merkle_made : Nat := 42
@[reducible] noncomputable def b_merkle_made : Func := Go.Proofs.Try.f42
theorem h_merkle_made : P.funcs[f_merkle_made]? = some b_merkle_made := Go.Proofs.Try.func42
-- saltern/salternref27.makes
abbrev f_ref27_makes : Nat := 43
@[reducible] noncomputable def b_ref27_makes : Func := Go.Proofs.Try.f43
theorem h_ref27_makes : P.funcs[f_ref27_makes]? = some b_ref27_makes := Go.Proofs.Try.func43
-- saltern/merkle.grown
abbrev f_merkle_grown : Nat := 44
@[reducible] noncomputable def b_merkle_grown : Func := Go.Proofs.Try.f44
theorem h_merkle_grown : P.funcs[f_merkle_grown]? = some b_merkle_grown := Go.Proofs.Try.func44
-- saltern/salternref27.both
abbrev f_ref27_both : Nat := 45
@[reducible] noncomputable def b_ref27_both : Func := Go.Proofs.Try.f45
theorem h_ref27_both : P.funcs[f_ref27_both]? = some b_ref27_both := Go.Proofs.Try.func45
-- saltern/salternref27.part
abbrev f_ref27_part : Nat := 46
@[reducible] noncomputable def b_ref27_part : Func := Go.Proofs.Try.f46
theorem h_ref27_part : P.funcs[f_ref27_part]? = some b_ref27_part := Go.Proofs.Try.func46
-- saltern/salternref27.node
abbrev f_ref27_node : Nat := 47
@[reducible] noncomputable def b_ref27_node : Func := Go.Proofs.Try.f47
theorem h_ref27_node : P.funcs[f_ref27_node]? = some b_ref27_node := Go.Proofs.Try.func47
-- saltern/salternref03.Of
abbrev f_ref03_Of : Nat := 48
@[reducible] noncomputable def b_ref03_Of : Func := Go.Proofs.Try.f48
theorem h_ref03_Of : P.funcs[f_ref03_Of]? = some b_ref03_Of := Go.Proofs.Try.func48
-- saltern/record.Bytes
abbrev f_record_Bytes : Nat := 49
@[reducible] noncomputable def b_record_Bytes : Func := Go.Proofs.Try.f49
theorem h_record_Bytes : P.funcs[f_record_Bytes]? = some b_record_Bytes := Go.Proofs.Try.func49
-- saltern/salternref13.Bytes
abbrev f_ref13_Bytes : Nat := 50
@[reducible] noncomputable def b_ref13_Bytes : Func := Go.Proofs.Try.f50
theorem h_ref13_Bytes : P.funcs[f_ref13_Bytes]? = some b_ref13_Bytes := Go.Proofs.Try.func50
-- saltern/salternref13.Size
abbrev f_ref13_Size : Nat := 51
@[reducible] noncomputable def b_ref13_Size : Func := Go.Proofs.Try.f51
theorem h_ref13_Size : P.funcs[f_ref13_Size]? = some b_ref13_Size := Go.Proofs.Try.func51
-- saltern/salternref13.IsPath
abbrev f_ref13_IsPath : Nat := 52
@[reducible] noncomputable def b_ref13_IsPath : Func := Go.Proofs.Try.f52
theorem h_ref13_IsPath : P.funcs[f_ref13_IsPath]? = some b_ref13_IsPath := Go.Proofs.Try.func52
-- saltern/merkle.parts
abbrev f_merkle_parts : Nat := 53
@[reducible] noncomputable def b_merkle_parts : Func := Go.Proofs.Try.f53
theorem h_merkle_parts : P.funcs[f_merkle_parts]? = some b_merkle_parts := Go.Proofs.Try.func53
-- saltern/sha.New
abbrev f_sha_New : Nat := 54
@[reducible] noncomputable def b_sha_New : Func := Go.Proofs.Try.f54
theorem h_sha_New : P.funcs[f_sha_New]? = some b_sha_New := Go.Proofs.Try.func54
-- (*saltern/sha.Hash).take
abbrev f_sha_Hash_take : Nat := 55
@[reducible] noncomputable def b_sha_Hash_take : Func := Go.Proofs.Try.f55
theorem h_sha_Hash_take : P.funcs[f_sha_Hash_take]? = some b_sha_Hash_take := Go.Proofs.Try.func55
-- (*saltern/sha.Hash).end
abbrev f_sha_Hash_end : Nat := 56
@[reducible] noncomputable def b_sha_Hash_end : Func := Go.Proofs.Try.f56
theorem h_sha_Hash_end : P.funcs[f_sha_Hash_end]? = some b_sha_Hash_end := Go.Proofs.Try.func56
-- saltern/salternref03.Pad
abbrev f_ref03_Pad : Nat := 57
@[reducible] noncomputable def b_ref03_Pad : Func := Go.Proofs.Try.f57
theorem h_ref03_Pad : P.funcs[f_ref03_Pad]? = some b_ref03_Pad := Go.Proofs.Try.func57
-- saltern/salternref03.Start
abbrev f_ref03_Start : Nat := 58
@[reducible] noncomputable def b_ref03_Start : Func := Go.Proofs.Try.f58
theorem h_ref03_Start : P.funcs[f_ref03_Start]? = some b_ref03_Start := Go.Proofs.Try.func58
-- saltern/salternref03.Step
abbrev f_ref03_Step : Nat := 59
@[reducible] noncomputable def b_ref03_Step : Func := Go.Proofs.Try.f59
theorem h_ref03_Step : P.funcs[f_ref03_Step]? = some b_ref03_Step := Go.Proofs.Try.func59
-- saltern/salternref03.Bytes
abbrev f_ref03_Bytes : Nat := 60
@[reducible] noncomputable def b_ref03_Bytes : Func := Go.Proofs.Try.f60
theorem h_ref03_Bytes : P.funcs[f_ref03_Bytes]? = some b_ref03_Bytes := Go.Proofs.Try.func60
-- saltern/merkle.first
abbrev f_merkle_first : Nat := 61
@[reducible] noncomputable def b_merkle_first : Func := Go.Proofs.Try.f61
theorem h_merkle_first : P.funcs[f_merkle_first]? = some b_merkle_first := Go.Proofs.Try.func61
-- saltern/merkle.grown$1
abbrev f_merkle_grown_f1 : Nat := 62
@[reducible] noncomputable def b_merkle_grown_f1 : Func := Go.Proofs.Try.f62
theorem h_merkle_grown_f1 : P.funcs[f_merkle_grown_f1]? = some b_merkle_grown_f1 := Go.Proofs.Try.func62
-- saltern/merkle.grown$2
abbrev f_merkle_grown_f2 : Nat := 63
@[reducible] noncomputable def b_merkle_grown_f2 : Func := Go.Proofs.Try.f63
theorem h_merkle_grown_f2 : P.funcs[f_merkle_grown_f2]? = some b_merkle_grown_f2 := Go.Proofs.Try.func63
-- saltern/merkle.grown$3
abbrev f_merkle_grown_f3 : Nat := 64
@[reducible] noncomputable def b_merkle_grown_f3 : Func := Go.Proofs.Try.f64
theorem h_merkle_grown_f3 : P.funcs[f_merkle_grown_f3]? = some b_merkle_grown_f3 := Go.Proofs.Try.func64
-- saltern/record.Check
abbrev f_record_Check : Nat := 65
@[reducible] noncomputable def b_record_Check : Func := Go.Proofs.Try.f65
theorem h_record_Check : P.funcs[f_record_Check]? = some b_record_Check := Go.Proofs.Try.func65
-- saltern/word.Varint
abbrev f_word_Varint : Nat := 66
@[reducible] noncomputable def b_word_Varint : Func := Go.Proofs.Try.f66
theorem h_word_Varint : P.funcs[f_word_Varint]? = some b_word_Varint := Go.Proofs.Try.func66
-- saltern/salternref01.Varint
abbrev f_ref01_Varint : Nat := 67
@[reducible] noncomputable def b_ref01_Varint : Func := Go.Proofs.Try.f67
theorem h_ref01_Varint : P.funcs[f_ref01_Varint]? = some b_ref01_Varint := Go.Proofs.Try.func67
-- saltern/sha.Start
abbrev f_sha_Start : Nat := 68
@[reducible] noncomputable def b_sha_Start : Func := Go.Proofs.Try.f68
theorem h_sha_Start : P.funcs[f_sha_Start]? = some b_sha_Start := Go.Proofs.Try.func68
-- bytes.Clone
abbrev f_bytes_Clone : Nat := 69
@[reducible] noncomputable def b_bytes_Clone : Func := Go.Proofs.Try.f69
theorem h_bytes_Clone : P.funcs[f_bytes_Clone]? = some b_bytes_Clone := Go.Proofs.Try.func69
-- saltern/sha.Step
abbrev f_sha_Step : Nat := 70
@[reducible] noncomputable def b_sha_Step : Func := Go.Proofs.Try.f70
theorem h_sha_Step : P.funcs[f_sha_Step]? = some b_sha_Step := Go.Proofs.Try.func70
-- saltern/sha.Pad
abbrev f_sha_Pad : Nat := 71
@[reducible] noncomputable def b_sha_Pad : Func := Go.Proofs.Try.f71
theorem h_sha_Pad : P.funcs[f_sha_Pad]? = some b_sha_Pad := Go.Proofs.Try.func71
-- saltern/word.Bytes
abbrev f_word_Bytes : Nat := 72
@[reducible] noncomputable def b_word_Bytes : Func := Go.Proofs.Try.f72
theorem h_word_Bytes : P.funcs[f_word_Bytes]? = some b_word_Bytes := Go.Proofs.Try.func72
-- saltern/salternref03.right
abbrev f_ref03_right : Nat := 73
@[reducible] noncomputable def b_ref03_right : Func := Go.Proofs.Try.f73
theorem h_ref03_right : P.funcs[f_ref03_right]? = some b_ref03_right := Go.Proofs.Try.func73
-- saltern/salternref03.moved
abbrev f_ref03_moved : Nat := 74
@[reducible] noncomputable def b_ref03_moved : Func := Go.Proofs.Try.f74
theorem h_ref03_moved : P.funcs[f_ref03_moved]? = some b_ref03_moved := Go.Proofs.Try.func74
-- saltern/salternref03.constants
abbrev f_ref03_constants : Nat := 75
@[reducible] noncomputable def b_ref03_constants : Func := Go.Proofs.Try.f75
theorem h_ref03_constants : P.funcs[f_ref03_constants]? = some b_ref03_constants := Go.Proofs.Try.func75
-- math/bits.Len
abbrev f_math_bits_Len : Nat := 76
@[reducible] noncomputable def b_math_bits_Len : Func := Go.Proofs.Try.f76
theorem h_math_bits_Len : P.funcs[f_math_bits_Len]? = some b_math_bits_Len := Go.Proofs.Try.func76
-- saltern/record.fits
abbrev f_record_fits : Nat := 77
@[reducible] noncomputable def b_record_fits : Func := Go.Proofs.Try.f77
theorem h_record_fits : P.funcs[f_record_fits]? = some b_record_fits := Go.Proofs.Try.func77
-- saltern/sha.schedule
abbrev f_sha_schedule : Nat := 78
@[reducible] noncomputable def b_sha_schedule : Func := Go.Proofs.Try.f78
theorem h_sha_schedule : P.funcs[f_sha_schedule]? = some b_sha_schedule := Go.Proofs.Try.func78
-- saltern/sha.constants
abbrev f_sha_constants : Nat := 79
@[reducible] noncomputable def b_sha_constants : Func := Go.Proofs.Try.f79
theorem h_sha_constants : P.funcs[f_sha_constants]? = some b_sha_constants := Go.Proofs.Try.func79
-- saltern/sha.right
abbrev f_sha_right : Nat := 80
@[reducible] noncomputable def b_sha_right : Func := Go.Proofs.Try.f80
theorem h_sha_right : P.funcs[f_sha_right]? = some b_sha_right := Go.Proofs.Try.func80
-- saltern/word.way
abbrev f_word_way : Nat := 81
@[reducible] noncomputable def b_word_way : Func := Go.Proofs.Try.f81
theorem h_word_way : P.funcs[f_word_way]? = some b_word_way := Go.Proofs.Try.func81
-- saltern/word.shift
abbrev f_word_shift : Nat := 82
@[reducible] noncomputable def b_word_shift : Func := Go.Proofs.Try.f82
theorem h_word_shift : P.funcs[f_word_shift]? = some b_word_shift := Go.Proofs.Try.func82
-- math/bits.Len32
abbrev f_math_bits_Len32 : Nat := 83
@[reducible] noncomputable def b_math_bits_Len32 : Func := Go.Proofs.Try.f83
theorem h_math_bits_Len32 : P.funcs[f_math_bits_Len32]? = some b_math_bits_Len32 := Go.Proofs.Try.func83
-- math/bits.Len64
abbrev f_math_bits_Len64 : Nat := 84
@[reducible] noncomputable def b_math_bits_Len64 : Func := Go.Proofs.Try.f84
theorem h_math_bits_Len64 : P.funcs[f_math_bits_Len64]? = some b_math_bits_Len64 := Go.Proofs.Try.func84
-- saltern/record.Size
abbrev f_record_Size : Nat := 85
@[reducible] noncomputable def b_record_Size : Func := Go.Proofs.Try.f85
theorem h_record_Size : P.funcs[f_record_Size]? = some b_record_Size := Go.Proofs.Try.func85
-- saltern/record.IsPath
abbrev f_record_IsPath : Nat := 86
@[reducible] noncomputable def b_record_IsPath : Func := Go.Proofs.Try.f86
theorem h_record_IsPath : P.funcs[f_record_IsPath]? = some b_record_IsPath := Go.Proofs.Try.func86
-- saltern/word.Words
abbrev f_word_Words : Nat := 87
@[reducible] noncomputable def b_word_Words : Func := Go.Proofs.Try.f87
theorem h_word_Words : P.funcs[f_word_Words]? = some b_word_Words := Go.Proofs.Try.func87
-- saltern/word.width
abbrev f_word_width : Nat := 88
@[reducible] noncomputable def b_word_width : Func := Go.Proofs.Try.f88
theorem h_word_width : P.funcs[f_word_width]? = some b_word_width := Go.Proofs.Try.func88
-- saltern/word.number
abbrev f_word_number : Nat := 89
@[reducible] noncomputable def b_word_number : Func := Go.Proofs.Try.f89
theorem h_word_number : P.funcs[f_word_number]? = some b_word_number := Go.Proofs.Try.func89
-- (*saltern/sha.Hash).is
abbrev f_sha_Hash_is : Nat := 106
@[reducible] noncomputable def b_sha_Hash_is : Func := Go.Proofs.Try.f106
theorem h_sha_Hash_is : P.funcs[f_sha_Hash_is]? = some b_sha_Hash_is := Go.Proofs.Try.func106
abbrev t_int64 : Nat := 2
abbrev t_int : Nat := 3
abbrev t_bool : Nat := 4
abbrev t_uint8 : Nat := 5
abbrev t_string : Nat := 9
abbrev t_uintptr : Nat := 12
abbrev t_maps_unhashableTypeError : Nat := 19
abbrev t_int32 : Nat := 21
abbrev t_sl_api_Digest : Nat := 22
abbrev t_sl_uint8 : Nat := 23
abbrev t_ar32_uint8 : Nat := 25
abbrev t_api_Digest : Nat := 26
abbrev t_api_Errno : Nat := 27
abbrev t_sl_sl_uint8 : Nat := 44
abbrev t_sl_api_Record : Nat := 50
abbrev t_api_RecordKind : Nat := 51
abbrev t_sl_api_Piece : Nat := 52
abbrev t_api_Record : Nat := 54
abbrev t_merkle_pair : Nat := 67
abbrev t_p_sha_Hash : Nat := 84
abbrev t_uint64 : Nat := 89
abbrev t_uint32 : Nat := 90
abbrev t_ar8_uint32 : Nat := 91
abbrev t_ar64_uint8 : Nat := 93
abbrev t_api_Piece : Nat := 100
abbrev t_sha_Hash : Nat := 102
abbrev t_api_Order : Nat := 105
abbrev t_ar64_uint32 : Nat := 106
abbrev t_uint : Nat := 109
abbrev t_sl_uint64 : Nat := 120
abbrev t_p_uint8 : Nat := 135
end Go.Sal.Nm
