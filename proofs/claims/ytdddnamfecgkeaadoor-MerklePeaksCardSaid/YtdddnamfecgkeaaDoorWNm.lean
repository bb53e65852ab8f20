/- The numbers of this translation's functions and types, by name: written by a program of this session. -/
import Derived.Test.YtdddnamfecgkeaaDoorProg
import Derived.Test.YtdddnamfecgkeaaDoorWVseTyped
namespace Go.Sal.Nm
open Go.Vse
@[reducible] noncomputable def P : Program := Go.Proofs.Tryd.prog
@[reducible] noncomputable def b_law27_MerkleNobody : Func := Go.Proofs.Tryd.f3
abbrev f_law27_MerkleTrees : Nat := 4
@[reducible] noncomputable def b_law27_MerkleTrees : Func := Go.Proofs.Tryd.f4
theorem h_law27_MerkleTrees : P.funcs[f_law27_MerkleTrees]? = some b_law27_MerkleTrees := Go.Proofs.Tryd.func4
abbrev f_law27_MerklePeaks : Nat := 5
@[reducible] noncomputable def b_law27_MerklePeaks : Func := Go.Proofs.Tryd.f5
theorem h_law27_MerklePeaks : P.funcs[f_law27_MerklePeaks]? = some b_law27_MerklePeaks := Go.Proofs.Tryd.func5
abbrev f_merkle_Tree_Root : Nat := 6
@[reducible] noncomputable def b_merkle_Tree_Root : Func := Go.Proofs.Tryd.f6
theorem h_merkle_Tree_Root : P.funcs[f_merkle_Tree_Root]? = some b_merkle_Tree_Root := Go.Proofs.Tryd.func6
abbrev f_merkle_Tree_Push : Nat := 7
@[reducible] noncomputable def b_merkle_Tree_Push : Func := Go.Proofs.Tryd.f7
theorem h_merkle_Tree_Push : P.funcs[f_merkle_Tree_Push]? = some b_merkle_Tree_Push := Go.Proofs.Tryd.func7
abbrev f_merkle_Tree_Len : Nat := 8
@[reducible] noncomputable def b_merkle_Tree_Len : Func := Go.Proofs.Tryd.f8
theorem h_merkle_Tree_Len : P.funcs[f_merkle_Tree_Len]? = some b_merkle_Tree_Len := Go.Proofs.Tryd.func8
abbrev f_merkle_Tree_Peaks : Nat := 9
@[reducible] noncomputable def b_merkle_Tree_Peaks : Func := Go.Proofs.Tryd.f9
theorem h_merkle_Tree_Peaks : P.funcs[f_merkle_Tree_Peaks]? = some b_merkle_Tree_Peaks := Go.Proofs.Tryd.func9
abbrev f_law27_alive : Nat := 10
@[reducible] noncomputable def b_law27_alive : Func := Go.Proofs.Tryd.f10
theorem h_law27_alive : P.funcs[f_law27_alive]? = some b_law27_alive := Go.Proofs.Tryd.func10
abbrev f_law27_cut : Nat := 11
@[reducible] noncomputable def b_law27_cut : Func := Go.Proofs.Tryd.f11
theorem h_law27_cut : P.funcs[f_law27_cut]? = some b_law27_cut := Go.Proofs.Tryd.func11
abbrev f_merkle_Load : Nat := 12
@[reducible] noncomputable def b_merkle_Load : Func := Go.Proofs.Tryd.f12
theorem h_merkle_Load : P.funcs[f_merkle_Load]? = some b_merkle_Load := Go.Proofs.Tryd.func12
abbrev f_ref27_Load : Nat := 13
@[reducible] noncomputable def b_ref27_Load : Func := Go.Proofs.Tryd.f13
theorem h_ref27_Load : P.funcs[f_ref27_Load]? = some b_ref27_Load := Go.Proofs.Tryd.func13
abbrev f_merkle_New : Nat := 14
@[reducible] noncomputable def b_merkle_New : Func := Go.Proofs.Tryd.f14
theorem h_merkle_New : P.funcs[f_merkle_New]? = some b_merkle_New := Go.Proofs.Tryd.func14
abbrev f_ref27_Tree_Root : Nat := 15
@[reducible] noncomputable def b_ref27_Tree_Root : Func := Go.Proofs.Tryd.f15
theorem h_ref27_Tree_Root : P.funcs[f_ref27_Tree_Root]? = some b_ref27_Tree_Root := Go.Proofs.Tryd.func15
abbrev f_ref27_Same : Nat := 16
@[reducible] noncomputable def b_ref27_Same : Func := Go.Proofs.Tryd.f16
theorem h_ref27_Same : P.funcs[f_ref27_Same]? = some b_ref27_Same := Go.Proofs.Tryd.func16
abbrev f_ref27_Tree_Push : Nat := 17
@[reducible] noncomputable def b_ref27_Tree_Push : Func := Go.Proofs.Tryd.f17
theorem h_ref27_Tree_Push : P.funcs[f_ref27_Tree_Push]? = some b_ref27_Tree_Push := Go.Proofs.Tryd.func17
abbrev f_merkle_Root : Nat := 18
@[reducible] noncomputable def b_merkle_Root : Func := Go.Proofs.Tryd.f18
theorem h_merkle_Root : P.funcs[f_merkle_Root]? = some b_merkle_Root := Go.Proofs.Tryd.func18
abbrev f_merkle_Tree_is : Nat := 19
@[reducible] noncomputable def b_merkle_Tree_is : Func := Go.Proofs.Tryd.f19
theorem h_merkle_Tree_is : P.funcs[f_merkle_Tree_is]? = some b_merkle_Tree_is := Go.Proofs.Tryd.func19
abbrev f_merkle_root : Nat := 20
@[reducible] noncomputable def b_merkle_root : Func := Go.Proofs.Tryd.f20
theorem h_merkle_root : P.funcs[f_merkle_root]? = some b_merkle_root := Go.Proofs.Tryd.func20
abbrev f_merkle_Tree_back : Nat := 21
@[reducible] noncomputable def b_merkle_Tree_back : Func := Go.Proofs.Tryd.f21
theorem h_merkle_Tree_back : P.funcs[f_merkle_Tree_back]? = some b_merkle_Tree_back := Go.Proofs.Tryd.func21
abbrev f_merkle_Node : Nat := 22
@[reducible] noncomputable def b_merkle_Node : Func := Go.Proofs.Tryd.f22
theorem h_merkle_Node : P.funcs[f_merkle_Node]? = some b_merkle_Node := Go.Proofs.Tryd.func22
abbrev f_math_bits_TrailingZeros : Nat := 23
@[reducible] noncomputable def b_math_bits_TrailingZeros : Func := Go.Proofs.Tryd.f23
theorem h_math_bits_TrailingZeros : P.funcs[f_math_bits_TrailingZeros]? = some b_math_bits_TrailingZeros := Go.Proofs.Tryd.func23
abbrev f_slices_Clone_Digest : Nat := 24
@[reducible] noncomputable def b_slices_Clone_Digest : Func := Go.Proofs.Tryd.f24
theorem h_slices_Clone_Digest : P.funcs[f_slices_Clone_Digest]? = some b_slices_Clone_Digest := Go.Proofs.Tryd.func24
abbrev f_merkle_Path : Nat := 25
@[reducible] noncomputable def b_merkle_Path : Func := Go.Proofs.Tryd.f25
theorem h_merkle_Path : P.funcs[f_merkle_Path]? = some b_merkle_Path := Go.Proofs.Tryd.func25
abbrev f_merkle_In : Nat := 26
@[reducible] noncomputable def b_merkle_In : Func := Go.Proofs.Tryd.f26
theorem h_merkle_In : P.funcs[f_merkle_In]? = some b_merkle_In := Go.Proofs.Tryd.func26
abbrev f_ref27_Node : Nat := 27
@[reducible] noncomputable def b_ref27_Node : Func := Go.Proofs.Tryd.f27
theorem h_ref27_Node : P.funcs[f_ref27_Node]? = some b_ref27_Node := Go.Proofs.Tryd.func27
abbrev f_math_bits_OnesCount : Nat := 28
@[reducible] noncomputable def b_math_bits_OnesCount : Func := Go.Proofs.Tryd.f28
theorem h_math_bits_OnesCount : P.funcs[f_math_bits_OnesCount]? = some b_math_bits_OnesCount := Go.Proofs.Tryd.func28
abbrev f_ref27_ones : Nat := 29
@[reducible] noncomputable def b_ref27_ones : Func := Go.Proofs.Tryd.f29
theorem h_ref27_ones : P.funcs[f_ref27_ones]? = some b_ref27_ones := Go.Proofs.Tryd.func29
abbrev f_ref27_root : Nat := 30
@[reducible] noncomputable def b_ref27_root : Func := Go.Proofs.Tryd.f30
theorem h_ref27_root : P.funcs[f_ref27_root]? = some b_ref27_root := Go.Proofs.Tryd.func30
abbrev f_sha_Sum : Nat := 31
@[reducible] noncomputable def b_sha_Sum : Func := Go.Proofs.Tryd.f31
theorem h_sha_Sum : P.funcs[f_sha_Sum]? = some b_sha_Sum := Go.Proofs.Tryd.func31
abbrev f_merkle_parts : Nat := 32
@[reducible] noncomputable def b_merkle_parts : Func := Go.Proofs.Tryd.f32
theorem h_merkle_parts : P.funcs[f_merkle_parts]? = some b_merkle_parts := Go.Proofs.Tryd.func32
abbrev f_merkle_Tree_back_f1 : Nat := 33
@[reducible] noncomputable def b_merkle_Tree_back_f1 : Func := Go.Proofs.Tryd.f33
theorem h_merkle_Tree_back_f1 : P.funcs[f_merkle_Tree_back_f1]? = some b_merkle_Tree_back_f1 := Go.Proofs.Tryd.func33
@[reducible] noncomputable def b_math_bits_TrailingZeros32 : Func := Go.Proofs.Tryd.f34
@[reducible] noncomputable def b_math_bits_TrailingZeros64 : Func := Go.Proofs.Tryd.f35
abbrev f_merkle_path : Nat := 36
@[reducible] noncomputable def b_merkle_path : Func := Go.Proofs.Tryd.f36
theorem h_merkle_path : P.funcs[f_merkle_path]? = some b_merkle_path := Go.Proofs.Tryd.func36
abbrev f_merkle_made : Nat := 37
@[reducible] noncomputable def b_merkle_made : Func := Go.Proofs.Tryd.f37
theorem h_merkle_made : P.funcs[f_merkle_made]? = some b_merkle_made := Go.Proofs.Tryd.func37
abbrev f_ref03_Sum : Nat := 38
@[reducible] noncomputable def b_ref03_Sum : Func := Go.Proofs.Tryd.f38
theorem h_ref03_Sum : P.funcs[f_ref03_Sum]? = some b_ref03_Sum := Go.Proofs.Tryd.func38
@[reducible] noncomputable def b_math_bits_OnesCount32 : Func := Go.Proofs.Tryd.f39
abbrev f_math_bits_OnesCount64 : Nat := 40
@[reducible] noncomputable def b_math_bits_OnesCount64 : Func := Go.Proofs.Tryd.f40
theorem h_math_bits_OnesCount64 : P.funcs[f_math_bits_OnesCount64]? = some b_math_bits_OnesCount64 := Go.Proofs.Tryd.func40
abbrev f_ref27_part : Nat := 41
@[reducible] noncomputable def b_ref27_part : Func := Go.Proofs.Tryd.f41
theorem h_ref27_part : P.funcs[f_ref27_part]? = some b_ref27_part := Go.Proofs.Tryd.func41
abbrev f_sha_New : Nat := 42
@[reducible] noncomputable def b_sha_New : Func := Go.Proofs.Tryd.f42
theorem h_sha_New : P.funcs[f_sha_New]? = some b_sha_New := Go.Proofs.Tryd.func42
abbrev f_sha_Hash_take : Nat := 43
@[reducible] noncomputable def b_sha_Hash_take : Func := Go.Proofs.Tryd.f43
theorem h_sha_Hash_take : P.funcs[f_sha_Hash_take]? = some b_sha_Hash_take := Go.Proofs.Tryd.func43
abbrev f_sha_Hash_end : Nat := 44
@[reducible] noncomputable def b_sha_Hash_end : Func := Go.Proofs.Tryd.f44
theorem h_sha_Hash_end : P.funcs[f_sha_Hash_end]? = some b_sha_Hash_end := Go.Proofs.Tryd.func44
abbrev f_merkle_first : Nat := 45
@[reducible] noncomputable def b_merkle_first : Func := Go.Proofs.Tryd.f45
theorem h_merkle_first : P.funcs[f_merkle_first]? = some b_merkle_first := Go.Proofs.Tryd.func45
abbrev f_ref03_Pad : Nat := 46
@[reducible] noncomputable def b_ref03_Pad : Func := Go.Proofs.Tryd.f46
theorem h_ref03_Pad : P.funcs[f_ref03_Pad]? = some b_ref03_Pad := Go.Proofs.Tryd.func46
abbrev f_ref03_Start : Nat := 47
@[reducible] noncomputable def b_ref03_Start : Func := Go.Proofs.Tryd.f47
theorem h_ref03_Start : P.funcs[f_ref03_Start]? = some b_ref03_Start := Go.Proofs.Tryd.func47
abbrev f_ref03_Step : Nat := 48
@[reducible] noncomputable def b_ref03_Step : Func := Go.Proofs.Tryd.f48
theorem h_ref03_Step : P.funcs[f_ref03_Step]? = some b_ref03_Step := Go.Proofs.Tryd.func48
abbrev f_ref03_Bytes : Nat := 49
@[reducible] noncomputable def b_ref03_Bytes : Func := Go.Proofs.Tryd.f49
theorem h_ref03_Bytes : P.funcs[f_ref03_Bytes]? = some b_ref03_Bytes := Go.Proofs.Tryd.func49
abbrev f_sha_Start : Nat := 50
@[reducible] noncomputable def b_sha_Start : Func := Go.Proofs.Tryd.f50
theorem h_sha_Start : P.funcs[f_sha_Start]? = some b_sha_Start := Go.Proofs.Tryd.func50
abbrev f_bytes_Clone : Nat := 51
@[reducible] noncomputable def b_bytes_Clone : Func := Go.Proofs.Tryd.f51
theorem h_bytes_Clone : P.funcs[f_bytes_Clone]? = some b_bytes_Clone := Go.Proofs.Tryd.func51
abbrev f_sha_Step : Nat := 52
@[reducible] noncomputable def b_sha_Step : Func := Go.Proofs.Tryd.f52
theorem h_sha_Step : P.funcs[f_sha_Step]? = some b_sha_Step := Go.Proofs.Tryd.func52
abbrev f_sha_Pad : Nat := 53
@[reducible] noncomputable def b_sha_Pad : Func := Go.Proofs.Tryd.f53
theorem h_sha_Pad : P.funcs[f_sha_Pad]? = some b_sha_Pad := Go.Proofs.Tryd.func53
abbrev f_word_Bytes : Nat := 54
@[reducible] noncomputable def b_word_Bytes : Func := Go.Proofs.Tryd.f54
theorem h_word_Bytes : P.funcs[f_word_Bytes]? = some b_word_Bytes := Go.Proofs.Tryd.func54
abbrev f_math_bits_Len : Nat := 55
@[reducible] noncomputable def b_math_bits_Len : Func := Go.Proofs.Tryd.f55
theorem h_math_bits_Len : P.funcs[f_math_bits_Len]? = some b_math_bits_Len := Go.Proofs.Tryd.func55
abbrev f_ref03_right : Nat := 56
@[reducible] noncomputable def b_ref03_right : Func := Go.Proofs.Tryd.f56
theorem h_ref03_right : P.funcs[f_ref03_right]? = some b_ref03_right := Go.Proofs.Tryd.func56
abbrev f_ref03_moved : Nat := 57
@[reducible] noncomputable def b_ref03_moved : Func := Go.Proofs.Tryd.f57
theorem h_ref03_moved : P.funcs[f_ref03_moved]? = some b_ref03_moved := Go.Proofs.Tryd.func57
abbrev f_ref03_constants : Nat := 58
@[reducible] noncomputable def b_ref03_constants : Func := Go.Proofs.Tryd.f58
theorem h_ref03_constants : P.funcs[f_ref03_constants]? = some b_ref03_constants := Go.Proofs.Tryd.func58
abbrev f_sha_schedule : Nat := 59
@[reducible] noncomputable def b_sha_schedule : Func := Go.Proofs.Tryd.f59
theorem h_sha_schedule : P.funcs[f_sha_schedule]? = some b_sha_schedule := Go.Proofs.Tryd.func59
abbrev f_sha_constants : Nat := 60
@[reducible] noncomputable def b_sha_constants : Func := Go.Proofs.Tryd.f60
theorem h_sha_constants : P.funcs[f_sha_constants]? = some b_sha_constants := Go.Proofs.Tryd.func60
abbrev f_sha_right : Nat := 61
@[reducible] noncomputable def b_sha_right : Func := Go.Proofs.Tryd.f61
theorem h_sha_right : P.funcs[f_sha_right]? = some b_sha_right := Go.Proofs.Tryd.func61
abbrev f_word_way : Nat := 62
@[reducible] noncomputable def b_word_way : Func := Go.Proofs.Tryd.f62
theorem h_word_way : P.funcs[f_word_way]? = some b_word_way := Go.Proofs.Tryd.func62
abbrev f_word_shift : Nat := 63
@[reducible] noncomputable def b_word_shift : Func := Go.Proofs.Tryd.f63
theorem h_word_shift : P.funcs[f_word_shift]? = some b_word_shift := Go.Proofs.Tryd.func63
@[reducible] noncomputable def b_math_bits_Len32 : Func := Go.Proofs.Tryd.f64
abbrev f_math_bits_Len64 : Nat := 65
@[reducible] noncomputable def b_math_bits_Len64 : Func := Go.Proofs.Tryd.f65
theorem h_math_bits_Len64 : P.funcs[f_math_bits_Len64]? = some b_math_bits_Len64 := Go.Proofs.Tryd.func65
abbrev f_word_Words : Nat := 66
@[reducible] noncomputable def b_word_Words : Func := Go.Proofs.Tryd.f66
theorem h_word_Words : P.funcs[f_word_Words]? = some b_word_Words := Go.Proofs.Tryd.func66
abbrev f_word_width : Nat := 67
@[reducible] noncomputable def b_word_width : Func := Go.Proofs.Tryd.f67
theorem h_word_width : P.funcs[f_word_width]? = some b_word_width := Go.Proofs.Tryd.func67
abbrev f_word_number : Nat := 68
@[reducible] noncomputable def b_word_number : Func := Go.Proofs.Tryd.f68
theorem h_word_number : P.funcs[f_word_number]? = some b_word_number := Go.Proofs.Tryd.func68
@[reducible] noncomputable def b_sha_Hash_is : Func := Go.Proofs.Tryd.f85
@[reducible] noncomputable def b_var_s_door_gosem_cut_vars_holds_initialisers_alone_see_the_manifest_s_row_cutvarsword_look_11_test_files_too : Func := Go.Proofs.Tryd.f87
@[reducible] noncomputable def b_var_s_door_math_bits_deBruijn32tab_is_laid_by_its_own_initialiser_plain_data_look_11 : Func := Go.Proofs.Tryd.f88
@[reducible] noncomputable def b_var_s_door_math_bits_deBruijn64tab_is_laid_by_its_own_initialiser_plain_data_look_11 : Func := Go.Proofs.Tryd.f89
@[reducible] noncomputable def b_var_s_door_the_look_of_gosem_cut_vars_went_over_the_folder_that_the_caller_named_as_the_repository_s_root_look_11 : Func := Go.Proofs.Tryd.f90
abbrev t_uint8 : Nat := 5
abbrev t_api_Digest : Nat := 23
abbrev t_uint64 : Nat := 71
end Go.Sal.Nm
