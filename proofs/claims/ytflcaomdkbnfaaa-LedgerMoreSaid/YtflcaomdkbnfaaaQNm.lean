/- The numbers of this translation's functions and types, by name: written by a program of this session. -/
import Derived.Test.YtflcaomdkbnfaaaProg
import Derived.Test.YtflcaomdkbnfaaaQVseTyped
namespace Go.Sal.Nm
open Go.Vse
@[reducible] noncomputable def P : Program := Go.Proofs.Try.prog
-- saltern/salternlaw24.LedgerChecks
abbrev f_law24_LedgerChecks : Nat := 3
@[reducible] noncomputable def b_law24_LedgerChecks : Func := Go.Proofs.Try.f3
theorem h_law24_LedgerChecks : P.funcs[f_law24_LedgerChecks]? = some b_law24_LedgerChecks := Go.Proofs.Try.func3
-- saltern/salternlaw24.LedgerPrefix
abbrev f_law24_LedgerPrefix : Nat := 4
@[reducible] noncomputable def b_law24_LedgerPrefix : Func := Go.Proofs.Try.f4
theorem h_law24_LedgerPrefix : P.funcs[f_law24_LedgerPrefix]? = some b_law24_LedgerPrefix := Go.Proofs.Try.func4
-- saltern/salternlaw24.LedgerMore
abbrev f_law24_LedgerMore : Nat := 5
@[reducible] noncomputable def b_law24_LedgerMore : Func := Go.Proofs.Try.f5
theorem h_law24_LedgerMore : P.funcs[f_law24_LedgerMore]? = some b_law24_LedgerMore := Go.Proofs.Try.func5
-- saltern/salternlaw24.LedgerNotes
abbrev f_law24_LedgerNotes : Nat := 6
@[reducible] noncomputable def b_law24_LedgerNotes : Func := Go.Proofs.Try.f6
theorem h_law24_LedgerNotes : P.funcs[f_law24_LedgerNotes]? = some b_law24_LedgerNotes := Go.Proofs.Try.func6
-- saltern/salternlaw24.LedgerPuts
abbrev f_law24_LedgerPuts : Nat := 7
@[reducible] noncomputable def b_law24_LedgerPuts : Func := Go.Proofs.Try.f7
theorem h_law24_LedgerPuts : P.funcs[f_law24_LedgerPuts]? = some b_law24_LedgerPuts := Go.Proofs.Try.func7
-- saltern/salternlaw24.LedgerFinds
abbrev f_law24_LedgerFinds : Nat := 8
@[reducible] noncomputable def b_law24_LedgerFinds : Func := Go.Proofs.Try.f8
theorem h_law24_LedgerFinds : P.funcs[f_law24_LedgerFinds]? = some b_law24_LedgerFinds := Go.Proofs.Try.func8
-- saltern/salternlaw24.LedgerNobody
abbrev f_law24_LedgerNobody : Nat := 9
@[reducible] noncomputable def b_law24_LedgerNobody : Func := Go.Proofs.Try.f9
theorem h_law24_LedgerNobody : P.funcs[f_law24_LedgerNobody]? = some b_law24_LedgerNobody := Go.Proofs.Try.func9
-- saltern/salternlaw24.begin
abbrev f_law24_begin : Nat := 10
@[reducible] noncomputable def b_law24_begin : Func := Go.Proofs.Try.f10
theorem h_law24_begin : P.funcs[f_law24_begin]? = some b_law24_begin := Go.Proofs.Try.func10
-- saltern/salternlaw24.awake
abbrev f_law24_awake : Nat := 11
@[reducible] noncomputable def b_law24_awake : Func := Go.Proofs.Try.f11
theorem h_law24_awake : P.funcs[f_law24_awake]? = some b_law24_awake := Go.Proofs.Try.func11
-- saltern/salternlaw24.some
abbrev f_law24_some : Nat := 12
@[reducible] noncomputable def b_law24_some : Func := Go.Proofs.Try.f12
theorem h_law24_some : P.funcs[f_law24_some]? = some b_law24_some := Go.Proofs.Try.func12
-- saltern/salternref24.Same
abbrev f_ref24_Same : Nat := 13
@[reducible] noncomputable def b_ref24_Same : Func := Go.Proofs.Try.f13
theorem h_ref24_Same : P.funcs[f_ref24_Same]? = some b_ref24_Same := Go.Proofs.Try.func13
-- (*saltern/ledger.Ledger).Check
abbrev f_ledger_Ledger_Check : Nat := 14
@[reducible] noncomputable def b_ledger_Ledger_Check : Func := Go.Proofs.Try.f14
theorem h_ledger_Ledger_Check : P.funcs[f_ledger_Ledger_Check]? = some b_ledger_Ledger_Check := Go.Proofs.Try.func14
-- (*saltern/salternref24.Ledger).Check
abbrev f_ref24_Ledger_Check : Nat := 15
@[reducible] noncomputable def b_ref24_Ledger_Check : Func := Go.Proofs.Try.f15
theorem h_ref24_Ledger_Check : P.funcs[f_ref24_Ledger_Check]? = some b_ref24_Ledger_Check := Go.Proofs.Try.func15
-- saltern/salternlaw24.few
abbrev f_law24_few : Nat := 16
@[reducible] noncomputable def b_law24_few : Func := Go.Proofs.Try.f16
theorem h_law24_few : P.funcs[f_law24_few]? = some b_law24_few := Go.Proofs.Try.func16
-- (*saltern/ledger.Ledger).Acked
abbrev f_ledger_Ledger_Acked : Nat := 17
@[reducible] noncomputable def b_ledger_Ledger_Acked : Func := Go.Proofs.Try.f17
theorem h_ledger_Ledger_Acked : P.funcs[f_ledger_Ledger_Acked]? = some b_ledger_Ledger_Acked := Go.Proofs.Try.func17
-- saltern/salternref16.Has
abbrev f_ref16_Has : Nat := 18
@[reducible] noncomputable def b_ref16_Has : Func := Go.Proofs.Try.f18
theorem h_ref16_Has : P.funcs[f_ref16_Has]? = some b_ref16_Has := Go.Proofs.Try.func18
-- saltern/salternlaw24.within
abbrev f_law24_within : Nat := 19
@[reducible] noncomputable def b_law24_within : Func := Go.Proofs.Try.f19
theorem h_law24_within : P.funcs[f_law24_within]? = some b_law24_within := Go.Proofs.Try.func19
-- saltern/salternlaw24.small
abbrev f_law24_small : Nat := 20
@[reducible] noncomputable def b_law24_small : Func := Go.Proofs.Try.f20
theorem h_law24_small : P.funcs[f_law24_small]? = some b_law24_small := Go.Proofs.Try.func20
-- (*saltern/ledger.Ledger).Tell
abbrev f_ledger_Ledger_Tell : Nat := 21
@[reducible] noncomputable def b_ledger_Ledger_Tell : Func := Go.Proofs.Try.f21
theorem h_ledger_Ledger_Tell : P.funcs[f_ledger_Ledger_Tell]? = some b_ledger_Ledger_Tell := Go.Proofs.Try.func21
-- (*saltern/ledger.Ledger).Note
abbrev f_ledger_Ledger_Note : Nat := 22
@[reducible] noncomputable def b_ledger_Ledger_Note : Func := Go.Proofs.Try.f22
theorem h_ledger_Ledger_Note : P.funcs[f_ledger_Ledger_Note]? = some b_ledger_Ledger_Note := Go.Proofs.Try.func22
-- (*saltern/ledger.Ledger).Writes
abbrev f_ledger_Ledger_Writes : Nat := 23
@[reducible] noncomputable def b_ledger_Ledger_Writes : Func := Go.Proofs.Try.f23
theorem h_ledger_Ledger_Writes : P.funcs[f_ledger_Ledger_Writes]? = some b_ledger_Ledger_Writes := Go.Proofs.Try.func23
-- saltern/salternref24.SameNoted
abbrev f_ref24_SameNoted : Nat := 24
@[reducible] noncomputable def b_ref24_SameNoted : Func := Go.Proofs.Try.f24
theorem h_ref24_SameNoted : P.funcs[f_ref24_SameNoted]? = some b_ref24_SameNoted := Go.Proofs.Try.func24
-- (*saltern/ledger.Ledger).File
abbrev f_ledger_Ledger_File : Nat := 25
@[reducible] noncomputable def b_ledger_Ledger_File : Func := Go.Proofs.Try.f25
theorem h_ledger_Ledger_File : P.funcs[f_ledger_Ledger_File]? = some b_ledger_Ledger_File := Go.Proofs.Try.func25
-- saltern/salternref13.Walk
abbrev f_ref13_Walk : Nat := 26
@[reducible] noncomputable def b_ref13_Walk : Func := Go.Proofs.Try.f26
theorem h_ref13_Walk : P.funcs[f_ref13_Walk]? = some b_ref13_Walk := Go.Proofs.Try.func26
-- saltern/salternref13.Make
abbrev f_ref13_Make : Nat := 27
@[reducible] noncomputable def b_ref13_Make : Func := Go.Proofs.Try.f27
theorem h_ref13_Make : P.funcs[f_ref13_Make]? = some b_ref13_Make := Go.Proofs.Try.func27
-- saltern/salternref13.Next
abbrev f_ref13_Next : Nat := 28
@[reducible] noncomputable def b_ref13_Next : Func := Go.Proofs.Try.f28
theorem h_ref13_Next : P.funcs[f_ref13_Next]? = some b_ref13_Next := Go.Proofs.Try.func28
-- (*saltern/salternref24.Ledger).Of
abbrev f_ref24_Ledger_Of : Nat := 29
@[reducible] noncomputable def b_ref24_Ledger_Of : Func := Go.Proofs.Try.f29
theorem h_ref24_Ledger_Of : P.funcs[f_ref24_Ledger_Of]? = some b_ref24_Ledger_Of := Go.Proofs.Try.func29
-- (*saltern/ledger.Ledger).Last
abbrev f_ledger_Ledger_Last : Nat := 30
@[reducible] noncomputable def b_ledger_Ledger_Last : Func := Go.Proofs.Try.f30
theorem h_ledger_Ledger_Last : P.funcs[f_ledger_Ledger_Last]? = some b_ledger_Ledger_Last := Go.Proofs.Try.func30
-- (*saltern/salternref24.Ledger).Last
abbrev f_ref24_Ledger_Last : Nat := 31
@[reducible] noncomputable def b_ref24_Ledger_Last : Func := Go.Proofs.Try.f31
theorem h_ref24_Ledger_Last : P.funcs[f_ref24_Ledger_Last]? = some b_ref24_Ledger_Last := Go.Proofs.Try.func31
-- (*saltern/ledger.Ledger).Of
abbrev f_ledger_Ledger_Of : Nat := 32
@[reducible] noncomputable def b_ledger_Ledger_Of : Func := Go.Proofs.Try.f32
theorem h_ledger_Ledger_Of : P.funcs[f_ledger_Ledger_Of]? = some b_ledger_Ledger_Of := Go.Proofs.Try.func32
-- (*saltern/salternref24.Ledger).File
abbrev f_ref24_Ledger_File : Nat := 33
@[reducible] noncomputable def b_ref24_Ledger_File : Func := Go.Proofs.Try.f33
theorem h_ref24_Ledger_File : P.funcs[f_ref24_Ledger_File]? = some b_ref24_Ledger_File := Go.Proofs.Try.func33
-- saltern/ledger.New
abbrev f_ledger_New : Nat := 34
@[reducible] noncomputable def b_ledger_New : Func := Go.Proofs.Try.f34
theorem h_ledger_New : P.funcs[f_ledger_New]? = some b_ledger_New := Go.Proofs.Try.func34
-- (*saltern/salternref24.Ledger).Tell
abbrev f_ref24_Ledger_Tell : Nat := 35
@[reducible] noncomputable def b_ref24_Ledger_Tell : Func := Go.Proofs.Try.f35
theorem h_ref24_Ledger_Tell : P.funcs[f_ref24_Ledger_Tell]? = some b_ref24_Ledger_Tell := Go.Proofs.Try.func35
-- (*saltern/salternref24.Ledger).Note
abbrev f_ref24_Ledger_Note : Nat := 36
@[reducible] noncomputable def b_ref24_Ledger_Note : Func := Go.Proofs.Try.f36
theorem h_ref24_Ledger_Note : P.funcs[f_ref24_Ledger_Note]? = some b_ref24_Ledger_Note := Go.Proofs.Try.func36
-- (*saltern/ledger.Ledger).is
abbrev f_ledger_Ledger_is : Nat := 37
@[reducible] noncomputable def b_ledger_Ledger_is : Func := Go.Proofs.Try.f37
theorem h_ledger_Ledger_is : P.funcs[f_ledger_Ledger_is]? = some b_ledger_Ledger_is := Go.Proofs.Try.func37
-- saltern/record.Walk
abbrev f_record_Walk : Nat := 38
@[reducible] noncomputable def b_record_Walk : Func := Go.Proofs.Try.f38
theorem h_record_Walk : P.funcs[f_record_Walk]? = some b_record_Walk := Go.Proofs.Try.func38
-- saltern/check.Has
abbrev f_check_Has : Nat := 39
@[reducible] noncomputable def b_check_Has : Func := Go.Proofs.Try.f39
theorem h_check_Has : P.funcs[f_check_Has]? = some b_check_Has := Go.Proofs.Try.func39
-- saltern/ledger.leads
abbrev f_ledger_leads : Nat := 40
@[reducible] noncomputable def b_ledger_leads : Func := Go.Proofs.Try.f40
theorem h_ledger_leads : P.funcs[f_ledger_leads]? = some b_ledger_leads := Go.Proofs.Try.func40
-- saltern/salternref24.leads
abbrev f_ref24_leads : Nat := 41
@[reducible] noncomputable def b_ref24_leads : Func := Go.Proofs.Try.f41
theorem h_ref24_leads : P.funcs[f_ref24_leads]? = some b_ref24_leads := Go.Proofs.Try.func41
-- slices.Clone[[]saltern/api.Mark,saltern/api.Mark]
abbrev f_slices_Clone_Mark : Nat := 42
@[reducible] noncomputable def b_slices_Clone_Mark : Func := Go.Proofs.Try.f42
theorem h_slices_Clone_Mark : P.funcs[f_slices_Clone_Mark]? = some b_slices_Clone_Mark := Go.Proofs.Try.func42
-- (*saltern/ledger.Ledger).later
abbrev f_ledger_Ledger_later : Nat := 43
@[reducible] noncomputable def b_ledger_Ledger_later : Func := Go.Proofs.Try.f43
theorem h_ledger_Ledger_later : P.funcs[f_ledger_Ledger_later]? = some b_ledger_Ledger_later := Go.Proofs.Try.func43
-- slices.Clone[[]byte,byte]
abbrev f_slices_Clone_byte : Nat := 44
@[reducible] noncomputable def b_slices_Clone_byte : Func := Go.Proofs.Try.f44
theorem h_slices_Clone_byte : P.funcs[f_slices_Clone_byte]? = some b_slices_Clone_byte := Go.Proofs.Try.func44
-- saltern/ledger.own
abbrev f_ledger_own : Nat := 45
@[reducible] noncomputable def b_ledger_own : Func := Go.Proofs.Try.f45
theorem h_ledger_own : P.funcs[f_ledger_own]? = some b_ledger_own := Go.Proofs.Try.func45
-- saltern/salternref13.Chain
abbrev f_ref13_Chain : Nat := 46
@[reducible] noncomputable def b_ref13_Chain : Func := Go.Proofs.Try.f46
theorem h_ref13_Chain : P.funcs[f_ref13_Chain]? = some b_ref13_Chain := Go.Proofs.Try.func46
-- saltern/salternref13.Follows
abbrev f_ref13_Follows : Nat := 47
@[reducible] noncomputable def b_ref13_Follows : Func := Go.Proofs.Try.f47
theorem h_ref13_Follows : P.funcs[f_ref13_Follows]? = some b_ref13_Follows := Go.Proofs.Try.func47
-- saltern/record.Next
abbrev f_record_Next : Nat := 48
@[reducible] noncomputable def b_record_Next : Func := Go.Proofs.Try.f48
theorem h_record_Next : P.funcs[f_record_Next]? = some b_record_Next := Go.Proofs.Try.func48
-- slices.Sort[[]int,int]
abbrev f_slices_Sort_int : Nat := 49
@[reducible] noncomputable def b_slices_Sort_int : Func := Go.Proofs.Try.f49
theorem h_slices_Sort_int : P.funcs[f_slices_Sort_int]? = some b_slices_Sort_int := Go.Proofs.Try.func49
-- slices.Compact[[]int,int]
abbrev f_slices_Compact_int : Nat := 50
@[reducible] noncomputable def b_slices_Compact_int : Func := Go.Proofs.Try.f50
theorem h_slices_Compact_int : P.funcs[f_slices_Compact_int]? = some b_slices_Compact_int := Go.Proofs.Try.func50
-- saltern/salternref13.Bytes
abbrev f_ref13_Bytes : Nat := 51
@[reducible] noncomputable def b_ref13_Bytes : Func := Go.Proofs.Try.f51
theorem h_ref13_Bytes : P.funcs[f_ref13_Bytes]? = some b_ref13_Bytes := Go.Proofs.Try.func51
-- saltern/salternref03.Of
abbrev f_ref03_Of : Nat := 52
@[reducible] noncomputable def b_ref03_Of : Func := Go.Proofs.Try.f52
theorem h_ref03_Of : P.funcs[f_ref03_Of]? = some b_ref03_Of := Go.Proofs.Try.func52
-- saltern/record.Chain
abbrev f_record_Chain : Nat := 53
@[reducible] noncomputable def b_record_Chain : Func := Go.Proofs.Try.f53
theorem h_record_Chain : P.funcs[f_record_Chain]? = some b_record_Chain := Go.Proofs.Try.func53
-- saltern/record.follows
abbrev f_record_follows : Nat := 54
@[reducible] noncomputable def b_record_follows : Func := Go.Proofs.Try.f54
theorem h_record_follows : P.funcs[f_record_follows]? = some b_record_follows := Go.Proofs.Try.func54
-- slices.pdqsortOrdered[int]
abbrev f_slices_pdqsortOrderedarint : Nat := 55
@[reducible] noncomputable def b_slices_pdqsortOrderedarint : Func := Go.Proofs.Try.f55
theorem h_slices_pdqsortOrderedarint : P.funcs[f_slices_pdqsortOrderedarint]? = some b_slices_pdqsortOrderedarint := Go.Proofs.Try.func55
-- math/bits.Len
abbrev f_math_bits_Len : Nat := 56
@[reducible] noncomputable def b_math_bits_Len : Func := Go.Proofs.Try.f56
theorem h_math_bits_Len : P.funcs[f_math_bits_Len]? = some b_math_bits_Len := Go.Proofs.Try.func56
-- saltern/salternref13.Check
abbrev f_ref13_Check : Nat := 57
@[reducible] noncomputable def b_ref13_Check : Func := Go.Proofs.Try.f57
theorem h_ref13_Check : P.funcs[f_ref13_Check]? = some b_ref13_Check := Go.Proofs.Try.func57
-- saltern/salternref01.Varint
abbrev f_ref01_Varint : Nat := 58
@[reducible] noncomputable def b_ref01_Varint : Func := Go.Proofs.Try.f58
theorem h_ref01_Varint : P.funcs[f_ref01_Varint]? = some b_ref01_Varint := Go.Proofs.Try.func58
-- saltern/salternref03.Sum
abbrev f_ref03_Sum : Nat := 59
@[reducible] noncomputable def b_ref03_Sum : Func := Go.Proofs.Try.f59
theorem h_ref03_Sum : P.funcs[f_ref03_Sum]? = some b_ref03_Sum := Go.Proofs.Try.func59
-- saltern/record.Bytes
abbrev f_record_Bytes : Nat := 60
@[reducible] noncomputable def b_record_Bytes : Func := Go.Proofs.Try.f60
theorem h_record_Bytes : P.funcs[f_record_Bytes]? = some b_record_Bytes := Go.Proofs.Try.func60
-- saltern/sha.Sum
abbrev f_sha_Sum : Nat := 61
@[reducible] noncomputable def b_sha_Sum : Func := Go.Proofs.Try.f61
theorem h_sha_Sum : P.funcs[f_sha_Sum]? = some b_sha_Sum := Go.Proofs.Try.func61
-- slices.insertionSortOrdered[int]
abbrev f_slices_insertionSortOrderedarint : Nat := 62
@[reducible] noncomputable def b_slices_insertionSortOrderedarint : Func := Go.Proofs.Try.f62
theorem h_slices_insertionSortOrderedarint : P.funcs[f_slices_insertionSortOrderedarint]? = some b_slices_insertionSortOrderedarint := Go.Proofs.Try.func62
-- slices.heapSortOrdered[int]
abbrev f_slices_heapSortOrderedarint : Nat := 63
@[reducible] noncomputable def b_slices_heapSortOrderedarint : Func := Go.Proofs.Try.f63
theorem h_slices_heapSortOrderedarint : P.funcs[f_slices_heapSortOrderedarint]? = some b_slices_heapSortOrderedarint := Go.Proofs.Try.func63
-- slices.breakPatternsOrdered[int]
abbrev f_slices_breakPatternsOrderedarint : Nat := 64
@[reducible] noncomputable def b_slices_breakPatternsOrderedarint : Func := Go.Proofs.Try.f64
theorem h_slices_breakPatternsOrderedarint : P.funcs[f_slices_breakPatternsOrderedarint]? = some b_slices_breakPatternsOrderedarint := Go.Proofs.Try.func64
-- slices.choosePivotOrdered[int]
abbrev f_slices_choosePivotOrderedarint : Nat := 65
@[reducible] noncomputable def b_slices_choosePivotOrderedarint : Func := Go.Proofs.Try.f65
theorem h_slices_choosePivotOrderedarint : P.funcs[f_slices_choosePivotOrderedarint]? = some b_slices_choosePivotOrderedarint := Go.Proofs.Try.func65
-- slices.reverseRangeOrdered[int]
abbrev f_slices_reverseRangeOrderedarint : Nat := 66
@[reducible] noncomputable def b_slices_reverseRangeOrderedarint : Func := Go.Proofs.Try.f66
theorem h_slices_reverseRangeOrderedarint : P.funcs[f_slices_reverseRangeOrderedarint]? = some b_slices_reverseRangeOrderedarint := Go.Proofs.Try.func66
-- slices.partialInsertionSortOrdered[int]
abbrev f_slices_partialInsertionSortOrderedarint : Nat := 67
@[reducible] noncomputable def b_slices_partialInsertionSortOrderedarint : Func := Go.Proofs.Try.f67
theorem h_slices_partialInsertionSortOrderedarint : P.funcs[f_slices_partialInsertionSortOrderedarint]? = some b_slices_partialInsertionSortOrderedarint := Go.Proofs.Try.func67
-- cmp.Less[int]
abbrev f_cmp_Lessarint : Nat := 68
@[reducible] noncomputable def b_cmp_Lessarint : Func := Go.Proofs.Try.f68
theorem h_cmp_Lessarint : P.funcs[f_cmp_Lessarint]? = some b_cmp_Lessarint := Go.Proofs.Try.func68
-- slices.partitionEqualOrdered[int]
abbrev f_slices_partitionEqualOrderedarint : Nat := 69
@[reducible] noncomputable def b_slices_partitionEqualOrderedarint : Func := Go.Proofs.Try.f69
theorem h_slices_partitionEqualOrderedarint : P.funcs[f_slices_partitionEqualOrderedarint]? = some b_slices_partitionEqualOrderedarint := Go.Proofs.Try.func69
-- slices.partitionOrdered[int]
abbrev f_slices_partitionOrderedarint : Nat := 70
@[reducible] noncomputable def b_slices_partitionOrderedarint : Func := Go.Proofs.Try.f70
theorem h_slices_partitionOrderedarint : P.funcs[f_slices_partitionOrderedarint]? = some b_slices_partitionOrderedarint := Go.Proofs.Try.func70
-- math/bits.Len32
abbrev f_math_bits_Len32 : Nat := 71
@[reducible] noncomputable def b_math_bits_Len32 : Func := Go.Proofs.Try.f71
theorem h_math_bits_Len32 : P.funcs[f_math_bits_Len32]? = some b_math_bits_Len32 := Go.Proofs.Try.func71
-- math/bits.Len64
abbrev f_math_bits_Len64 : Nat := 72
@[reducible] noncomputable def b_math_bits_Len64 : Func := Go.Proofs.Try.f72
theorem h_math_bits_Len64 : P.funcs[f_math_bits_Len64]? = some b_math_bits_Len64 := Go.Proofs.Try.func72
-- saltern/salternref13.Size
abbrev f_ref13_Size : Nat := 73
@[reducible] noncomputable def b_ref13_Size : Func := Go.Proofs.Try.f73
theorem h_ref13_Size : P.funcs[f_ref13_Size]? = some b_ref13_Size := Go.Proofs.Try.func73
-- saltern/salternref13.IsPath
abbrev f_ref13_IsPath : Nat := 74
@[reducible] noncomputable def b_ref13_IsPath : Func := Go.Proofs.Try.f74
theorem h_ref13_IsPath : P.funcs[f_ref13_IsPath]? = some b_ref13_IsPath := Go.Proofs.Try.func74
-- saltern/salternref03.Pad
abbrev f_ref03_Pad : Nat := 75
@[reducible] noncomputable def b_ref03_Pad : Func := Go.Proofs.Try.f75
theorem h_ref03_Pad : P.funcs[f_ref03_Pad]? = some b_ref03_Pad := Go.Proofs.Try.func75
-- saltern/salternref03.Start
abbrev f_ref03_Start : Nat := 76
@[reducible] noncomputable def b_ref03_Start : Func := Go.Proofs.Try.f76
theorem h_ref03_Start : P.funcs[f_ref03_Start]? = some b_ref03_Start := Go.Proofs.Try.func76
-- saltern/salternref03.Step
abbrev f_ref03_Step : Nat := 77
@[reducible] noncomputable def b_ref03_Step : Func := Go.Proofs.Try.f77
theorem h_ref03_Step : P.funcs[f_ref03_Step]? = some b_ref03_Step := Go.Proofs.Try.func77
-- saltern/salternref03.Bytes
abbrev f_ref03_Bytes : Nat := 78
@[reducible] noncomputable def b_ref03_Bytes : Func := Go.Proofs.Try.f78
theorem h_ref03_Bytes : P.funcs[f_ref03_Bytes]? = some b_ref03_Bytes := Go.Proofs.Try.func78
-- saltern/record.Check
abbrev f_record_Check : Nat := 79
@[reducible] noncomputable def b_record_Check : Func := Go.Proofs.Try.f79
theorem h_record_Check : P.funcs[f_record_Check]? = some b_record_Check := Go.Proofs.Try.func79
-- saltern/word.Varint
abbrev f_word_Varint : Nat := 80
@[reducible] noncomputable def b_word_Varint : Func := Go.Proofs.Try.f80
theorem h_word_Varint : P.funcs[f_word_Varint]? = some b_word_Varint := Go.Proofs.Try.func80
-- saltern/sha.New
abbrev f_sha_New : Nat := 81
@[reducible] noncomputable def b_sha_New : Func := Go.Proofs.Try.f81
theorem h_sha_New : P.funcs[f_sha_New]? = some b_sha_New := Go.Proofs.Try.func81
-- (*saltern/sha.Hash).take
abbrev f_sha_Hash_take : Nat := 82
@[reducible] noncomputable def b_sha_Hash_take : Func := Go.Proofs.Try.f82
theorem h_sha_Hash_take : P.funcs[f_sha_Hash_take]? = some b_sha_Hash_take := Go.Proofs.Try.func82
-- (*saltern/sha.Hash).end
abbrev f_sha_Hash_end : Nat := 83
@[reducible] noncomputable def b_sha_Hash_end : Func := Go.Proofs.Try.f83
theorem h_sha_Hash_end : P.funcs[f_sha_Hash_end]? = some b_sha_Hash_end := Go.Proofs.Try.func83
-- slices.siftDownOrdered[int]
abbrev f_slices_siftDownOrderedarint : Nat := 84
@[reducible] noncomputable def b_slices_siftDownOrderedarint : Func := Go.Proofs.Try.f84
theorem h_slices_siftDownOrderedarint : P.funcs[f_slices_siftDownOrderedarint]? = some b_slices_siftDownOrderedarint := Go.Proofs.Try.func84
-- slices.nextPowerOfTwo
abbrev f_slices_nextPowerOfTwo : Nat := 85
@[reducible] noncomputable def b_slices_nextPowerOfTwo : Func := Go.Proofs.Try.f85
theorem h_slices_nextPowerOfTwo : P.funcs[f_slices_nextPowerOfTwo]? = some b_slices_nextPowerOfTwo := Go.Proofs.Try.func85
-- (*slices.xorshift).Next
abbrev f_slices_xorshift_Next : Nat := 86
@[reducible] noncomputable def b_slices_xorshift_Next : Func := Go.Proofs.Try.f86
theorem h_slices_xorshift_Next : P.funcs[f_slices_xorshift_Next]? = some b_slices_xorshift_Next := Go.Proofs.Try.func86
-- slices.medianAdjacentOrdered[int]
abbrev f_slices_medianAdjacentOrderedarint : Nat := 87
@[reducible] noncomputable def b_slices_medianAdjacentOrderedarint : Func := Go.Proofs.Try.f87
theorem h_slices_medianAdjacentOrderedarint : P.funcs[f_slices_medianAdjacentOrderedarint]? = some b_slices_medianAdjacentOrderedarint := Go.Proofs.Try.func87
-- slices.medianOrdered[int]
abbrev f_slices_medianOrderedarint : Nat := 88
@[reducible] noncomputable def b_slices_medianOrderedarint : Func := Go.Proofs.Try.f88
theorem h_slices_medianOrderedarint : P.funcs[f_slices_medianOrderedarint]? = some b_slices_medianOrderedarint := Go.Proofs.Try.func88
-- cmp.isNaN[int]
abbrev f_cmp_isNaNarint : Nat := 89
@[reducible] noncomputable def b_cmp_isNaNarint : Func := Go.Proofs.Try.f89
theorem h_cmp_isNaNarint : P.funcs[f_cmp_isNaNarint]? = some b_cmp_isNaNarint := Go.Proofs.Try.func89
-- saltern/salternref03.right
abbrev f_ref03_right : Nat := 90
@[reducible] noncomputable def b_ref03_right : Func := Go.Proofs.Try.f90
theorem h_ref03_right : P.funcs[f_ref03_right]? = some b_ref03_right := Go.Proofs.Try.func90
-- saltern/salternref03.moved
abbrev f_ref03_moved : Nat := 91
@[reducible] noncomputable def b_ref03_moved : Func := Go.Proofs.Try.f91
theorem h_ref03_moved : P.funcs[f_ref03_moved]? = some b_ref03_moved := Go.Proofs.Try.func91
-- saltern/salternref03.constants
abbrev f_ref03_constants : Nat := 92
@[reducible] noncomputable def b_ref03_constants : Func := Go.Proofs.Try.f92
theorem h_ref03_constants : P.funcs[f_ref03_constants]? = some b_ref03_constants := Go.Proofs.Try.func92
-- saltern/record.fits
abbrev f_record_fits : Nat := 93
@[reducible] noncomputable def b_record_fits : Func := Go.Proofs.Try.f93
theorem h_record_fits : P.funcs[f_record_fits]? = some b_record_fits := Go.Proofs.Try.func93
-- saltern/sha.Start
abbrev f_sha_Start : Nat := 94
@[reducible] noncomputable def b_sha_Start : Func := Go.Proofs.Try.f94
theorem h_sha_Start : P.funcs[f_sha_Start]? = some b_sha_Start := Go.Proofs.Try.func94
-- bytes.Clone
abbrev f_bytes_Clone : Nat := 95
@[reducible] noncomputable def b_bytes_Clone : Func := Go.Proofs.Try.f95
theorem h_bytes_Clone : P.funcs[f_bytes_Clone]? = some b_bytes_Clone := Go.Proofs.Try.func95
-- saltern/sha.Step
abbrev f_sha_Step : Nat := 96
@[reducible] noncomputable def b_sha_Step : Func := Go.Proofs.Try.f96
theorem h_sha_Step : P.funcs[f_sha_Step]? = some b_sha_Step := Go.Proofs.Try.func96
-- saltern/sha.Pad
abbrev f_sha_Pad : Nat := 97
@[reducible] noncomputable def b_sha_Pad : Func := Go.Proofs.Try.f97
theorem h_sha_Pad : P.funcs[f_sha_Pad]? = some b_sha_Pad := Go.Proofs.Try.func97
-- saltern/word.Bytes
abbrev f_word_Bytes : Nat := 98
@[reducible] noncomputable def b_word_Bytes : Func := Go.Proofs.Try.f98
theorem h_word_Bytes : P.funcs[f_word_Bytes]? = some b_word_Bytes := Go.Proofs.Try.func98
-- slices.order2Ordered[int]
abbrev f_slices_order2Orderedarint : Nat := 99
@[reducible] noncomputable def b_slices_order2Orderedarint : Func := Go.Proofs.Try.f99
theorem h_slices_order2Orderedarint : P.funcs[f_slices_order2Orderedarint]? = some b_slices_order2Orderedarint := Go.Proofs.Try.func99
-- saltern/record.Size
abbrev f_record_Size : Nat := 100
@[reducible] noncomputable def b_record_Size : Func := Go.Proofs.Try.f100
theorem h_record_Size : P.funcs[f_record_Size]? = some b_record_Size := Go.Proofs.Try.func100
-- saltern/record.IsPath
abbrev f_record_IsPath : Nat := 101
@[reducible] noncomputable def b_record_IsPath : Func := Go.Proofs.Try.f101
theorem h_record_IsPath : P.funcs[f_record_IsPath]? = some b_record_IsPath := Go.Proofs.Try.func101
-- saltern/sha.schedule
abbrev f_sha_schedule : Nat := 102
@[reducible] noncomputable def b_sha_schedule : Func := Go.Proofs.Try.f102
theorem h_sha_schedule : P.funcs[f_sha_schedule]? = some b_sha_schedule := Go.Proofs.Try.func102
-- saltern/sha.constants
abbrev f_sha_constants : Nat := 103
@[reducible] noncomputable def b_sha_constants : Func := Go.Proofs.Try.f103
theorem h_sha_constants : P.funcs[f_sha_constants]? = some b_sha_constants := Go.Proofs.Try.func103
-- saltern/sha.right
abbrev f_sha_right : Nat := 104
@[reducible] noncomputable def b_sha_right : Func := Go.Proofs.Try.f104
theorem h_sha_right : P.funcs[f_sha_right]? = some b_sha_right := Go.Proofs.Try.func104
-- saltern/word.way
abbrev f_word_way : Nat := 105
@[reducible] noncomputable def b_word_way : Func := Go.Proofs.Try.f105
theorem h_word_way : P.funcs[f_word_way]? = some b_word_way := Go.Proofs.Try.func105
-- saltern/word.shift
abbrev f_word_shift : Nat := 106
@[reducible] noncomputable def b_word_shift : Func := Go.Proofs.Try.f106
theorem h_word_shift : P.funcs[f_word_shift]? = some b_word_shift := Go.Proofs.Try.func106
-- saltern/word.Words
abbrev f_word_Words : Nat := 107
@[reducible] noncomputable def b_word_Words : Func := Go.Proofs.Try.f107
theorem h_word_Words : P.funcs[f_word_Words]? = some b_word_Words := Go.Proofs.Try.func107
-- saltern/word.width
abbrev f_word_width : Nat := 108
@[reducible] noncomputable def b_word_width : Func := Go.Proofs.Try.f108
theorem h_word_width : P.funcs[f_word_width]? = some b_word_width := Go.Proofs.Try.func108
-- saltern/word.number
abbrev f_word_number : Nat := 109
@[reducible] noncomputable def b_word_number : Func := Go.Proofs.Try.f109
theorem h_word_number : P.funcs[f_word_number]? = some b_word_number := Go.Proofs.Try.func109
-- (*saltern/sha.Hash).is
abbrev f_sha_Hash_is : Nat := 126
@[reducible] noncomputable def b_sha_Hash_is : Func := Go.Proofs.Try.f126
theorem h_sha_Hash_is : P.funcs[f_sha_Hash_is]? = some b_sha_Hash_is := Go.Proofs.Try.func126
abbrev t_int64 : Nat := 2
abbrev t_int : Nat := 3
abbrev t_bool : Nat := 4
abbrev t_uint8 : Nat := 5
abbrev t_string : Nat := 9
abbrev t_uintptr : Nat := 12
abbrev t_maps_unhashableTypeError : Nat := 19
abbrev t_int32 : Nat := 21
abbrev t_sl_salternlaw24_Act : Nat := 22
abbrev t_sl_sl_api_Record : Nat := 23
abbrev t_p_ledger_Ledger : Nat := 24
abbrev t_p_salternref24_Ledger : Nat := 25
abbrev t_sl_api_Breach : Nat := 31
abbrev t_sl_api_Record : Nat := 35
abbrev t_sl_api_Mark : Nat := 37
abbrev t_ar32_uint8 : Nat := 39
abbrev t_api_Digest : Nat := 40
abbrev t_api_Head : Nat := 42
abbrev t_api_Mark : Nat := 44
abbrev t_api_DeedKind : Nat := 48
abbrev t_sl_uint8 : Nat := 49
abbrev t_sl_bool : Nat := 50
abbrev t_api_Deed : Nat := 52
abbrev t_api_Errno : Nat := 53
abbrev t_api_Shown : Nat := 55
abbrev t_api_EventKind : Nat := 56
abbrev t_api_Event : Nat := 58
abbrev t_api_Told : Nat := 60
abbrev t_salternlaw24_Act : Nat := 62
abbrev t_sl_api_Noted : Nat := 66
abbrev t_salternref24_Ledger : Nat := 69
abbrev t_api_Noted : Nat := 72
abbrev t_api_RecordKind : Nat := 78
abbrev t_sl_api_Piece : Nat := 79
abbrev t_api_Record : Nat := 81
abbrev t_maparapi_Head_int : Nat := 92
abbrev t_ledger_Ledger : Nat := 94
abbrev t_sl_p_ledger_Ledger : Nat := 95
abbrev t_api_BreachKind : Nat := 98
abbrev t_api_Breach : Nat := 100
abbrev t_sl_int : Nat := 103
abbrev t_maparint_int : Nat := 115
abbrev t_uint : Nat := 125
abbrev t_uint64 : Nat := 128
abbrev t_api_Piece : Nat := 130
abbrev t_sl_sl_uint8 : Nat := 132
abbrev t_slices_sortedHint : Nat := 137
abbrev t_uint32 : Nat := 145
abbrev t_ar8_uint32 : Nat := 150
abbrev t_ar64_uint8 : Nat := 152
abbrev t_p_sha_Hash : Nat := 156
abbrev t_slices_xorshift : Nat := 160
abbrev t_p_int : Nat := 164
abbrev t_ar64_uint32 : Nat := 167
abbrev t_sha_Hash : Nat := 172
abbrev t_api_Order : Nat := 174
abbrev t_p_slices_xorshift : Nat := 175
abbrev t_sl_uint64 : Nat := 183
abbrev t_p_uint8 : Nat := 197
end Go.Sal.Nm
