/- The numbers of this translation's functions and types, by name: written by a program of this session. -/
import Derived.Test.YtheohmfljiphiaaProg
import Derived.Test.YtheohmfljiphiaaQVseTyped
namespace Go.Sal.Nm
open Go.Vse
@[reducible] noncomputable def P : Program := Go.Proofs.Try.prog
-- saltern/salternlaw09.DiskReads
abbrev f_law09_DiskReads : Nat := 3
@[reducible] noncomputable def b_law09_DiskReads : Func := Go.Proofs.Try.f3
theorem h_law09_DiskReads : P.funcs[f_law09_DiskReads]? = some b_law09_DiskReads := Go.Proofs.Try.func3
-- saltern/salternlaw09.DiskBytes
abbrev f_law09_DiskBytes : Nat := 4
@[reducible] noncomputable def b_law09_DiskBytes : Func := Go.Proofs.Try.f4
theorem h_law09_DiskBytes : P.funcs[f_law09_DiskBytes]? = some b_law09_DiskBytes := Go.Proofs.Try.func4
-- saltern/salternlaw09.DiskSyncs
abbrev f_law09_DiskSyncs : Nat := 5
@[reducible] noncomputable def b_law09_DiskSyncs : Func := Go.Proofs.Try.f5
theorem h_law09_DiskSyncs : P.funcs[f_law09_DiskSyncs]? = some b_law09_DiskSyncs := Go.Proofs.Try.func5
-- saltern/salternlaw09.DiskRuns
abbrev f_law09_DiskRuns : Nat := 6
@[reducible] noncomputable def b_law09_DiskRuns : Func := Go.Proofs.Try.f6
theorem h_law09_DiskRuns : P.funcs[f_law09_DiskRuns]? = some b_law09_DiskRuns := Go.Proofs.Try.func6
-- saltern/salternlaw09.DiskNobody
abbrev f_law09_DiskNobody : Nat := 7
@[reducible] noncomputable def b_law09_DiskNobody : Func := Go.Proofs.Try.f7
theorem h_law09_DiskNobody : P.funcs[f_law09_DiskNobody]? = some b_law09_DiskNobody := Go.Proofs.Try.func7
-- saltern/disk.New
abbrev f_disk_New : Nat := 8
@[reducible] noncomputable def b_disk_New : Func := Go.Proofs.Try.f8
theorem h_disk_New : P.funcs[f_disk_New]? = some b_disk_New := Go.Proofs.Try.func8
-- saltern/salternlaw09.alive
abbrev f_law09_alive : Nat := 9
@[reducible] noncomputable def b_law09_alive : Func := Go.Proofs.Try.f9
theorem h_law09_alive : P.funcs[f_law09_alive]? = some b_law09_alive := Go.Proofs.Try.func9
-- saltern/salternlaw09.cut
abbrev f_law09_cut : Nat := 10
@[reducible] noncomputable def b_law09_cut : Func := Go.Proofs.Try.f10
theorem h_law09_cut : P.funcs[f_law09_cut]? = some b_law09_cut := Go.Proofs.Try.func10
-- (*saltern/disk.Disk).Write
abbrev f_disk_Disk_Write : Nat := 11
@[reducible] noncomputable def b_disk_Disk_Write : Func := Go.Proofs.Try.f11
theorem h_disk_Disk_Write : P.funcs[f_disk_Disk_Write]? = some b_disk_Disk_Write := Go.Proofs.Try.func11
-- saltern/salternref09.Whole
abbrev f_ref09_Whole : Nat := 12
@[reducible] noncomputable def b_ref09_Whole : Func := Go.Proofs.Try.f12
theorem h_ref09_Whole : P.funcs[f_ref09_Whole]? = some b_ref09_Whole := Go.Proofs.Try.func12
-- (*saltern/disk.Disk).Read
abbrev f_disk_Disk_Read : Nat := 13
@[reducible] noncomputable def b_disk_Disk_Read : Func := Go.Proofs.Try.f13
theorem h_disk_Disk_Read : P.funcs[f_disk_Disk_Read]? = some b_disk_Disk_Read := Go.Proofs.Try.func13
-- (*saltern/disk.Disk).Sync
abbrev f_disk_Disk_Sync : Nat := 14
@[reducible] noncomputable def b_disk_Disk_Sync : Func := Go.Proofs.Try.f14
theorem h_disk_Disk_Sync : P.funcs[f_disk_Disk_Sync]? = some b_disk_Disk_Sync := Go.Proofs.Try.func14
-- (*saltern/disk.Disk).Lose
abbrev f_disk_Disk_Lose : Nat := 15
@[reducible] noncomputable def b_disk_Disk_Lose : Func := Go.Proofs.Try.f15
theorem h_disk_Disk_Lose : P.funcs[f_disk_Disk_Lose]? = some b_disk_Disk_Lose := Go.Proofs.Try.func15
-- saltern/salternref09.New
abbrev f_ref09_New : Nat := 16
@[reducible] noncomputable def b_ref09_New : Func := Go.Proofs.Try.f16
theorem h_ref09_New : P.funcs[f_ref09_New]? = some b_ref09_New := Go.Proofs.Try.func16
-- saltern/salternlaw09.act
abbrev f_law09_act : Nat := 17
@[reducible] noncomputable def b_law09_act : Func := Go.Proofs.Try.f17
theorem h_law09_act : P.funcs[f_law09_act]? = some b_law09_act := Go.Proofs.Try.func17
-- saltern/salternlaw09.alike
abbrev f_law09_alike : Nat := 18
@[reducible] noncomputable def b_law09_alike : Func := Go.Proofs.Try.f18
theorem h_law09_alike : P.funcs[f_law09_alike]? = some b_law09_alike := Go.Proofs.Try.func18
-- (*saltern/disk.Disk).Rot
abbrev f_disk_Disk_Rot : Nat := 19
@[reducible] noncomputable def b_disk_Disk_Rot : Func := Go.Proofs.Try.f19
theorem h_disk_Disk_Rot : P.funcs[f_disk_Disk_Rot]? = some b_disk_Disk_Rot := Go.Proofs.Try.func19
-- (*saltern/disk.Disk).Fuse
abbrev f_disk_Disk_Fuse : Nat := 20
@[reducible] noncomputable def b_disk_Disk_Fuse : Func := Go.Proofs.Try.f20
theorem h_disk_Disk_Fuse : P.funcs[f_disk_Disk_Fuse]? = some b_disk_Disk_Fuse := Go.Proofs.Try.func20
-- (*saltern/disk.Disk).Blocks
abbrev f_disk_Disk_Blocks : Nat := 21
@[reducible] noncomputable def b_disk_Disk_Blocks : Func := Go.Proofs.Try.f21
theorem h_disk_Disk_Blocks : P.funcs[f_disk_Disk_Blocks]? = some b_disk_Disk_Blocks := Go.Proofs.Try.func21
-- (*saltern/disk.Disk).Open
abbrev f_disk_Disk_Open : Nat := 22
@[reducible] noncomputable def b_disk_Disk_Open : Func := Go.Proofs.Try.f22
theorem h_disk_Disk_Open : P.funcs[f_disk_Disk_Open]? = some b_disk_Disk_Open := Go.Proofs.Try.func22
-- (*saltern/disk.Disk).Down
abbrev f_disk_Disk_Down : Nat := 23
@[reducible] noncomputable def b_disk_Disk_Down : Func := Go.Proofs.Try.f23
theorem h_disk_Disk_Down : P.funcs[f_disk_Disk_Down]? = some b_disk_Disk_Down := Go.Proofs.Try.func23
-- (*saltern/disk.Disk).at
abbrev f_disk_Disk_at : Nat := 24
@[reducible] noncomputable def b_disk_Disk_at : Func := Go.Proofs.Try.f24
theorem h_disk_Disk_at : P.funcs[f_disk_Disk_at]? = some b_disk_Disk_at := Go.Proofs.Try.func24
-- (*saltern/disk.Disk).power
abbrev f_disk_Disk_power : Nat := 25
@[reducible] noncomputable def b_disk_Disk_power : Func := Go.Proofs.Try.f25
theorem h_disk_Disk_power : P.funcs[f_disk_Disk_power]? = some b_disk_Disk_power := Go.Proofs.Try.func25
-- (*saltern/disk.Disk).asked
abbrev f_disk_Disk_asked : Nat := 26
@[reducible] noncomputable def b_disk_Disk_asked : Func := Go.Proofs.Try.f26
theorem h_disk_Disk_asked : P.funcs[f_disk_Disk_asked]? = some b_disk_Disk_asked := Go.Proofs.Try.func26
-- (*saltern/salternref09.Disk).Write
abbrev f_ref09_Disk_Write : Nat := 27
@[reducible] noncomputable def b_ref09_Disk_Write : Func := Go.Proofs.Try.f27
theorem h_ref09_Disk_Write : P.funcs[f_ref09_Disk_Write]? = some b_ref09_Disk_Write := Go.Proofs.Try.func27
-- (*saltern/salternref09.Disk).Read
abbrev f_ref09_Disk_Read : Nat := 28
@[reducible] noncomputable def b_ref09_Disk_Read : Func := Go.Proofs.Try.f28
theorem h_ref09_Disk_Read : P.funcs[f_ref09_Disk_Read]? = some b_ref09_Disk_Read := Go.Proofs.Try.func28
-- (*saltern/salternref09.Disk).Sync
abbrev f_ref09_Disk_Sync : Nat := 29
@[reducible] noncomputable def b_ref09_Disk_Sync : Func := Go.Proofs.Try.f29
theorem h_ref09_Disk_Sync : P.funcs[f_ref09_Disk_Sync]? = some b_ref09_Disk_Sync := Go.Proofs.Try.func29
-- (*saltern/salternref09.Disk).Lose
abbrev f_ref09_Disk_Lose : Nat := 30
@[reducible] noncomputable def b_ref09_Disk_Lose : Func := Go.Proofs.Try.f30
theorem h_ref09_Disk_Lose : P.funcs[f_ref09_Disk_Lose]? = some b_ref09_Disk_Lose := Go.Proofs.Try.func30
-- (*saltern/salternref09.Disk).Rot
abbrev f_ref09_Disk_Rot : Nat := 31
@[reducible] noncomputable def b_ref09_Disk_Rot : Func := Go.Proofs.Try.f31
theorem h_ref09_Disk_Rot : P.funcs[f_ref09_Disk_Rot]? = some b_ref09_Disk_Rot := Go.Proofs.Try.func31
-- (*saltern/salternref09.Disk).Fuse
abbrev f_ref09_Disk_Fuse : Nat := 32
@[reducible] noncomputable def b_ref09_Disk_Fuse : Func := Go.Proofs.Try.f32
theorem h_ref09_Disk_Fuse : P.funcs[f_ref09_Disk_Fuse]? = some b_ref09_Disk_Fuse := Go.Proofs.Try.func32
-- (*saltern/salternref09.Disk).Open
abbrev f_ref09_Disk_Open : Nat := 33
@[reducible] noncomputable def b_ref09_Disk_Open : Func := Go.Proofs.Try.f33
theorem h_ref09_Disk_Open : P.funcs[f_ref09_Disk_Open]? = some b_ref09_Disk_Open := Go.Proofs.Try.func33
-- (*saltern/salternref09.Disk).Holds
abbrev f_ref09_Disk_Holds : Nat := 34
@[reducible] noncomputable def b_ref09_Disk_Holds : Func := Go.Proofs.Try.f34
theorem h_ref09_Disk_Holds : P.funcs[f_ref09_Disk_Holds]? = some b_ref09_Disk_Holds := Go.Proofs.Try.func34
-- (*saltern/disk.Disk).made
abbrev f_disk_Disk_made : Nat := 35
@[reducible] noncomputable def b_disk_Disk_made : Func := Go.Proofs.Try.f35
theorem h_disk_Disk_made : P.funcs[f_disk_Disk_made]? = some b_disk_Disk_made := Go.Proofs.Try.func35
-- (*saltern/salternref09.Disk).asked
abbrev f_ref09_Disk_asked : Nat := 36
@[reducible] noncomputable def b_ref09_Disk_asked : Func := Go.Proofs.Try.f36
theorem h_ref09_Disk_asked : P.funcs[f_ref09_Disk_asked]? = some b_ref09_Disk_asked := Go.Proofs.Try.func36
-- (*saltern/salternref09.Disk).power
abbrev f_ref09_Disk_power : Nat := 37
@[reducible] noncomputable def b_ref09_Disk_power : Func := Go.Proofs.Try.f37
theorem h_ref09_Disk_power : P.funcs[f_ref09_Disk_power]? = some b_ref09_Disk_power := Go.Proofs.Try.func37
abbrev t_int64 : Nat := 2
abbrev t_int : Nat := 3
abbrev t_bool : Nat := 4
abbrev t_uint8 : Nat := 5
abbrev t_string : Nat := 9
abbrev t_uintptr : Nat := 12
abbrev t_maps_unhashableTypeError : Nat := 19
abbrev t_int32 : Nat := 21
abbrev t_sl_salternlaw09_Op : Nat := 22
abbrev t_p_disk_Disk : Nat := 23
abbrev t_api_Errno : Nat := 24
abbrev t_sl_uint8 : Nat := 28
abbrev t_sl_bool : Nat := 30
abbrev t_salternlaw09_Op : Nat := 32
abbrev t_sl_sl_uint8 : Nat := 37
abbrev t_p_salternref09_Disk : Nat := 42
abbrev t_sl_disk_block : Nat := 50
abbrev t_sl_disk_write : Nat := 51
abbrev t_maparint_int : Nat := 52
abbrev t_disk_Disk : Nat := 54
abbrev t_sl_p_disk_Disk : Nat := 55
abbrev t_ar512_uint8 : Nat := 61
abbrev t_disk_block : Nat := 62
abbrev t_disk_write : Nat := 64
abbrev t_p_disk_write : Nat := 66
abbrev t_sl_salternref09_Write : Nat := 67
abbrev t_salternref09_Disk : Nat := 69
abbrev t_salternref09_Write : Nat := 80
abbrev t_uint32 : Nat := 87
abbrev t_p_uint8 : Nat := 91
end Go.Sal.Nm
