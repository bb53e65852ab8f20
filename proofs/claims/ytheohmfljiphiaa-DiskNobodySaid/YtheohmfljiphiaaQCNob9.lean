/- A device that nobody made: every method, asked of the nil pointer and of the struct of zeros. -/
import Derived.Test.YtheohmfljiphiaaQCLaw9
set_option maxRecDepth 100000
namespace Go.Sal
open Go.Vse Go.Sal.Nm

def x_zD : List SC := [.run (.one (.nils T_Blk)), .run (.one (.nils T_Wr)), .run (.one (.cst (.map none))), .run (.one (.bool false)), .run (.one (.bool false)), .run (.one (.i64 0))]
def an_N : Ann := { at_ := fun _ _ => none, pins := [], prune := 2, rows := [STRIDE * 3] }
def an_Z : Ann := { at_ := fun _ _ => none, pins := [1], prune := 2, rows := [STRIDE * 3] }

def c_nmade : PC := gN [] fun _ => ⟨none, .sv (.dv (.bool false)), []⟩
def c_zmade : PC := gZ x_zD [] fun _ => ⟨none, .sv (.dv (.bool false)), [(1, .cells x_zD false)]⟩
def c_omade : PC := orG c_nmade c_zmade

def c_nasked : PC := gN [] fun _ => ⟨none, .sv (.dv (.i64 4)), []⟩
def c_zasked : PC := gZ x_zD [] fun _ => ⟨none, .sv (.dv (.i64 4)), [(1, .cells x_zD false)]⟩
def c_oasked : PC := orG c_nasked c_zasked

def c_nat : PC := gN [.i64] fun _ => ⟨none, .sv (.dv (.i64 4)), []⟩
def c_zat : PC := gZ x_zD [.i64] fun _ => ⟨none, .sv (.dv (.i64 4)), [(1, .cells x_zD false)]⟩
def c_oat : PC := orG c_nat c_zat

def c_nRead : PC := gN [.i64] fun _ => ⟨none, .tup [.dv (.imm .u8 []), .dv (.i64 4)], []⟩
def c_zRead : PC := gZ x_zD [.i64] fun _ => ⟨none, .tup [.dv (.imm .u8 []), .dv (.i64 4)], [(1, .cells x_zD false)]⟩
def c_oRead : PC := orG c_nRead c_zRead

def c_nWrite : PC := gN [.i64, .slc .u8] fun _ => ⟨none, .sv (.dv (.i64 4)), []⟩
def c_zWrite : PC := gZ x_zD [.i64, .slc .u8] fun _ => ⟨none, .sv (.dv (.i64 4)), [(1, .cells x_zD false)]⟩
def c_oWrite : PC := orG c_nWrite c_zWrite

def c_nSync : PC := gN [] fun _ => ⟨none, .tup [.dv (.i64 0), .dv (.i64 4)], []⟩
def c_zSync : PC := gZ x_zD [] fun _ => ⟨none, .tup [.dv (.i64 0), .dv (.i64 4)], [(1, .cells x_zD false)]⟩
def c_oSync : PC := orG c_nSync c_zSync

def c_nLose : PC := gN [.slc .bool, .i64, .i64] fun _ => ⟨none, .tup [.dv (.cst (.pointer none)), .dv (.i64 4)], []⟩
def c_zLose : PC := gZ x_zD [.slc .bool, .i64, .i64] fun _ => ⟨none, .tup [.dv (.cst (.pointer none)), .dv (.i64 4)], [(1, .cells x_zD false)]⟩
def c_oLose : PC := orG c_nLose c_zLose

def c_nRot : PC := gN [.i64, .i64, .u8] fun _ => ⟨none, .sv (.dv (.i64 4)), []⟩
def c_zRot : PC := gZ x_zD [.i64, .i64, .u8] fun _ => ⟨none, .sv (.dv (.i64 4)), [(1, .cells x_zD false)]⟩
def c_oRot : PC := orG c_nRot c_zRot

def c_nFuse : PC := gN [.i64] fun _ => ⟨none, .sv (.dv (.i64 4)), []⟩
def c_zFuse : PC := gZ x_zD [.i64] fun _ => ⟨none, .sv (.dv (.i64 4)), [(1, .cells x_zD false)]⟩
def c_oFuse : PC := orG c_nFuse c_zFuse

def c_nBlocks : PC := gN [] fun _ => ⟨none, .sv (.dv (.i64 0)), []⟩
def c_zBlocks : PC := gZ x_zD [] fun _ => ⟨none, .sv (.dv (.i64 0)), [(1, .cells x_zD false)]⟩
def c_oBlocks : PC := orG c_nBlocks c_zBlocks

def c_nOpen : PC := gN [] fun _ => ⟨none, .sv (.dv (.i64 0)), []⟩
def c_zOpen : PC := gZ x_zD [] fun _ => ⟨none, .sv (.dv (.i64 0)), [(1, .cells x_zD false)]⟩
def c_oOpen : PC := orG c_nOpen c_zOpen

def c_nDown : PC := gN [] fun _ => ⟨none, .sv (.dv (.bool false)), []⟩
def c_zDown : PC := gZ x_zD [] fun _ => ⟨none, .sv (.dv (.bool false)), [(1, .cells x_zD false)]⟩
def c_oDown : PC := orG c_nDown c_zDown

theorem nmade_vc :
    false = false := by
  first | rfl | exact ⟨rfl, rfl, rfl, rfl⟩ | exact ⟨⟨rfl, rfl⟩, rfl, rfl, rfl⟩ | exact ⟨rfl, rfl⟩

theorem zmade_vc :
    false = false ∧ false = false ∧ false = false ∧ ofN 0 = 0 := by
  first | rfl | exact ⟨rfl, rfl, rfl, rfl⟩ | exact ⟨⟨rfl, rfl⟩, rfl, rfl, rfl⟩ | exact ⟨rfl, rfl⟩

theorem omade_spec : Vse.Spec P f_disk_Disk_made c_omade := spec_or
  (spec_gn (l := []) trivial h_disk_Disk_made rfl rfl fun x _ _ => by
    skip
    exact bodyG_ok an_N (nmade_vc) (by kernel_rfl))
  (spec_gz (l := []) trivial h_disk_Disk_made rfl rfl fun x _ _ => by
    skip
    exact bodyG_ok an_Z (zmade_vc) (by kernel_rfl)) rfl rfl rfl

theorem nasked_vc :
    ofN 4 = 4 := by
  first | rfl | exact ⟨rfl, rfl, rfl, rfl⟩ | exact ⟨⟨rfl, rfl⟩, rfl, rfl, rfl⟩ | exact ⟨rfl, rfl⟩

theorem zasked_vc :
    ofN 4 = 4 ∧ false = false ∧ false = false ∧ ofN 0 = 0 := by
  first | rfl | exact ⟨rfl, rfl, rfl, rfl⟩ | exact ⟨⟨rfl, rfl⟩, rfl, rfl, rfl⟩ | exact ⟨rfl, rfl⟩

theorem oasked_spec : Vse.Spec P f_disk_Disk_asked c_oasked := spec_or
  (spec_gn (l := [(f_disk_Disk_made, c_omade)]) ⟨omade_spec, trivial⟩ h_disk_Disk_asked rfl rfl fun x _ _ => by
    skip
    exact bodyG_ok an_N (nasked_vc) (by kernel_rfl))
  (spec_gz (l := [(f_disk_Disk_made, c_omade)]) ⟨omade_spec, trivial⟩ h_disk_Disk_asked rfl rfl fun x _ _ => by
    skip
    exact bodyG_ok an_Z (zasked_vc) (by kernel_rfl)) rfl rfl rfl

theorem nat_vc (a0 : Int) :
    ofN 4 = 4 := by
  first | rfl | exact ⟨rfl, rfl, rfl, rfl⟩ | exact ⟨⟨rfl, rfl⟩, rfl, rfl, rfl⟩ | exact ⟨rfl, rfl⟩

theorem zat_vc (a0 : Int) :
    ofN 4 = 4 ∧ false = false ∧ false = false ∧ ofN 0 = 0 := by
  first | rfl | exact ⟨rfl, rfl, rfl, rfl⟩ | exact ⟨⟨rfl, rfl⟩, rfl, rfl, rfl⟩ | exact ⟨rfl, rfl⟩

theorem oat_spec : Vse.Spec P f_disk_Disk_at c_oat := spec_or
  (spec_gn (l := [(f_disk_Disk_asked, c_oasked)]) ⟨oasked_spec, trivial⟩ h_disk_Disk_at rfl rfl fun x _ _ => by
    obtain ⟨a0, _⟩ := x
    exact bodyG_ok an_N (nat_vc a0) (by kernel_rfl))
  (spec_gz (l := [(f_disk_Disk_asked, c_oasked)]) ⟨oasked_spec, trivial⟩ h_disk_Disk_at rfl rfl fun x _ _ => by
    obtain ⟨a0, _⟩ := x
    exact bodyG_ok an_Z (zat_vc a0) (by kernel_rfl)) rfl rfl rfl

theorem nRead_vc (a0 : Int) :
    nilOf (BitVec 8) = nilOf (BitVec 8) ∧ ofN 4 = 4 := by
  first | rfl | exact ⟨rfl, rfl, rfl, rfl⟩ | exact ⟨⟨rfl, rfl⟩, rfl, rfl, rfl⟩ | exact ⟨rfl, rfl⟩

theorem zRead_vc (a0 : Int) :
    (nilOf (BitVec 8) = nilOf (BitVec 8) ∧ ofN 4 = 4) ∧ false = false ∧ false = false ∧ ofN 0 = 0 := by
  first | rfl | exact ⟨rfl, rfl, rfl, rfl⟩ | exact ⟨⟨rfl, rfl⟩, rfl, rfl, rfl⟩ | exact ⟨rfl, rfl⟩

theorem oRead_spec : Vse.Spec P f_disk_Disk_Read c_oRead := spec_or
  (spec_gn (l := [(f_disk_Disk_at, c_oat)]) ⟨oat_spec, trivial⟩ h_disk_Disk_Read rfl rfl fun x _ _ => by
    obtain ⟨a0, _⟩ := x
    exact bodyG_ok an_N (nRead_vc a0) (by kernel_rfl))
  (spec_gz (l := [(f_disk_Disk_at, c_oat)]) ⟨oat_spec, trivial⟩ h_disk_Disk_Read rfl rfl fun x _ _ => by
    obtain ⟨a0, _⟩ := x
    exact bodyG_ok an_Z (zRead_vc a0) (by kernel_rfl)) rfl rfl rfl

theorem nWrite_vc (a0 : Int) (a1 : List (BitVec 8)) :
    ofN 4 = 4 := by
  first | rfl | exact ⟨rfl, rfl, rfl, rfl⟩ | exact ⟨⟨rfl, rfl⟩, rfl, rfl, rfl⟩ | exact ⟨rfl, rfl⟩

theorem zWrite_vc (a0 : Int) (a1 : List (BitVec 8)) :
    ofN 4 = 4 ∧ false = false ∧ false = false ∧ ofN 0 = 0 := by
  first | rfl | exact ⟨rfl, rfl, rfl, rfl⟩ | exact ⟨⟨rfl, rfl⟩, rfl, rfl, rfl⟩ | exact ⟨rfl, rfl⟩

theorem oWrite_spec : Vse.Spec P f_disk_Disk_Write c_oWrite := spec_or
  (spec_gn (l := [(f_disk_Disk_at, c_oat)]) ⟨oat_spec, trivial⟩ h_disk_Disk_Write rfl rfl fun x _ _ => by
    obtain ⟨a0, a1, _⟩ := x
    exact bodyG_ok an_N (nWrite_vc a0 a1) (by kernel_rfl))
  (spec_gz (l := [(f_disk_Disk_at, c_oat)]) ⟨oat_spec, trivial⟩ h_disk_Disk_Write rfl rfl fun x _ _ => by
    obtain ⟨a0, a1, _⟩ := x
    exact bodyG_ok an_Z (zWrite_vc a0 a1) (by kernel_rfl)) rfl rfl rfl

theorem nSync_vc :
    ofN 0 = 0 ∧ ofN 4 = 4 := by
  first | rfl | exact ⟨rfl, rfl, rfl, rfl⟩ | exact ⟨⟨rfl, rfl⟩, rfl, rfl, rfl⟩ | exact ⟨rfl, rfl⟩

theorem zSync_vc :
    (ofN 0 = 0 ∧ ofN 4 = 4) ∧ false = false ∧ false = false ∧ ofN 0 = 0 := by
  first | rfl | exact ⟨rfl, rfl, rfl, rfl⟩ | exact ⟨⟨rfl, rfl⟩, rfl, rfl, rfl⟩ | exact ⟨rfl, rfl⟩

theorem oSync_spec : Vse.Spec P f_disk_Disk_Sync c_oSync := spec_or
  (spec_gn (l := [(f_disk_Disk_asked, c_oasked)]) ⟨oasked_spec, trivial⟩ h_disk_Disk_Sync rfl rfl fun x _ _ => by
    skip
    exact bodyG_ok an_N (nSync_vc) (by kernel_rfl))
  (spec_gz (l := [(f_disk_Disk_asked, c_oasked)]) ⟨oasked_spec, trivial⟩ h_disk_Disk_Sync rfl rfl fun x _ _ => by
    skip
    exact bodyG_ok an_Z (zSync_vc) (by kernel_rfl)) rfl rfl rfl

theorem nLose_vc (a0 : List Bool) (a1 : Int) (a2 : Int) :
    ofN 4 = 4 := by
  first | rfl | exact ⟨rfl, rfl, rfl, rfl⟩ | exact ⟨⟨rfl, rfl⟩, rfl, rfl, rfl⟩ | exact ⟨rfl, rfl⟩

theorem zLose_vc (a0 : List Bool) (a1 : Int) (a2 : Int) :
    ofN 4 = 4 ∧ false = false ∧ false = false ∧ ofN 0 = 0 := by
  first | rfl | exact ⟨rfl, rfl, rfl, rfl⟩ | exact ⟨⟨rfl, rfl⟩, rfl, rfl, rfl⟩ | exact ⟨rfl, rfl⟩

theorem oLose_spec : Vse.Spec P f_disk_Disk_Lose c_oLose := spec_or
  (spec_gn (l := [(f_disk_Disk_asked, c_oasked)]) ⟨oasked_spec, trivial⟩ h_disk_Disk_Lose rfl rfl fun x _ _ => by
    obtain ⟨a0, a1, a2, _⟩ := x
    exact bodyG_ok an_N (nLose_vc a0 a1 a2) (by kernel_rfl))
  (spec_gz (l := [(f_disk_Disk_asked, c_oasked)]) ⟨oasked_spec, trivial⟩ h_disk_Disk_Lose rfl rfl fun x _ _ => by
    obtain ⟨a0, a1, a2, _⟩ := x
    exact bodyG_ok an_Z (zLose_vc a0 a1 a2) (by kernel_rfl)) rfl rfl rfl

theorem nRot_vc (a0 : Int) (a1 : Int) (a2 : BitVec 8) :
    ofN 4 = 4 := by
  first | rfl | exact ⟨rfl, rfl, rfl, rfl⟩ | exact ⟨⟨rfl, rfl⟩, rfl, rfl, rfl⟩ | exact ⟨rfl, rfl⟩

theorem zRot_vc (a0 : Int) (a1 : Int) (a2 : BitVec 8) :
    ofN 4 = 4 ∧ false = false ∧ false = false ∧ ofN 0 = 0 := by
  first | rfl | exact ⟨rfl, rfl, rfl, rfl⟩ | exact ⟨⟨rfl, rfl⟩, rfl, rfl, rfl⟩ | exact ⟨rfl, rfl⟩

theorem oRot_spec : Vse.Spec P f_disk_Disk_Rot c_oRot := spec_or
  (spec_gn (l := [(f_disk_Disk_at, c_oat)]) ⟨oat_spec, trivial⟩ h_disk_Disk_Rot rfl rfl fun x _ _ => by
    obtain ⟨a0, a1, a2, _⟩ := x
    exact bodyG_ok an_N (nRot_vc a0 a1 a2) (by kernel_rfl))
  (spec_gz (l := [(f_disk_Disk_at, c_oat)]) ⟨oat_spec, trivial⟩ h_disk_Disk_Rot rfl rfl fun x _ _ => by
    obtain ⟨a0, a1, a2, _⟩ := x
    exact bodyG_ok an_Z (zRot_vc a0 a1 a2) (by kernel_rfl)) rfl rfl rfl

theorem nFuse_vc (a0 : Int) :
    ofN 4 = 4 := by
  first | rfl | exact ⟨rfl, rfl, rfl, rfl⟩ | exact ⟨⟨rfl, rfl⟩, rfl, rfl, rfl⟩ | exact ⟨rfl, rfl⟩

theorem zFuse_vc (a0 : Int) :
    ofN 4 = 4 ∧ false = false ∧ false = false ∧ ofN 0 = 0 := by
  first | rfl | exact ⟨rfl, rfl, rfl, rfl⟩ | exact ⟨⟨rfl, rfl⟩, rfl, rfl, rfl⟩ | exact ⟨rfl, rfl⟩

theorem oFuse_spec : Vse.Spec P f_disk_Disk_Fuse c_oFuse := spec_or
  (spec_gn (l := [(f_disk_Disk_asked, c_oasked)]) ⟨oasked_spec, trivial⟩ h_disk_Disk_Fuse rfl rfl fun x _ _ => by
    obtain ⟨a0, _⟩ := x
    exact bodyG_ok an_N (nFuse_vc a0) (by kernel_rfl))
  (spec_gz (l := [(f_disk_Disk_asked, c_oasked)]) ⟨oasked_spec, trivial⟩ h_disk_Disk_Fuse rfl rfl fun x _ _ => by
    obtain ⟨a0, _⟩ := x
    exact bodyG_ok an_Z (zFuse_vc a0) (by kernel_rfl)) rfl rfl rfl

theorem nBlocks_vc :
    ofN 0 = 0 := by
  first | rfl | exact ⟨rfl, rfl, rfl, rfl⟩ | exact ⟨⟨rfl, rfl⟩, rfl, rfl, rfl⟩ | exact ⟨rfl, rfl⟩

theorem zBlocks_vc :
    ofN 0 = 0 ∧ false = false ∧ false = false ∧ ofN 0 = 0 := by
  first | rfl | exact ⟨rfl, rfl, rfl, rfl⟩ | exact ⟨⟨rfl, rfl⟩, rfl, rfl, rfl⟩ | exact ⟨rfl, rfl⟩

theorem oBlocks_spec : Vse.Spec P f_disk_Disk_Blocks c_oBlocks := spec_or
  (spec_gn (l := [(f_disk_Disk_made, c_omade)]) ⟨omade_spec, trivial⟩ h_disk_Disk_Blocks rfl rfl fun x _ _ => by
    skip
    exact bodyG_ok an_N (nBlocks_vc) (by kernel_rfl))
  (spec_gz (l := [(f_disk_Disk_made, c_omade)]) ⟨omade_spec, trivial⟩ h_disk_Disk_Blocks rfl rfl fun x _ _ => by
    skip
    exact bodyG_ok an_Z (zBlocks_vc) (by kernel_rfl)) rfl rfl rfl

theorem nOpen_vc :
    ofN 0 = 0 := by
  first | rfl | exact ⟨rfl, rfl, rfl, rfl⟩ | exact ⟨⟨rfl, rfl⟩, rfl, rfl, rfl⟩ | exact ⟨rfl, rfl⟩

theorem zOpen_vc :
    ofN 0 = 0 ∧ false = false ∧ false = false ∧ ofN 0 = 0 := by
  first | rfl | exact ⟨rfl, rfl, rfl, rfl⟩ | exact ⟨⟨rfl, rfl⟩, rfl, rfl, rfl⟩ | exact ⟨rfl, rfl⟩

theorem oOpen_spec : Vse.Spec P f_disk_Disk_Open c_oOpen := spec_or
  (spec_gn (l := [(f_disk_Disk_made, c_omade)]) ⟨omade_spec, trivial⟩ h_disk_Disk_Open rfl rfl fun x _ _ => by
    skip
    exact bodyG_ok an_N (nOpen_vc) (by kernel_rfl))
  (spec_gz (l := [(f_disk_Disk_made, c_omade)]) ⟨omade_spec, trivial⟩ h_disk_Disk_Open rfl rfl fun x _ _ => by
    skip
    exact bodyG_ok an_Z (zOpen_vc) (by kernel_rfl)) rfl rfl rfl

theorem nDown_vc :
    false = false := by
  first | rfl | exact ⟨rfl, rfl, rfl, rfl⟩ | exact ⟨⟨rfl, rfl⟩, rfl, rfl, rfl⟩ | exact ⟨rfl, rfl⟩

theorem zDown_vc :
    false = false ∧ false = false ∧ false = false ∧ ofN 0 = 0 := by
  first | rfl | exact ⟨rfl, rfl, rfl, rfl⟩ | exact ⟨⟨rfl, rfl⟩, rfl, rfl, rfl⟩ | exact ⟨rfl, rfl⟩

theorem oDown_spec : Vse.Spec P f_disk_Disk_Down c_oDown := spec_or
  (spec_gn (l := [(f_disk_Disk_made, c_omade)]) ⟨omade_spec, trivial⟩ h_disk_Disk_Down rfl rfl fun x _ _ => by
    skip
    exact bodyG_ok an_N (nDown_vc) (by kernel_rfl))
  (spec_gz (l := [(f_disk_Disk_made, c_omade)]) ⟨omade_spec, trivial⟩ h_disk_Disk_Down rfl rfl fun x _ _ => by
    skip
    exact bodyG_ok an_Z (zDown_vc) (by kernel_rfl)) rfl rfl rfl

def an_Nb : Ann := { at_ := fun _ _ => none, prune := 2, unroll := [3], rows := [STRIDE * 3] }

theorem law9_DiskNobody_vc (kind i at_ torn : Int) (mask : BitVec 8) (b : List (BitVec 8)) (keep : List Bool) :
    within 0 2 ∧
      (false = false → inI64 (ofN (List.length (nilOf (BitVec 8))) + 0)) ∧
        (false = false → inI64 (ofN (List.length (nilOf (BitVec 8))) + 0 + 0)) ∧
          (false = false → inI64 (ofN (List.length (nilOf (BitVec 8))) + 0 + 0 + 0)) ∧
            inI64 1 ∧
              within 1 2 ∧
                false = false ∧
                  false = false ∧
                    (false = false → inI64 (ofN (List.length (nilOf (BitVec 8))) + 0)) ∧
                      false = false ∧
                        (false = false → inI64 (ofN (List.length (nilOf (BitVec 8))) + 0 + 0)) ∧
                          false = false ∧ (false = false → inI64 (ofN (List.length (nilOf (BitVec 8))) + 0 + 0 + 0)) ∧ false = false ∧ inI64 2 ∧ true = true := by
  refine ⟨⟨by decide, by decide⟩, fun _ => ?_, fun _ => ?_, fun _ => ?_, ?_, ⟨by decide, by decide⟩, rfl, rfl, fun _ => ?_, rfl, fun _ => ?_, rfl, fun _ => ?_, rfl, ?_, rfl⟩ <;> exact ⟨by decide, by decide⟩

theorem law9_DiskNobody_spec : Vse.Spec P f_law09_DiskNobody (c_lw [T_Op]) := spec_fn (l := [(f_disk_Disk_Read, c_oRead), (f_disk_Disk_Write, c_oWrite), (f_disk_Disk_Sync, c_oSync), (f_disk_Disk_Lose, c_oLose), (f_disk_Disk_Rot, c_oRot), (f_disk_Disk_Fuse, c_oFuse), (f_disk_Disk_Blocks, c_oBlocks), (f_disk_Disk_Open, c_oOpen), (f_disk_Disk_Down, c_oDown), (f_law09_alive, c_alive)]) ⟨oRead_spec, oWrite_spec, oSync_spec, oLose_spec, oRot_spec, oFuse_spec, oBlocks_spec, oOpen_spec, oDown_spec, law9_alive_spec, trivial⟩ h_law09_DiskNobody rfl rfl fun x _ _ => by
  obtain ⟨⟨kind, i, at_, torn, mask, b, keep⟩, _⟩ := x
  exact body_ok an_Nb (law9_DiskNobody_vc kind i at_ torn mask b keep) (by kernel_rfl)

end Go.Sal
