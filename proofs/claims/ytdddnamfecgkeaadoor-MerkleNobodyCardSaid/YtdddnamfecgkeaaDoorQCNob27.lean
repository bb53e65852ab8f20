/- What nobody made: every method, asked of the nil pointer and of the struct of zeros. -/
import Derived.Test.YtdddnamfecgkeaaDoorQCEnd27
import Derived.Test.YtdddnamfecgkeaaDoorQVseObj
set_option maxRecDepth 100000
namespace Go.Sal
open Go.Vse Go.Sal.Nm

def x_z27 : List SC := [.run (.one (.i64 0)), .run (.one (.nils T_Dig)), .run (.one (.bool false))]
def an_N27 : Ann := { at_ := fun _ _ => none, pins := [], prune := 2, rows := [STRIDE * 3] }
def an_Z27 : Ann := { at_ := fun _ _ => none, pins := [1], prune := 2, rows := [STRIDE * 3] }

def c_n27is : PC := gN [] fun _ => ⟨none, .sv (.dv (.bool false)), []⟩
def c_z27is : PC := gZ x_z27 [] fun _ => ⟨none, .sv (.dv (.bool false)), [(1, .cells x_z27 false)]⟩
def c_o27is : PC := orG c_n27is c_z27is

def c_n27Push : PC := gN [T_Dig] fun _ => ⟨none, .sv (.dv (.i64 4)), []⟩
def c_z27Push : PC := gZ x_z27 [T_Dig] fun _ => ⟨none, .sv (.dv (.i64 4)), [(1, .cells x_z27 false)]⟩
def c_o27Push : PC := orG c_n27Push c_z27Push

def c_n27Len : PC := gN [] fun _ => ⟨none, .sv (.dv (.i64 0)), []⟩
def c_z27Len : PC := gZ x_z27 [] fun _ => ⟨none, .sv (.dv (.i64 0)), [(1, .cells x_z27 false)]⟩
def c_o27Len : PC := orG c_n27Len c_z27Len

def c_n27Peaks : PC := gN [] fun _ => ⟨none, .sv (.dv (.imm T_Dig [])), []⟩
def c_z27Peaks : PC := gZ x_z27 [] fun _ => ⟨none, .sv (.dv (.imm T_Dig [])), [(1, .cells x_z27 false)]⟩
def c_o27Peaks : PC := orG c_n27Peaks c_z27Peaks

def c_n27Root : PC := gN [] fun _ => ⟨none, .tup [svOfT T_Dig T_Dig.dflt, .dv (.i64 4)], []⟩
def c_z27Root : PC := gZ x_z27 [] fun _ => ⟨none, .tup [svOfT T_Dig T_Dig.dflt, .dv (.i64 4)], [(1, .cells x_z27 false)]⟩
def c_o27Root : PC := orG c_n27Root c_z27Root

theorem n27is_vc :
    false = false := by
  repeat' first | rfl | trivial | apply And.intro

theorem z27is_vc :
    false = false ∧ ofN 0 = 0 ∧ false = false := by
  repeat' first | rfl | trivial | apply And.intro

theorem o27is_spec : Vse.Spec P f_merkle_Tree_is c_o27is := spec_or
  (spec_gn (l := []) trivial h_merkle_Tree_is rfl rfl fun x _ _ => by
    skip
    exact bodyG_ok an_N27 (n27is_vc) (by kernel_rfl))
  (spec_gz (l := []) trivial h_merkle_Tree_is rfl rfl fun x _ _ => by
    skip
    exact bodyG_ok an_Z27 (z27is_vc) (by kernel_rfl)) rfl rfl rfl

theorem n27Push_vc (a0 : Dig) :
    ofN 4 = 4 := by
  repeat' first | rfl | trivial | apply And.intro

theorem z27Push_vc (a0 : Dig) :
    ofN 4 = 4 ∧ ofN 0 = 0 ∧ false = false := by
  repeat' first | rfl | trivial | apply And.intro

theorem o27Push_spec : Vse.Spec P f_merkle_Tree_Push c_o27Push := spec_or
  (spec_gn (l := [(f_merkle_Tree_is, c_o27is)]) ⟨o27is_spec, trivial⟩ h_merkle_Tree_Push rfl rfl fun x _ _ => by
    obtain ⟨a0, _⟩ := x
    exact bodyG_ok an_N27 (n27Push_vc a0) (by kernel_rfl))
  (spec_gz (l := [(f_merkle_Tree_is, c_o27is)]) ⟨o27is_spec, trivial⟩ h_merkle_Tree_Push rfl rfl fun x _ _ => by
    obtain ⟨a0, _⟩ := x
    exact bodyG_ok an_Z27 (z27Push_vc a0) (by kernel_rfl)) rfl rfl rfl

theorem n27Len_vc :
    ofN 0 = 0 := by
  repeat' first | rfl | trivial | apply And.intro

theorem z27Len_vc :
    ofN 0 = 0 ∧ ofN 0 = 0 ∧ false = false := by
  repeat' first | rfl | trivial | apply And.intro

theorem o27Len_spec : Vse.Spec P f_merkle_Tree_Len c_o27Len := spec_or
  (spec_gn (l := [(f_merkle_Tree_is, c_o27is)]) ⟨o27is_spec, trivial⟩ h_merkle_Tree_Len rfl rfl fun x _ _ => by
    skip
    exact bodyG_ok an_N27 (n27Len_vc) (by kernel_rfl))
  (spec_gz (l := [(f_merkle_Tree_is, c_o27is)]) ⟨o27is_spec, trivial⟩ h_merkle_Tree_Len rfl rfl fun x _ _ => by
    skip
    exact bodyG_ok an_Z27 (z27Len_vc) (by kernel_rfl)) rfl rfl rfl

theorem n27Peaks_vc :
    nilOf (List (BitVec 8)) = nilOf (List (BitVec 8)) := by
  repeat' first | rfl | trivial | apply And.intro

theorem z27Peaks_vc :
    nilOf (List (BitVec 8)) = nilOf (List (BitVec 8)) ∧ ofN 0 = 0 ∧ false = false := by
  repeat' first | rfl | trivial | apply And.intro

theorem o27Peaks_spec : Vse.Spec P f_merkle_Tree_Peaks c_o27Peaks := spec_or
  (spec_gn (l := [(f_merkle_Tree_is, c_o27is)]) ⟨o27is_spec, trivial⟩ h_merkle_Tree_Peaks rfl rfl fun x _ _ => by
    skip
    exact bodyG_ok an_N27 (n27Peaks_vc) (by kernel_rfl))
  (spec_gz (l := [(f_merkle_Tree_is, c_o27is)]) ⟨o27is_spec, trivial⟩ h_merkle_Tree_Peaks rfl rfl fun x _ _ => by
    skip
    exact bodyG_ok an_Z27 (z27Peaks_vc) (by kernel_rfl)) rfl rfl rfl

theorem n27Root_vc :
    List.replicate 32 0#8 = T.dflt (T.arr 32 T.u8) ∧ ofN 4 = 4 := by
  repeat' first | rfl | trivial | apply And.intro

theorem z27Root_vc :
    (List.replicate 32 0#8 = T.dflt (T.arr 32 T.u8) ∧ ofN 4 = 4) ∧ ofN 0 = 0 ∧ false = false := by
  repeat' first | rfl | trivial | apply And.intro

theorem o27Root_spec : Vse.Spec P f_merkle_Tree_Root c_o27Root := spec_or
  (spec_gn (l := [(f_merkle_Tree_is, c_o27is)]) ⟨o27is_spec, trivial⟩ h_merkle_Tree_Root rfl rfl fun x _ _ => by
    skip
    exact bodyG_ok an_N27 (n27Root_vc) (by kernel_rfl))
  (spec_gz (l := [(f_merkle_Tree_is, c_o27is)]) ⟨o27is_spec, trivial⟩ h_merkle_Tree_Root rfl rfl fun x _ _ => by
    skip
    exact bodyG_ok an_Z27 (z27Root_vc) (by kernel_rfl)) rfl rfl rfl

def an_Nb27 : Ann := { at_ := fun _ _ => none, prune := 2, unroll := [3], rows := [STRIDE * 3] }

theorem law27_MerkleNobody_vc (d : Dig) :
    within 0 2 ∧ inI64 1 ∧ within 1 2 ∧ false = false ∧ false = false ∧ false = false ∧ inI64 2 ∧ true = true := by
  repeat' first | rfl | decide | apply And.intro | intro _

theorem law27_MerkleNobody_spec : Vse.Spec P f_law27_MerkleNobody (c_law27 [T_Dig]) := spec_fn (l := [(f_merkle_Tree_Push, c_o27Push), (f_merkle_Tree_Len, c_o27Len), (f_merkle_Tree_Peaks, c_o27Peaks), (f_merkle_Tree_Root, c_o27Root), (f_law27_alive, c_true27)]) ⟨o27Push_spec, o27Len_spec, o27Peaks_spec, o27Root_spec, law27_alive_spec, trivial⟩ h_law27_MerkleNobody rfl rfl fun x _ _ => by
  obtain ⟨d, _⟩ := x
  exact body_ok an_Nb27 (law27_MerkleNobody_vc d) (by kernel_rfl)

end Go.Sal
