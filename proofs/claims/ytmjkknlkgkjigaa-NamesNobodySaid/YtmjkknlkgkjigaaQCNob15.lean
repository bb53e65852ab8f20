/- What nobody made: every method, asked of the nil pointer and of the struct of zeros. -/
import Derived.Test.YtmjkknlkgkjigaaQCLaw15
set_option maxRecDepth 100000
namespace Go.Sal
open Go.Vse Go.Sal.Nm

def x_z15 : List SC := [.run (.one (.cst (.map none)))]
def an_N15 : Ann := { at_ := fun _ _ => none, pins := [], prune := 2, rows := [STRIDE * 3] }
def an_Z15 : Ann := { at_ := fun _ _ => none, pins := [1], prune := 2, rows := [STRIDE * 3] }

def c_n15made : PC := gN [] fun _ => ⟨none, .sv (.dv (.bool false)), []⟩
def c_z15made : PC := gZ x_z15 [] fun _ => ⟨none, .sv (.dv (.bool false)), [(1, .cells x_z15 false)]⟩
def c_o15made : PC := orG c_n15made c_z15made

def c_n15May : PC := gN [T_Rec] fun _ => ⟨none, .sv (.dv (.i64 4)), []⟩
def c_z15May : PC := gZ x_z15 [T_Rec] fun _ => ⟨none, .sv (.dv (.i64 4)), [(1, .cells x_z15 false)]⟩
def c_o15May : PC := orG c_n15May c_z15May

def c_n15Apply : PC := gN [T_Rec] fun _ => ⟨none, .sv (.dv (.i64 4)), []⟩
def c_z15Apply : PC := gZ x_z15 [T_Rec] fun _ => ⟨none, .sv (.dv (.i64 4)), [(1, .cells x_z15 false)]⟩
def c_o15Apply : PC := orG c_n15Apply c_z15Apply

def c_n15Stat : PC := gN [.str] fun _ => ⟨none, .tup [svOfT T_File T_File.dflt, .dv (.i64 4)], []⟩
def c_z15Stat : PC := gZ x_z15 [.str] fun _ => ⟨none, .tup [svOfT T_File T_File.dflt, .dv (.i64 4)], [(1, .cells x_z15 false)]⟩
def c_o15Stat : PC := orG c_n15Stat c_z15Stat

def c_n15Seek : PC := gN [.str, .i64, .i64] fun _ => ⟨none, .tup [.dv (.imm T_Part []), .dv (.i64 4)], []⟩
def c_z15Seek : PC := gZ x_z15 [.str, .i64, .i64] fun _ => ⟨none, .tup [.dv (.imm T_Part []), .dv (.i64 4)], [(1, .cells x_z15 false)]⟩
def c_o15Seek : PC := orG c_n15Seek c_z15Seek

def c_n15List : PC := gN [.str] fun _ => ⟨none, .sv (.dv (.imm T_File [])), []⟩
def c_z15List : PC := gZ x_z15 [.str] fun _ => ⟨none, .sv (.dv (.imm T_File [])), [(1, .cells x_z15 false)]⟩
def c_o15List : PC := orG c_n15List c_z15List

def c_n15Digests : PC := gN [] fun _ => ⟨none, .sv (.dv (.imm T_Dig [])), []⟩
def c_z15Digests : PC := gZ x_z15 [] fun _ => ⟨none, .sv (.dv (.imm T_Dig [])), [(1, .cells x_z15 false)]⟩
def c_o15Digests : PC := orG c_n15Digests c_z15Digests

def c_n15Copy : PC := gN [] fun _ => ⟨none, .sv (.dv (.cst (.pointer none))), []⟩
def c_z15Copy : PC := gZ x_z15 [] fun _ => ⟨none, .sv (.dv (.cst (.pointer none))), [(1, .cells x_z15 false)]⟩
def c_o15Copy : PC := orG c_n15Copy c_z15Copy

theorem n15made_vc :
    false = false := by
  repeat' first | rfl | trivial | apply And.intro

theorem z15made_vc :
    false = false := by
  repeat' first | rfl | trivial | apply And.intro

theorem o15made_spec : Vse.Spec P f_names_Names_made c_o15made := spec_or
  (spec_gn (l := []) trivial h_names_Names_made rfl rfl fun x _ _ => by
    skip
    exact bodyG_ok an_N15 (n15made_vc) (by kernel_rfl))
  (spec_gz (l := []) trivial h_names_Names_made rfl rfl fun x _ _ => by
    skip
    exact bodyG_ok an_Z15 (z15made_vc) (by kernel_rfl)) rfl rfl rfl

theorem n15May_vc (a0 : Rec) :
    ofN 4 = 4 := by
  repeat' first | rfl | trivial | apply And.intro

theorem z15May_vc (a0 : Rec) :
    ofN 4 = 4 := by
  repeat' first | rfl | trivial | apply And.intro

theorem o15May_spec : Vse.Spec P f_names_Names_May c_o15May := spec_or
  (spec_gn (l := [(f_names_Names_made, c_o15made)]) ⟨o15made_spec, trivial⟩ h_names_Names_May rfl rfl fun x _ _ => by
    obtain ⟨a0, _⟩ := x
    exact bodyG_ok an_N15 (n15May_vc a0) (by kernel_rfl))
  (spec_gz (l := [(f_names_Names_made, c_o15made)]) ⟨o15made_spec, trivial⟩ h_names_Names_May rfl rfl fun x _ _ => by
    obtain ⟨a0, _⟩ := x
    exact bodyG_ok an_Z15 (z15May_vc a0) (by kernel_rfl)) rfl rfl rfl

theorem n15Apply_vc (a0 : Rec) :
    ofN 4 = 4 := by
  repeat' first | rfl | trivial | apply And.intro

theorem z15Apply_vc (a0 : Rec) :
    ofN 4 = 4 := by
  repeat' first | rfl | trivial | apply And.intro

theorem o15Apply_spec : Vse.Spec P f_names_Names_Apply c_o15Apply := spec_or
  (spec_gn (l := [(f_names_Names_May, c_o15May)]) ⟨o15May_spec, trivial⟩ h_names_Names_Apply rfl rfl fun x _ _ => by
    obtain ⟨a0, _⟩ := x
    exact bodyG_ok an_N15 (n15Apply_vc a0) (by kernel_rfl))
  (spec_gz (l := [(f_names_Names_May, c_o15May)]) ⟨o15May_spec, trivial⟩ h_names_Names_Apply rfl rfl fun x _ _ => by
    obtain ⟨a0, _⟩ := x
    exact bodyG_ok an_Z15 (z15Apply_vc a0) (by kernel_rfl)) rfl rfl rfl

theorem n15Stat_vc (a0 : List (BitVec 8)) :
    (nilOf (BitVec 8) = (T.dflt (T.pair T.str (T.pair T.i64 (T.pair T.i64 (T.slc (T.pair (T.arr 32 T.u8) T.i64)))))).1 ∧
        0 = (T.dflt (T.pair T.str (T.pair T.i64 (T.pair T.i64 (T.slc (T.pair (T.arr 32 T.u8) T.i64)))))).2.1 ∧
          0 = (T.dflt (T.pair T.str (T.pair T.i64 (T.pair T.i64 (T.slc (T.pair (T.arr 32 T.u8) T.i64)))))).2.2.1 ∧
            nilOf (List (BitVec 8) × Int) = (T.dflt (T.pair T.str (T.pair T.i64 (T.pair T.i64 (T.slc (T.pair (T.arr 32 T.u8) T.i64)))))).2.2.2) ∧
      ofN 4 = 4 := by
  repeat' first | rfl | trivial | apply And.intro

theorem z15Stat_vc (a0 : List (BitVec 8)) :
    (nilOf (BitVec 8) = (T.dflt (T.pair T.str (T.pair T.i64 (T.pair T.i64 (T.slc (T.pair (T.arr 32 T.u8) T.i64)))))).1 ∧
        0 = (T.dflt (T.pair T.str (T.pair T.i64 (T.pair T.i64 (T.slc (T.pair (T.arr 32 T.u8) T.i64)))))).2.1 ∧
          0 = (T.dflt (T.pair T.str (T.pair T.i64 (T.pair T.i64 (T.slc (T.pair (T.arr 32 T.u8) T.i64)))))).2.2.1 ∧
            nilOf (List (BitVec 8) × Int) = (T.dflt (T.pair T.str (T.pair T.i64 (T.pair T.i64 (T.slc (T.pair (T.arr 32 T.u8) T.i64)))))).2.2.2) ∧
      ofN 4 = 4 := by
  repeat' first | rfl | trivial | apply And.intro

theorem o15Stat_spec : Vse.Spec P f_names_Names_Stat c_o15Stat := spec_or
  (spec_gn (l := [(f_names_Names_made, c_o15made)]) ⟨o15made_spec, trivial⟩ h_names_Names_Stat rfl rfl fun x _ _ => by
    obtain ⟨a0, _⟩ := x
    exact bodyG_ok an_N15 (n15Stat_vc a0) (by kernel_rfl))
  (spec_gz (l := [(f_names_Names_made, c_o15made)]) ⟨o15made_spec, trivial⟩ h_names_Names_Stat rfl rfl fun x _ _ => by
    obtain ⟨a0, _⟩ := x
    exact bodyG_ok an_Z15 (z15Stat_vc a0) (by kernel_rfl)) rfl rfl rfl

theorem n15Seek_vc (a0 : List (BitVec 8)) (a1 : Int) (a2 : Int) :
    nilOf (List (BitVec 8) × Int × Int × Int) = nilOf (List (BitVec 8) × Int × Int × Int) ∧ ofN 4 = 4 := by
  repeat' first | rfl | trivial | apply And.intro

theorem z15Seek_vc (a0 : List (BitVec 8)) (a1 : Int) (a2 : Int) :
    nilOf (List (BitVec 8) × Int × Int × Int) = nilOf (List (BitVec 8) × Int × Int × Int) ∧ ofN 4 = 4 := by
  repeat' first | rfl | trivial | apply And.intro

theorem o15Seek_spec : Vse.Spec P f_names_Names_Seek c_o15Seek := spec_or
  (spec_gn (l := [(f_names_Names_Stat, c_o15Stat)]) ⟨o15Stat_spec, trivial⟩ h_names_Names_Seek rfl rfl fun x _ _ => by
    obtain ⟨a0, a1, a2, _⟩ := x
    exact bodyG_ok an_N15 (n15Seek_vc a0 a1 a2) (by kernel_rfl))
  (spec_gz (l := [(f_names_Names_Stat, c_o15Stat)]) ⟨o15Stat_spec, trivial⟩ h_names_Names_Seek rfl rfl fun x _ _ => by
    obtain ⟨a0, a1, a2, _⟩ := x
    exact bodyG_ok an_Z15 (z15Seek_vc a0 a1 a2) (by kernel_rfl)) rfl rfl rfl

theorem n15List_vc (a0 : List (BitVec 8)) :
    nilOf (List (BitVec 8) × Int × Int × List (List (BitVec 8) × Int)) = nilOf (List (BitVec 8) × Int × Int × List (List (BitVec 8) × Int)) := by
  repeat' first | rfl | trivial | apply And.intro

theorem z15List_vc (a0 : List (BitVec 8)) :
    nilOf (List (BitVec 8) × Int × Int × List (List (BitVec 8) × Int)) = nilOf (List (BitVec 8) × Int × Int × List (List (BitVec 8) × Int)) := by
  repeat' first | rfl | trivial | apply And.intro

theorem o15List_spec : Vse.Spec P f_names_Names_List c_o15List := spec_or
  (spec_gn (l := [(f_names_Names_made, c_o15made)]) ⟨o15made_spec, trivial⟩ h_names_Names_List rfl rfl fun x _ _ => by
    obtain ⟨a0, _⟩ := x
    exact bodyG_ok an_N15 (n15List_vc a0) (by kernel_rfl))
  (spec_gz (l := [(f_names_Names_made, c_o15made)]) ⟨o15made_spec, trivial⟩ h_names_Names_List rfl rfl fun x _ _ => by
    obtain ⟨a0, _⟩ := x
    exact bodyG_ok an_Z15 (z15List_vc a0) (by kernel_rfl)) rfl rfl rfl

theorem n15Digests_vc :
    nilOf (List (BitVec 8)) = nilOf (List (BitVec 8)) := by
  repeat' first | rfl | trivial | apply And.intro

theorem z15Digests_vc :
    nilOf (List (BitVec 8)) = nilOf (List (BitVec 8)) := by
  repeat' first | rfl | trivial | apply And.intro

theorem o15Digests_spec : Vse.Spec P f_names_Names_Digests c_o15Digests := spec_or
  (spec_gn (l := [(f_names_Names_made, c_o15made)]) ⟨o15made_spec, trivial⟩ h_names_Names_Digests rfl rfl fun x _ _ => by
    skip
    exact bodyG_ok an_N15 (n15Digests_vc) (by kernel_rfl))
  (spec_gz (l := [(f_names_Names_made, c_o15made)]) ⟨o15made_spec, trivial⟩ h_names_Names_Digests rfl rfl fun x _ _ => by
    skip
    exact bodyG_ok an_Z15 (z15Digests_vc) (by kernel_rfl)) rfl rfl rfl

theorem n15Copy_vc :
    True := by
  repeat' first | rfl | trivial | apply And.intro

theorem z15Copy_vc :
    True := by
  repeat' first | rfl | trivial | apply And.intro

theorem o15Copy_spec : Vse.Spec P f_names_Names_Copy c_o15Copy := spec_or
  (spec_gn (l := [(f_names_Names_made, c_o15made)]) ⟨o15made_spec, trivial⟩ h_names_Names_Copy rfl rfl fun x _ _ => by
    skip
    exact bodyG_ok an_N15 (n15Copy_vc) (by kernel_rfl))
  (spec_gz (l := [(f_names_Names_made, c_o15made)]) ⟨o15made_spec, trivial⟩ h_names_Names_Copy rfl rfl fun x _ _ => by
    skip
    exact bodyG_ok an_Z15 (z15Copy_vc) (by kernel_rfl)) rfl rfl rfl

def an_Nb15 : Ann := { at_ := fun _ _ => none, prune := 2, unroll := [3], rows := [STRIDE * 3] }

theorem law15_NamesNobody_vc (r : Rec) (path : List (BitVec 8)) :
    within 0 2 ∧
      (false = false → inI64 (ofN (List.length (nilOf (List (BitVec 8) × Int × Int × Int))) + ofN (List.length (nilOf (List (BitVec 8) × Int × Int × List (List (BitVec 8) × Int)))))) ∧
        (false = false →
            inI64
              (ofN (List.length (nilOf (List (BitVec 8) × Int × Int × Int))) + ofN (List.length (nilOf (List (BitVec 8) × Int × Int × List (List (BitVec 8) × Int)))) +
                ofN (List.length (nilOf (List (BitVec 8)))))) ∧
          inI64 1 ∧
            within 1 2 ∧
              false = false ∧
                false = false ∧
                  (false = false → inI64 (ofN (List.length (nilOf (List (BitVec 8) × Int × Int × Int))) + ofN (List.length (nilOf (List (BitVec 8) × Int × Int × List (List (BitVec 8) × Int)))))) ∧
                    false = false ∧
                      (false = false →
                          inI64
                            (ofN (List.length (nilOf (List (BitVec 8) × Int × Int × Int))) + ofN (List.length (nilOf (List (BitVec 8) × Int × Int × List (List (BitVec 8) × Int)))) +
                              ofN (List.length (nilOf (List (BitVec 8)))))) ∧
                        false = false ∧ inI64 2 ∧ true = true := by
  refine ⟨⟨by decide, by decide⟩, fun _ => ?_, fun _ => ?_, ?_, ⟨by decide, by decide⟩, rfl, rfl, fun _ => ?_, rfl, fun _ => ?_, rfl, ?_, rfl⟩ <;> exact ⟨by decide, by decide⟩

theorem law15_NamesNobody_spec : Vse.Spec P f_law15_NamesNobody (c_lw15 [T_Rec, .str]) := spec_fn (l := [(f_names_Names_May, c_o15May), (f_names_Names_Apply, c_o15Apply), (f_names_Names_Stat, c_o15Stat), (f_names_Names_Seek, c_o15Seek), (f_names_Names_List, c_o15List), (f_names_Names_Digests, c_o15Digests), (f_names_Names_Copy, c_o15Copy), (f_law15_alive, c_nAlive)]) ⟨o15May_spec, o15Apply_spec, o15Stat_spec, o15Seek_spec, o15List_spec, o15Digests_spec, o15Copy_spec, law15_alive_spec, trivial⟩ h_law15_NamesNobody rfl rfl fun x _ _ => by
  obtain ⟨r, path, _⟩ := x
  exact body_ok an_Nb15 (law15_NamesNobody_vc r path) (by kernel_rfl)

end Go.Sal
