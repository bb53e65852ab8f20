/- What nobody made: every method, asked of the nil pointer and of the struct of zeros. -/
import Derived.Test.YtflcaomdkbnfaaaQCLed4
set_option maxRecDepth 100000
namespace Go.Sal
open Go.Vse Go.Sal.Nm

def c_SameNe : PC := D [T_Noted, T_Noted] [.bool] (fun x => some (eqP x.1 x.2.1)) (fun _ => (true, ()))
def x_z24 : List SC := [.run (.one (.nils T_Noted)), .run (.one (.cst (.map none))), .run (.one (.nils T_Mark)), .run (.one (.i64 0))]
def an_N24 : Ann := { at_ := fun _ _ => none, pins := [], prune := 2, rows := [STRIDE * 3] }
def an_Z24 : Ann := { at_ := fun _ _ => none, pins := [1], prune := 2, rows := [STRIDE * 3] }

def c_n24is : PC := gN [] fun _ => ⟨none, .sv (.dv (.bool false)), []⟩
def c_z24is : PC := gZ x_z24 [] fun _ => ⟨none, .sv (.dv (.bool false)), [(1, .cells x_z24 false)]⟩
def c_o24is : PC := orG c_n24is c_z24is

def c_n24later : PC := gN [.i64] fun _ => ⟨none, .sv (.dv (.i64 4)), []⟩
def c_z24later : PC := gZ x_z24 [.i64] fun _ => ⟨none, .sv (.dv (.i64 4)), [(1, .cells x_z24 false)]⟩
def c_o24later : PC := orG c_n24later c_z24later

def c_n24Note : PC := gN [.i64, T_Deed, T_Shown] fun _ => ⟨none, .sv (.dv (.i64 4)), []⟩
def c_z24Note : PC := gZ x_z24 [.i64, T_Deed, T_Shown] fun _ => ⟨none, .sv (.dv (.i64 4)), [(1, .cells x_z24 false)]⟩
def c_o24Note : PC := orG c_n24Note c_z24Note

def c_n24Tell : PC := gN [T_Told] fun _ => ⟨none, .sv (.dv (.i64 4)), []⟩
def c_z24Tell : PC := gZ x_z24 [T_Told] fun _ => ⟨none, .sv (.dv (.i64 4)), [(1, .cells x_z24 false)]⟩
def c_o24Tell : PC := orG c_n24Tell c_z24Tell

def c_n24Writes : PC := gN [] fun _ => ⟨none, .sv (.dv (.imm T_Noted [])), []⟩
def c_z24Writes : PC := gZ x_z24 [] fun _ => ⟨none, .sv (.dv (.imm T_Noted [])), [(1, .cells x_z24 false)]⟩
def c_o24Writes : PC := orG c_n24Writes c_z24Writes

def c_n24Acked : PC := gN [] fun _ => ⟨none, .sv (.dv (.imm T_Mark [])), []⟩
def c_z24Acked : PC := gZ x_z24 [] fun _ => ⟨none, .sv (.dv (.imm T_Mark [])), [(1, .cells x_z24 false)]⟩
def c_o24Acked : PC := orG c_n24Acked c_z24Acked

def c_n24Last : PC := gN [] fun _ => ⟨none, .tup [svOfT T_Mark T_Mark.dflt, .dv (.bool false)], []⟩
def c_z24Last : PC := gZ x_z24 [] fun _ => ⟨none, .tup [svOfT T_Mark T_Mark.dflt, .dv (.bool false)], [(1, .cells x_z24 false)]⟩
def c_o24Last : PC := orG c_n24Last c_z24Last

def c_n24Of : PC := gN [T_Head] fun _ => ⟨none, .tup [svOfT T_Noted T_Noted.dflt, .dv (.bool false)], []⟩
def c_z24Of : PC := gZ x_z24 [T_Head] fun _ => ⟨none, .tup [svOfT T_Noted T_Noted.dflt, .dv (.bool false)], [(1, .cells x_z24 false)]⟩
def c_o24Of : PC := orG c_n24Of c_z24Of

def c_n24File : PC := gN [.slc T_Rec, .str] fun _ => ⟨none, .tup [.dv (.imm .u8 []), .dv (.bool false)], []⟩
def c_z24File : PC := gZ x_z24 [.slc T_Rec, .str] fun _ => ⟨none, .tup [.dv (.imm .u8 []), .dv (.bool false)], [(1, .cells x_z24 false)]⟩
def c_o24File : PC := orG c_n24File c_z24File

def c_n24Check : PC := gN [T_Cats] fun _ => ⟨none, .sv (.dv (.imm T_Brc [])), []⟩
def c_z24Check : PC := gZ x_z24 [T_Cats] fun _ => ⟨none, .sv (.dv (.imm T_Brc [])), [(1, .cells x_z24 false)]⟩
def c_o24Check : PC := orG c_n24Check c_z24Check

theorem n24is_vc :
    false = false := by
  repeat' first | rfl | trivial | apply And.intro

theorem z24is_vc :
    false = false ∧ ofN 0 = 0 := by
  repeat' first | rfl | trivial | apply And.intro

theorem o24is_spec : Vse.Spec P f_ledger_Ledger_is c_o24is := spec_or
  (spec_gn (l := []) trivial h_ledger_Ledger_is rfl rfl fun x _ _ => by
    skip
    exact bodyG_ok an_N24 (n24is_vc) (by kernel_rfl))
  (spec_gz (l := []) trivial h_ledger_Ledger_is rfl rfl fun x _ _ => by
    skip
    exact bodyG_ok an_Z24 (z24is_vc) (by kernel_rfl)) rfl rfl rfl

theorem n24later_vc (a0 : Int) :
    ofN 4 = 4 := by
  repeat' first | rfl | trivial | apply And.intro

theorem z24later_vc (a0 : Int) :
    ofN 4 = 4 ∧ ofN 0 = 0 := by
  repeat' first | rfl | trivial | apply And.intro

theorem o24later_spec : Vse.Spec P f_ledger_Ledger_later c_o24later := spec_or
  (spec_gn (l := [(f_ledger_Ledger_is, c_o24is)]) ⟨o24is_spec, trivial⟩ h_ledger_Ledger_later rfl rfl fun x _ _ => by
    obtain ⟨a0, _⟩ := x
    exact bodyG_ok an_N24 (n24later_vc a0) (by kernel_rfl))
  (spec_gz (l := [(f_ledger_Ledger_is, c_o24is)]) ⟨o24is_spec, trivial⟩ h_ledger_Ledger_later rfl rfl fun x _ _ => by
    obtain ⟨a0, _⟩ := x
    exact bodyG_ok an_Z24 (z24later_vc a0) (by kernel_rfl)) rfl rfl rfl

theorem n24Note_vc (a0 : Int) (a1 : Deed) (a2 : Shown) :
    ofN 4 = 4 := by
  repeat' first | rfl | trivial | apply And.intro

theorem z24Note_vc (a0 : Int) (a1 : Deed) (a2 : Shown) :
    ofN 4 = 4 ∧ ofN 0 = 0 := by
  repeat' first | rfl | trivial | apply And.intro

theorem o24Note_spec : Vse.Spec P f_ledger_Ledger_Note c_o24Note := spec_or
  (spec_gn (l := [(f_ledger_Ledger_later, c_o24later)]) ⟨o24later_spec, trivial⟩ h_ledger_Ledger_Note rfl rfl fun x _ _ => by
    obtain ⟨a0, a1, a2, _⟩ := x
    exact bodyG_ok an_N24 (n24Note_vc a0 a1 a2) (by kernel_rfl))
  (spec_gz (l := [(f_ledger_Ledger_later, c_o24later)]) ⟨o24later_spec, trivial⟩ h_ledger_Ledger_Note rfl rfl fun x _ _ => by
    obtain ⟨a0, a1, a2, _⟩ := x
    exact bodyG_ok an_Z24 (z24Note_vc a0 a1 a2) (by kernel_rfl)) rfl rfl rfl

theorem n24Tell_vc (a0 : Told) :
    ofN 4 = 4 := by
  repeat' first | rfl | trivial | apply And.intro

theorem z24Tell_vc (a0 : Told) :
    ofN 4 = 4 ∧ ofN 0 = 0 := by
  repeat' first | rfl | trivial | apply And.intro

theorem o24Tell_spec : Vse.Spec P f_ledger_Ledger_Tell c_o24Tell := spec_or
  (spec_gn (l := [(f_ledger_Ledger_later, c_o24later)]) ⟨o24later_spec, trivial⟩ h_ledger_Ledger_Tell rfl rfl fun x _ _ => by
    obtain ⟨a0, _⟩ := x
    exact bodyG_ok an_N24 (n24Tell_vc a0) (by kernel_rfl))
  (spec_gz (l := [(f_ledger_Ledger_later, c_o24later)]) ⟨o24later_spec, trivial⟩ h_ledger_Ledger_Tell rfl rfl fun x _ _ => by
    obtain ⟨a0, _⟩ := x
    exact bodyG_ok an_Z24 (z24Tell_vc a0) (by kernel_rfl)) rfl rfl rfl

theorem n24Writes_vc :
    nilOf (Int × Int × Int × Int × List (BitVec 8) × List (BitVec 8) × List (BitVec 8) × Bool) = nilOf (Int × Int × Int × Int × List (BitVec 8) × List (BitVec 8) × List (BitVec 8) × Bool) := by
  repeat' first | rfl | trivial | apply And.intro

theorem z24Writes_vc :
    nilOf (Int × Int × Int × Int × List (BitVec 8) × List (BitVec 8) × List (BitVec 8) × Bool) = nilOf (Int × Int × Int × Int × List (BitVec 8) × List (BitVec 8) × List (BitVec 8) × Bool) ∧ ofN 0 = 0 := by
  repeat' first | rfl | trivial | apply And.intro

theorem o24Writes_spec : Vse.Spec P f_ledger_Ledger_Writes c_o24Writes := spec_or
  (spec_gn (l := [(f_ledger_Ledger_is, c_o24is)]) ⟨o24is_spec, trivial⟩ h_ledger_Ledger_Writes rfl rfl fun x _ _ => by
    skip
    exact bodyG_ok an_N24 (n24Writes_vc) (by kernel_rfl))
  (spec_gz (l := [(f_ledger_Ledger_is, c_o24is)]) ⟨o24is_spec, trivial⟩ h_ledger_Ledger_Writes rfl rfl fun x _ _ => by
    skip
    exact bodyG_ok an_Z24 (z24Writes_vc) (by kernel_rfl)) rfl rfl rfl

theorem n24Acked_vc :
    nilOf (Int × Int × Int × List (BitVec 8) × List (BitVec 8)) = nilOf (Int × Int × Int × List (BitVec 8) × List (BitVec 8)) := by
  repeat' first | rfl | trivial | apply And.intro

theorem z24Acked_vc :
    nilOf (Int × Int × Int × List (BitVec 8) × List (BitVec 8)) = nilOf (Int × Int × Int × List (BitVec 8) × List (BitVec 8)) ∧ ofN 0 = 0 := by
  repeat' first | rfl | trivial | apply And.intro

theorem o24Acked_spec : Vse.Spec P f_ledger_Ledger_Acked c_o24Acked := spec_or
  (spec_gn (l := [(f_ledger_Ledger_is, c_o24is)]) ⟨o24is_spec, trivial⟩ h_ledger_Ledger_Acked rfl rfl fun x _ _ => by
    skip
    exact bodyG_ok an_N24 (n24Acked_vc) (by kernel_rfl))
  (spec_gz (l := [(f_ledger_Ledger_is, c_o24is)]) ⟨o24is_spec, trivial⟩ h_ledger_Ledger_Acked rfl rfl fun x _ _ => by
    skip
    exact bodyG_ok an_Z24 (z24Acked_vc) (by kernel_rfl)) rfl rfl rfl

theorem n24Last_vc :
    (0 = (T.dflt T_Mark).1 ∧
      0 = (T.dflt T_Mark).2.1 ∧
      0 = (T.dflt T_Mark).2.2.1 ∧
      List.replicate 32 0#8 = (T.dflt T_Mark).2.2.2.1 ∧
      List.replicate 32 0#8 = (T.dflt T_Mark).2.2.2.2) ∧
      false = false := by
  repeat' first | rfl | trivial | apply And.intro

theorem z24Last_vc :
    ((0 = (T.dflt T_Mark).1 ∧
      0 = (T.dflt T_Mark).2.1 ∧
      0 = (T.dflt T_Mark).2.2.1 ∧
      List.replicate 32 0#8 = (T.dflt T_Mark).2.2.2.1 ∧
      List.replicate 32 0#8 = (T.dflt T_Mark).2.2.2.2) ∧
      false = false) ∧
      ofN 0 = 0 := by
  repeat' first | rfl | trivial | apply And.intro

theorem o24Last_spec : Vse.Spec P f_ledger_Ledger_Last c_o24Last := spec_or
  (spec_gn (l := [(f_ledger_Ledger_is, c_o24is)]) ⟨o24is_spec, trivial⟩ h_ledger_Ledger_Last rfl rfl fun x _ _ => by
    skip
    exact bodyG_ok an_N24 (n24Last_vc) (by kernel_rfl))
  (spec_gz (l := [(f_ledger_Ledger_is, c_o24is)]) ⟨o24is_spec, trivial⟩ h_ledger_Ledger_Last rfl rfl fun x _ _ => by
    skip
    exact bodyG_ok an_Z24 (z24Last_vc) (by kernel_rfl)) rfl rfl rfl

theorem n24Of_vc (a0 : HeadT) :
    (0 = (T.dflt T_Noted).1 ∧
      0 = (T.dflt T_Noted).2.1 ∧
      0 = (T.dflt T_Noted).2.2.1 ∧
      0 = (T.dflt T_Noted).2.2.2.1 ∧
      List.replicate 32 0#8 = (T.dflt T_Noted).2.2.2.2.1 ∧
      nilOf (BitVec 8) = (T.dflt T_Noted).2.2.2.2.2.1 ∧
      nilOf (BitVec 8) = (T.dflt T_Noted).2.2.2.2.2.2.1 ∧
      false = (T.dflt T_Noted).2.2.2.2.2.2.2) ∧
      false = false := by
  repeat' first | rfl | trivial | apply And.intro

theorem z24Of_vc (a0 : HeadT) :
    ((0 = (T.dflt T_Noted).1 ∧
      0 = (T.dflt T_Noted).2.1 ∧
      0 = (T.dflt T_Noted).2.2.1 ∧
      0 = (T.dflt T_Noted).2.2.2.1 ∧
      List.replicate 32 0#8 = (T.dflt T_Noted).2.2.2.2.1 ∧
      nilOf (BitVec 8) = (T.dflt T_Noted).2.2.2.2.2.1 ∧
      nilOf (BitVec 8) = (T.dflt T_Noted).2.2.2.2.2.2.1 ∧
      false = (T.dflt T_Noted).2.2.2.2.2.2.2) ∧
      false = false) ∧
      ofN 0 = 0 := by
  repeat' first | rfl | trivial | apply And.intro

theorem o24Of_spec : Vse.Spec P f_ledger_Ledger_Of c_o24Of := spec_or
  (spec_gn (l := [(f_ledger_Ledger_is, c_o24is)]) ⟨o24is_spec, trivial⟩ h_ledger_Ledger_Of rfl rfl fun x _ _ => by
    obtain ⟨a0, _⟩ := x
    exact bodyG_ok an_N24 (n24Of_vc a0) (by kernel_rfl))
  (spec_gz (l := [(f_ledger_Ledger_is, c_o24is)]) ⟨o24is_spec, trivial⟩ h_ledger_Ledger_Of rfl rfl fun x _ _ => by
    obtain ⟨a0, _⟩ := x
    exact bodyG_ok an_Z24 (z24Of_vc a0) (by kernel_rfl)) rfl rfl rfl

theorem n24File_vc (a0 : List Rec) (a1 : List (BitVec 8)) :
    nilOf (BitVec 8) = nilOf (BitVec 8) ∧ false = false := by
  repeat' first | rfl | trivial | apply And.intro

theorem z24File_vc (a0 : List Rec) (a1 : List (BitVec 8)) :
    (nilOf (BitVec 8) = nilOf (BitVec 8) ∧ false = false) ∧ ofN 0 = 0 := by
  repeat' first | rfl | trivial | apply And.intro

theorem o24File_spec : Vse.Spec P f_ledger_Ledger_File c_o24File := spec_or
  (spec_gn (l := [(f_ledger_Ledger_is, c_o24is)]) ⟨o24is_spec, trivial⟩ h_ledger_Ledger_File rfl rfl fun x _ _ => by
    obtain ⟨a0, a1, _⟩ := x
    exact bodyG_ok an_N24 (n24File_vc a0 a1) (by kernel_rfl))
  (spec_gz (l := [(f_ledger_Ledger_is, c_o24is)]) ⟨o24is_spec, trivial⟩ h_ledger_Ledger_File rfl rfl fun x _ _ => by
    obtain ⟨a0, a1, _⟩ := x
    exact bodyG_ok an_Z24 (z24File_vc a0 a1) (by kernel_rfl)) rfl rfl rfl

theorem n24Check_vc (a0 : Cats) :
    nilOf (Int × Int × Int) = nilOf (Int × Int × Int) := by
  repeat' first | rfl | trivial | apply And.intro

theorem z24Check_vc (a0 : Cats) :
    nilOf (Int × Int × Int) = nilOf (Int × Int × Int) ∧ ofN 0 = 0 := by
  repeat' first | rfl | trivial | apply And.intro

theorem o24Check_spec : Vse.Spec P f_ledger_Ledger_Check c_o24Check := spec_or
  (spec_gn (l := [(f_ledger_Ledger_is, c_o24is)]) ⟨o24is_spec, trivial⟩ h_ledger_Ledger_Check rfl rfl fun x _ _ => by
    obtain ⟨a0, _⟩ := x
    exact bodyG_ok an_N24 (n24Check_vc a0) (by kernel_rfl))
  (spec_gz (l := [(f_ledger_Ledger_is, c_o24is)]) ⟨o24is_spec, trivial⟩ h_ledger_Ledger_Check rfl rfl fun x _ _ => by
    obtain ⟨a0, _⟩ := x
    exact bodyG_ok an_Z24 (z24Check_vc a0) (by kernel_rfl)) rfl rfl rfl

def an_Nb24 : Ann := { at_ := fun _ _ => none, prune := 2, unroll := [4], rows := [STRIDE * 3] }

theorem ref24_SameNe_vc (a b : Noted) (h : a = b) :
    (a.1 == b.1 && a.2.1 == b.2.1 && (a.2.2.1 == b.2.2.1 && (a.2.2.2.1 == b.2.2.2.1 && eqL T.u8 a.2.2.2.2.1 b.2.2.2.2.1)) && a.2.2.2.2.2.1 == b.2.2.2.2.2.1 && a.2.2.2.2.2.2.1 == b.2.2.2.2.2.2.1 &&
      a.2.2.2.2.2.2.2 == b.2.2.2.2.2.2.2) =
      true := by
  subst h
  rw [eqL_u8]
  simp

theorem ref24_SameNe_spec : Vse.Spec P f_ref24_SameNoted c_SameNe := spec_fn (l := []) trivial h_ref24_SameNoted rfl rfl fun x h _ => body_ok an_none (ref24_SameNe_vc x.1 x.2.1 h) (by kernel_rfl)

theorem law24_LedgerNobody_vc (b0 : Bool) (b1 : Int) (b2 : Int) (b3 : Int) (b4 : List (BitVec 8)) (b5 : List (BitVec 8)) (b6 : Int) (b7 : Int) (b8 : List Bool) (b9 : Int) (b10 : Int) (b11 : Int) (b12 : List (BitVec 8)) (b13 : Int) (b14 : Int) (b15 : Int) (b16 : List (BitVec 8)) (b17 : List (BitVec 8)) (b18 : List (BitVec 8)) (b19 : Int) (b20 : Int) (b21 : Int) (b22 : Int) (b23 : Int) (b24 : Int) (b25 : Int) (b26 : List (BitVec 8)) (b27 : List (BitVec 8)) (h : HeadT) (rs : List Rec) :
    within 0 2 ∧
      (false = false →
      T.dflt T_Noted =
      (ofN 0, ofN 0, ofN 0, ofN 0, List.replicate 32 0#8, nilOf (BitVec 8), nilOf (BitVec 8), false)) ∧
      (false = false → inI64 (ofN (List.length (nilOf (BitVec 8))) + ofN (List.length (nilOf (Int × Int × Int × Int × List (BitVec 8) × List (BitVec 8) × List (BitVec 8) × Bool))))) ∧
      (false = false →
      inI64
      (ofN (List.length (nilOf (BitVec 8))) + ofN (List.length (nilOf (Int × Int × Int × Int × List (BitVec 8) × List (BitVec 8) × List (BitVec 8) × Bool))) +
      ofN (List.length (nilOf (Int × Int × Int × List (BitVec 8) × List (BitVec 8)))))) ∧
      (false = false →
      inI64
      (ofN (List.length (nilOf (BitVec 8))) + ofN (List.length (nilOf (Int × Int × Int × Int × List (BitVec 8) × List (BitVec 8) × List (BitVec 8) × Bool))) +
      ofN (List.length (nilOf (Int × Int × Int × List (BitVec 8) × List (BitVec 8)))) +
      ofN (List.length (nilOf (Int × Int × Int))))) ∧
      inI64 1 ∧
      within 1 2 ∧
      false = false ∧
      (false = false →
      T.dflt T_Noted =
      (ofN 0, ofN 0, ofN 0, ofN 0, List.replicate 32 0#8, nilOf (BitVec 8), nilOf (BitVec 8), false)) ∧
      false = false ∧
      (false = false → inI64 (ofN (List.length (nilOf (BitVec 8))) + ofN (List.length (nilOf (Int × Int × Int × Int × List (BitVec 8) × List (BitVec 8) × List (BitVec 8) × Bool))))) ∧
      false = false ∧
      (false = false →
      inI64
      (ofN (List.length (nilOf (BitVec 8))) + ofN (List.length (nilOf (Int × Int × Int × Int × List (BitVec 8) × List (BitVec 8) × List (BitVec 8) × Bool))) +
      ofN (List.length (nilOf (Int × Int × Int × List (BitVec 8) × List (BitVec 8)))))) ∧
      false = false ∧
      (false = false →
      inI64
      (ofN (List.length (nilOf (BitVec 8))) + ofN (List.length (nilOf (Int × Int × Int × Int × List (BitVec 8) × List (BitVec 8) × List (BitVec 8) × Bool))) +
      ofN (List.length (nilOf (Int × Int × Int × List (BitVec 8) × List (BitVec 8)))) +
      ofN (List.length (nilOf (Int × Int × Int))))) ∧
      inI64 2 ∧ true = true := by
  repeat' first | rfl | decide | apply And.intro | intro _

theorem law24_LedgerNobody_spec : Vse.Spec P f_law24_LedgerNobody (c_law24 [T_Act, T_Head, .slc T_Rec]) := spec_fn (l := [(f_ledger_Ledger_Note, c_o24Note), (f_ledger_Ledger_Tell, c_o24Tell), (f_ledger_Ledger_Writes, c_o24Writes), (f_ledger_Ledger_Acked, c_o24Acked), (f_ledger_Ledger_Last, c_o24Last), (f_ledger_Ledger_Of, c_o24Of), (f_ledger_Ledger_File, c_o24File), (f_ledger_Ledger_Check, c_o24Check), (f_law24_awake, c_awake24), (f_law24_few, c_few24), (f_ref24_SameNoted, c_SameNe)]) ⟨o24Note_spec, o24Tell_spec, o24Writes_spec, o24Acked_spec, o24Last_spec, o24Of_spec, o24File_spec, o24Check_spec, law24_awake_spec, law24_few_spec, ref24_SameNe_spec, trivial⟩ h_law24_LedgerNobody rfl rfl fun x _ _ => by
  obtain ⟨a, h, rs, _⟩ := x
  exact body_ok an_Nb24 (law24_LedgerNobody_vc a.1 a.2.1 a.2.2.1 a.2.2.2.1 a.2.2.2.2.1 a.2.2.2.2.2.1 a.2.2.2.2.2.2.1 a.2.2.2.2.2.2.2.1 a.2.2.2.2.2.2.2.2.1 a.2.2.2.2.2.2.2.2.2.1 a.2.2.2.2.2.2.2.2.2.2.1 a.2.2.2.2.2.2.2.2.2.2.2.1 a.2.2.2.2.2.2.2.2.2.2.2.2.1 a.2.2.2.2.2.2.2.2.2.2.2.2.2.1 a.2.2.2.2.2.2.2.2.2.2.2.2.2.2.1 a.2.2.2.2.2.2.2.2.2.2.2.2.2.2.2.1 a.2.2.2.2.2.2.2.2.2.2.2.2.2.2.2.2.1 a.2.2.2.2.2.2.2.2.2.2.2.2.2.2.2.2.2.1 a.2.2.2.2.2.2.2.2.2.2.2.2.2.2.2.2.2.2.1 a.2.2.2.2.2.2.2.2.2.2.2.2.2.2.2.2.2.2.2.1 a.2.2.2.2.2.2.2.2.2.2.2.2.2.2.2.2.2.2.2.2.1 a.2.2.2.2.2.2.2.2.2.2.2.2.2.2.2.2.2.2.2.2.2.1 a.2.2.2.2.2.2.2.2.2.2.2.2.2.2.2.2.2.2.2.2.2.2.1 a.2.2.2.2.2.2.2.2.2.2.2.2.2.2.2.2.2.2.2.2.2.2.2.1 a.2.2.2.2.2.2.2.2.2.2.2.2.2.2.2.2.2.2.2.2.2.2.2.2.1 a.2.2.2.2.2.2.2.2.2.2.2.2.2.2.2.2.2.2.2.2.2.2.2.2.2.1 a.2.2.2.2.2.2.2.2.2.2.2.2.2.2.2.2.2.2.2.2.2.2.2.2.2.2.1 a.2.2.2.2.2.2.2.2.2.2.2.2.2.2.2.2.2.2.2.2.2.2.2.2.2.2.2 h rs) (by kernel_rfl)

end Go.Sal
