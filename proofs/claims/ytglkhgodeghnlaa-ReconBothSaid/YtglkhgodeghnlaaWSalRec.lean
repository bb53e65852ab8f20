/- Records of a catalogue, as plain data. No program in sight. -/
import Derived.Test.YtglkhgodeghnlaaWSalSha
namespace Go.Sal
open Go.Vse
abbrev T_Dig : T := .arr 32 .u8
abbrev T_Pie : T := .pair T_Dig .i64
abbrev T_Rec : T := .pair .i64 (.pair .i64 (.pair T_Dig (.pair .i64 (.pair .i64 (.pair .str (.slc T_Pie))))))
abbrev Rec := T_Rec.den
def headBytes (r : Rec) : Bytes := [82#8, BitVec.ofInt 8 r.2.2.2.1] ++ varintN r.1.toNat ++ varintN r.2.1.toNat ++ r.2.2.1
theorem getD_lt {α : Type} {l : List α} {i : Nat} {d : α} (h : i < l.length) : l.getD i d = l[i] := by simp [List.getD_eq_getElem?_getD, h]
theorem take_snoc' {α : Type} {l : List α} {i : Nat} {d : α} (h : i < l.length) : l.take (i + 1) = l.take i ++ [l.getD i d] := by
 rw [List.take_succ_eq_append_getElem h, getD_lt h]
def pre (r : Rec) : Bytes := headBytes r ++ [BitVec.ofInt 8 r.2.2.2.2.2.1.length] ++ r.2.2.2.2.2.1 ++ varintN r.2.2.2.2.2.2.length
theorem eqL_u8 (a b : Bytes) : eqL T.u8 a b = (a == b) := by
 rw [Bool.eq_iff_iff]; simp [eqL]
end Go.Sal