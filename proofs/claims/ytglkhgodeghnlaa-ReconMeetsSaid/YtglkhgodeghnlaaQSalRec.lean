/- Records of a catalogue, as plain data. No program in sight. -/
import Derived.Test.YtglkhgodeghnlaaQSalSha
namespace Go.Sal
open Go.Vse
abbrev T_Dig : T := .arr 32 .u8
abbrev T_Pie : T := .pair T_Dig .i64
abbrev T_Rec : T := .pair .i64 (.pair .i64 (.pair T_Dig (.pair .i64 (.pair .i64 (.pair .str (.slc T_Pie))))))
abbrev T_Head : T := .pair .i64 (.pair .i64 T_Dig)
abbrev Pie := T_Pie.den
abbrev Rec := T_Rec.den
abbrev HeadT := T_Head.den

def okChar (c : B8) : Bool := decide (33 ≤ c.toNat) && decide (c.toNat ≤ 126)
def isPath (s : Bytes) : Bool := decide (1 ≤ s.length) && decide (s.length ≤ 255) && s.all okChar
def okPie (p : Pie) : Bool := decide (1 ≤ p.2) && decide (p.2 ≤ 4096)
def sumP : List Pie → Int
 | [] => 0
 | p :: r => p.2 + sumP r
def sizeV (l : List Pie) : Int × Int :=
 if l.length ≤ 4096 ∧ l.all okPie = true ∧ sumP l ≤ 1048576 then (sumP l, 0) else (0, 130)
def fitsV (r : Rec) : Bool :=
 if r.2.2.2.1 = 1 then (r.2.2.2.2.1 == 0 || r.2.2.2.2.1 == 1) && r.2.2.2.2.2.1 == [] && ((r.2.2.2.2.2.2.length : Nat) : Int) == 0
 else if r.2.2.2.1 = 3 then ((r.2.2.2.2.2.2.length : Nat) : Int) == 0 && (r.2.2.2.2.1 == 0 && isPath r.2.2.2.2.2.1)
 else if r.2.2.2.1 = 2 then r.2.2.2.2.1 == 0 && isPath r.2.2.2.2.2.1 && (sizeV r.2.2.2.2.2.2).2 == 0
 else false
def checkV (r : Rec) : Int :=
 if 1 ≤ r.1 ∧ r.1 ≤ 1073741824 ∧ 1 ≤ r.2.1 ∧ r.2.1 ≤ 1073741824 ∧ fitsV r = true then 0 else 130
def pieBytes (p : Pie) : Bytes := varintN p.2.toNat ++ p.1
def headBytes (r : Rec) : Bytes := [82#8, BitVec.ofInt 8 r.2.2.2.1] ++ varintN r.1.toNat ++ varintN r.2.1.toNat ++ r.2.2.1
def recBytes (r : Rec) : Bytes :=
 if r.2.2.2.1 = 1 then headBytes r ++ [BitVec.ofInt 8 r.2.2.2.2.1]
 else if r.2.2.2.1 = 3 then headBytes r ++ [BitVec.ofInt 8 r.2.2.2.2.2.1.length] ++ r.2.2.2.2.2.1
 else headBytes r ++ [BitVec.ofInt 8 r.2.2.2.2.2.1.length] ++ r.2.2.2.2.2.1 ++ varintN r.2.2.2.2.2.2.length ++ (r.2.2.2.2.2.2.map pieBytes).flatten
def bytesV (r : Rec) : Bytes × Int := if checkV r = 0 then (recBytes r, 0) else ([], checkV r)
def zero32 : Bytes := List.replicate 32 0#8
def chainV (r : Rec) : Bytes × Int := if checkV r = 0 then (sha (recBytes r), 0) else (zero32, checkV r)
def followsV (h : HeadT) (r : Rec) : Bool :=
 decide (r.1 - 1 = h.1) && (r.2.2.1 == h.2.2) && (if r.2.2.2.1 = 1 then decide (h.2.1 < r.2.1) else decide (r.2.1 = h.2.1))
def head0 : HeadT := (0, 0, zero32)
def rec0 : Rec := (0, 0, zero32, 0, 0, [], [])
def nextV (h : HeadT) (r : Rec) : HeadT × Int :=
 if checkV r = 0 then (if followsV h r = true then ((r.1, r.2.1, sha (recBytes r)), 0) else (head0, 131)) else (head0, checkV r)
def walkV (h : HeadT) : List Rec → Nat → HeadT × Int × Int
 | [], i => (h, i, 0)
 | r :: l, i => if (nextV h r).2 = 0 then walkV (nextV h r).1 l (i + 1) else (h, i, (nextV h r).2)
def madeV (h : HeadT) (r : Rec) : Rec := (h.1 + 1, if r.2.2.2.1 = 1 then r.2.1 else h.2.1, h.2.2, r.2.2.2.1, r.2.2.2.2.1, r.2.2.2.2.2.1, r.2.2.2.2.2.2)
def makeV (h : HeadT) (r : Rec) : Rec × Int :=
 if 0 ≤ h.1 ∧ h.1 < 1073741824 then (if checkV (madeV h r) = 0 then (if followsV h (madeV h r) = true then (madeV h r, 0) else (rec0, 131)) else (rec0, checkV (madeV h r))) else (rec0, 130)
def sameV (a b : Rec) : Bool := decide (a.1 = b.1) && decide (a.2.1 = b.2.1) && (a.2.2.1 == b.2.2.1) && decide (a.2.2.2.1 = b.2.2.2.1) && decide (a.2.2.2.2.1 = b.2.2.2.2.1) && (a.2.2.2.2.2.1 == b.2.2.2.2.2.1) &&
 decide (a.2.2.2.2.2.2 = b.2.2.2.2.2.2)
def sameAllV (a b : List Rec) : Bool := decide (a.length = b.length ∧ ∀ i, i < a.length → sameV (a.getD i T_Rec.dflt) (b.getD i T_Rec.dflt) = true)
def cutV (r : Rec) : Rec := (r.1, r.2.1, r.2.2.1, r.2.2.2.1, r.2.2.2.2.1, r.2.2.2.2.2.1.take 300, r.2.2.2.2.2.2.take 60)
def fewV (l : List Rec) : List Rec := (l.take 20).map cutV

theorem sumP_append (a b : List Pie) : sumP (a ++ b) = sumP a + sumP b := by
 induction a with
 | nil => simp [sumP]
 | cons p r ih => simp only [List.cons_append, sumP, ih]; omega
theorem sumP_nonneg {l : List Pie} (h : l.all okPie = true) : 0 ≤ sumP l := by
 induction l with
 | nil => simp [sumP]
 | cons p r ih =>
   simp only [List.all_cons, Bool.and_eq_true, okPie, decide_eq_true_eq] at h
   have h1 : (1 : Int) ≤ p.2 := h.1.1
   have := ih h.2
   simp only [sumP]; omega
theorem sumP_le {l : List Pie} (h : l.all okPie = true) : sumP l ≤ 4096 * l.length := by
 induction l with
 | nil => simp [sumP]
 | cons p r ih =>
   simp only [List.all_cons, Bool.and_eq_true, okPie, decide_eq_true_eq] at h
   have h1 : (4096 : Int) ≥ p.2 := h.1.2
   have := ih h.2
   simp only [sumP, List.length_cons]; omega
theorem getD_lt {α : Type} {l : List α} {i : Nat} {d : α} (h : i < l.length) : l.getD i d = l[i] := by simp [List.getD_eq_getElem?_getD, h]
theorem take_snoc' {α : Type} {l : List α} {i : Nat} {d : α} (h : i < l.length) : l.take (i + 1) = l.take i ++ [l.getD i d] := by
 rw [List.take_succ_eq_append_getElem h, getD_lt h]
theorem all_take {α : Type} {l : List α} {p : α → Bool} {i : Nat} {d : α} (h : i < l.length) : (l.take (i + 1)).all p = ((l.take i).all p && p (l.getD i d)) := by
 rw [take_snoc' (d := d) h]; simp
theorem all_of_take {α : Type} {l : List α} {p : α → Bool} (i : Nat) (h : (l.take i).all p = false) : l.all p = false := by
 cases ha : l.all p with
 | false => rfl
 | true =>
   rw [← List.take_append_drop i l, List.all_append, h] at ha
   simp at ha
theorem sizeV_bad {l : List Pie} (h : 4096 < l.length) : sizeV l = (0, 130) := by
 rw [sizeV, if_neg (fun hh => by omega)]
theorem sizeV_all {l : List Pie} (h : l.all okPie = false) : sizeV l = (0, 130) := by
 rw [sizeV, if_neg (fun hh => by rw [hh.2.1] at h; cases h)]
theorem sizeV_sum {l : List Pie} {i : Nat} (h : 1048576 < sumP (l.take i)) : sizeV l = (0, 130) := by
 rw [sizeV, if_neg (fun hh => ?_)]
 have h2 := hh.2.1
 rw [← List.take_append_drop i l, List.all_append, Bool.and_eq_true] at h2
 have h3 := sumP_nonneg h2.2
 have h4 := sumP_append (l.take i) (l.drop i)
 rw [List.take_append_drop] at h4
 have h5 := hh.2.2
 omega
theorem sizeV_nil : sizeV [] = (0, 0) := by decide
theorem sizeV_err (l : List Pie) : (sizeV l).2 = 0 ∨ (sizeV l).2 = 130 := by
 unfold sizeV; split <;> simp

def pre (r : Rec) : Bytes := headBytes r ++ [BitVec.ofInt 8 r.2.2.2.2.2.1.length] ++ r.2.2.2.2.2.1 ++ varintN r.2.2.2.2.2.2.length
theorem check_ok {r : Rec} (h : checkV r = 0) : (1 : Int) ≤ r.1 ∧ (1073741824 : Int) ≥ r.1 ∧ (1 : Int) ≤ r.2.1 ∧ (1073741824 : Int) ≥ r.2.1 ∧ fitsV r = true := by
 unfold checkV at h
 split at h
 · assumption
 · cases h
theorem check_err (r : Rec) : checkV r = 0 ∨ checkV r = 130 := by unfold checkV; split <;> simp
theorem path_len {s : Bytes} (h : isPath s = true) : s.length ≤ 255 := by
 unfold isPath at h
 simp only [Bool.and_eq_true, decide_eq_true_eq] at h
 exact h.1.2
theorem size_ok {l : List Pie} (h : (sizeV l).2 = 0) : l.length ≤ 4096 ∧ l.all okPie = true := by
 unfold sizeV at h
 split at h
 · rename_i hh; exact ⟨hh.1, hh.2.1⟩
 · cases h
theorem fits_parts {r : Rec} (h : fitsV r = true) : (r.2.2.2.1 = (1 : Int) ∨ r.2.2.2.1 = (3 : Int) ∨ r.2.2.2.1 = (2 : Int)) ∧ (¬ r.2.2.2.1 = (1 : Int) → r.2.2.2.2.2.1.length ≤ 255) ∧ r.2.2.2.2.2.2.length ≤ 4096 ∧ r.2.2.2.2.2.2.all okPie = true := by
 unfold fitsV at h
 split at h
 · rename_i h1
   simp only [Bool.and_eq_true, beq_iff_eq] at h
   have hl : r.2.2.2.2.2.2.length = 0 := by have := h.2; omega
   have e := List.eq_nil_of_length_eq_zero hl
   exact ⟨.inl h1, fun hn => absurd h1 hn, by omega, by rw [e]; rfl⟩
 · split at h
   · rename_i h3
     simp only [Bool.and_eq_true, beq_iff_eq] at h
     have hl : r.2.2.2.2.2.2.length = 0 := by have := h.1; omega
     have e := List.eq_nil_of_length_eq_zero hl
     exact ⟨.inr (.inl h3), fun _ => path_len h.2.2, by omega, by rw [e]; rfl⟩
   · split at h
     · rename_i h2
       simp only [Bool.and_eq_true, beq_iff_eq] at h
       have := size_ok h.2
       exact ⟨.inr (.inr h2), fun _ => path_len h.1.2, this.1, this.2⟩
     · cases h
theorem vlen (n : Nat) (h : n < 18446744073709551616) : (varintN n).length ≤ 10 := varintN_length 9 n (Nat.lt_of_lt_of_le h (by decide))
theorem toNat64 {n : Int} (h0 : 0 ≤ n) (h1 : n < 18446744073709551616) : (BitVec.ofInt 64 n).toNat = n.toNat := by
 obtain ⟨k, rfl⟩ := Int.eq_ofNat_of_zero_le h0
 rw [BitVec.ofInt_natCast, BitVec.toNat_ofNat, Int.toNat_natCast]
 have e64 : 2 ^ 64 = 18446744073709551616 := by decide
 rw [e64, Nat.mod_eq_of_lt (by omega)]
theorem pie_ok {p : Pie} (h : okPie p = true) : (1 : Int) ≤ p.2 ∧ (4096 : Int) ≥ p.2 := by
 unfold okPie at h
 simp only [Bool.and_eq_true, decide_eq_true_eq] at h
 exact h
theorem pieBytes_len {p : Pie} (h : okPie p = true) (h32 : p.1.length = 32) : (pieBytes p).length ≤ 42 := by
 have := pie_ok h
 have hv := vlen p.2.toNat (by omega)
 unfold pieBytes
 rw [List.length_append, h32]; omega
theorem pies_len {l : List Pie} (h : l.all okPie = true) (h32 : ∀ p ∈ l, p.1.length = 32) : ((l.map pieBytes).flatten).length ≤ 42 * l.length := by
 induction l with
 | nil => simp
 | cons p r ih =>
   simp only [List.all_cons, Bool.and_eq_true] at h
   have h1 := pieBytes_len h.1 (h32 p (by simp))
   have h2 := ih h.2 fun q hq => h32 q (by simp [hq])
   simp only [List.map_cons, List.flatten_cons, List.length_append, List.length_cons]
   omega
theorem head_len {r : Rec} (h : checkV r = 0) (hp : r.2.2.1.length = 32) : (headBytes r).length ≤ 54 := by
 obtain ⟨h1, h2, h3, h4, _⟩ := check_ok h
 have a := vlen r.1.toNat (by omega)
 have b := vlen r.2.1.toNat (by omega)
 unfold headBytes
 simp only [List.length_append, List.length_cons, List.length_nil, hp]
 omega
theorem pre_len {r : Rec} (h : checkV r = 0) (hp : r.2.2.1.length = 32) (hk : ¬ r.2.2.2.1 = (1 : Int)) : (pre r).length ≤ 320 := by
 have h1 := head_len h hp
 obtain ⟨_, f1, f2, _⟩ := fits_parts (check_ok h).2.2.2.2
 have a := vlen r.2.2.2.2.2.2.length (by omega)
 have := f1 hk
 unfold pre
 simp only [List.length_append, List.length_cons, List.length_nil]
 omega
theorem take_pies {l : List Pie} {i : Nat} (h : i < l.length) (d : Pie) : ((l.take (i + 1)).map pieBytes).flatten = ((l.take i).map pieBytes).flatten ++ pieBytes (l.getD i d) := by
 rw [take_snoc' (d := d) h]; simp
theorem recBytes_len {r : Rec} (h : checkV r = 0) (hp : r.2.2.1.length = 32) (hd : ∀ p ∈ r.2.2.2.2.2.2, p.1.length = 32) : (recBytes r).length ≤ 200000 := by
 obtain ⟨_, f1, f2, f3⟩ := fits_parts (check_ok h).2.2.2.2
 have h1 := head_len h hp
 have h3 := pies_len f3 hd
 have a := vlen r.2.2.2.2.2.2.length (by omega)
 unfold recBytes
 split
 · simp only [List.length_append, List.length_cons, List.length_nil]; omega
 · rename_i hk
   have := f1 hk
   split <;> simp only [List.length_append, List.length_cons, List.length_nil] <;> omega
theorem bytesV_ok {r : Rec} (h : checkV r = 0) : bytesV r = (recBytes r, 0) := by rw [bytesV, if_pos h]
theorem bytesV_bad {r : Rec} (h : ¬ checkV r = 0) : bytesV r = ([], checkV r) := by rw [bytesV, if_neg h]
theorem chainV_ok {r : Rec} (h : checkV r = 0) : chainV r = (sha (recBytes r), 0) := by rw [chainV, if_pos h]
theorem chainV_bad {r : Rec} (h : ¬ checkV r = 0) : chainV r = (zero32, checkV r) := by rw [chainV, if_neg h]
theorem eqL_u8 (a b : Bytes) : eqL T.u8 a b = (a == b) := by
 rw [Bool.eq_iff_iff]; simp [eqL]
end Go.Sal