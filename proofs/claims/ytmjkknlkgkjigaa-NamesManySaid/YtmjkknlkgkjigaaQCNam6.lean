/- The document's namespace: find, May, Apply, Of. -/
import Derived.Test.YtmjkknlkgkjigaaQCNam5
set_option maxRecDepth 100000
namespace Go.Sal
open Go.Vse Go.Sal.Nm

abbrev T_R15 : T := .slc T_File
/-- a method of the document's namespace: its row is plain data -/
def hasV (L : List Fil) (p : List (BitVec 8)) : Bool := L.any fun f => f.1 == p
def findK (L : List Fil) (p : List (BitVec 8)) : Nat := (L.takeWhile fun f => !(f.1 == p)).length
def findV (L : List Fil) (p : List (BitVec 8)) : Int := bif hasV L p then (findK L p : Int) else -1
def rmayV (L : List Fil) (r : Rec) : Int := bif decide (checkV r = 0) then (bif r.2.2.2.1 == 3 && decide (findV L r.2.2.2.2.2.1 < 0) then 150 else bif r.2.2.2.1 == 2 && decide (findV L r.2.2.2.2.2.1 < 0) && decide ((1024 : Int) ≤ L.length) then 3 else 0) else checkV r
/-- what stands behind so many files: the row, and whether the new one is put -/
def rputS (r : Rec) (s : List Fil × Bool) (f : Fil) : List Fil × Bool :=
  let s1 := bif !s.2 && !lessL f.1 r.2.2.2.2.2.1 then (s.1 ++ [fileOf r], true) else s
  (bif f.1 != r.2.2.2.2.2.1 then s1.1 ++ [f] else s1.1, s1.2)
def rputK (L : List Fil) (r : Rec) (k : Nat) : List Fil × Bool := (L.take k).foldl (rputS r) ([], r.2.2.2.1 != 2)
def rputV (L : List Fil) (r : Rec) : List Fil := bif !(rputK L r L.length).2 then (rputK L r L.length).1 ++ [fileOf r] else (rputK L r L.length).1
def rapplyV (L : List Fil) (r : Rec) : List Fil := bif decide (rmayV L r = 0) then rputV L r else L
def gR15 (ts : List T) (F : List Fil → dens ts → GRes) : PC := gM [.dat T_R15] ts fun s x => F s.1 x
def c_rfind : PC := gM [.dat T_R15] [.str] fun s x => ⟨none, .sv (.dv (.i64 (findV s.1 x.1))), oObj [.dat T_R15] 2 s⟩
def c_rMay : PC := gM [.dat T_R15] [T_Rec] fun s x => ⟨none, .sv (.dv (.i64 (rmayV s.1 x.1))), oObj [.dat T_R15] 2 s⟩
def c_rApply : PC := gM [.dat T_R15] [T_Rec] fun s x => ⟨some (s.1.length ≤ 1000000 ∧ x.1.2.2.2.2.2.2.length ≤ 1000000), .sv (.dv (.i64 (rmayV s.1 x.1))), oObj [.dat T_R15] 2 (rapplyV s.1 x.1, ())⟩
def an_rfindL (L : List Fil) (p : List (BitVec 8)) : Nat → SState → Option LoopAnn
  | 2, _ => some { X := Nat, slots := fun k => [(5, .sv (.dv (.i64 (ofN k))))], objs := fun _ => [], inv := fun k => k ≤ L.length ∧ (L.take k).any (fun f => f.1 == p) = false, meas := fun k => L.length - k }
  | _, _ => none
def an_rfind (L : List Fil) (p : List (BitVec 8)) : Ann := { at_ := an_rfindL L p, pins := [1], prune := 1 }
def an_R1 : Ann := { at_ := fun _ _ => none, pins := [1], prune := 1 }
def an_rApplyL (L : List Fil) (r : Rec) : Nat → SState → Option LoopAnn
  | 9, S => some { X := Nat, slots := fun k => [(9, .sv (.dv (.i64 (ofN k)))), (8, .sv (.dv (.bool (rputK L r k).2))), (6, .sv (.own 10 T_File (rputK L r k).1))], objs := fun _ => [(10, .tok t_api_File 4), (x_tok S 6, .gone)], inv := fun k => k ≤ L.length, meas := fun k => L.length - k }
  | _, _ => none
def an_rApply (L : List Fil) (r : Rec) : Ann := { at_ := an_rApplyL L r, pins := [1], prune := 1 }

theorem findV_cons {f : Fil} {r : List Fil} {p : List (BitVec 8)} : findV (f :: r) p = if f.1 == p then 0 else if findV r p < 0 then -1 else findV r p + 1 := by
  unfold findV hasV findK
  cases h : f.1 == p with
  | true =>
    rw [List.any_cons, h, List.takeWhile_cons_of_neg (by rw [h]; decide)]
    rfl
  | false =>
    rw [List.any_cons, h, List.takeWhile_cons_of_pos (by rw [h]; rfl), Bool.false_or]
    cases r.any fun f => f.1 == p with
    | true =>
      simp only [cond_true, List.length_cons, Bool.false_eq_true, if_false]
      rw [if_neg (by omega)]
      omega
    | false => rfl
theorem findV_at {p : List (BitVec 8)} : ∀ {L : List Fil} {x : Nat}, x < L.length → ((L.take x).any fun f => f.1 == p) = false → ((L.getD x T_File.dflt).1 == p) = true → findV L p = (x : Int)
  | [], _, h, _, _ => by simp at h
  | f :: r, 0, _, _, h => by
    have h : (f.1 == p) = true := h
    rw [findV_cons, if_pos h]; rfl
  | f :: r, x + 1, hx, h1, h2 => by
    rw [List.take_succ_cons, List.any_cons, Bool.or_eq_false_iff] at h1
    have ih := findV_at (by simpa using hx : x < r.length) h1.2 h2
    rw [findV_cons, if_neg (by rw [h1.1]; decide), ih, if_neg (by omega)]
    omega
theorem findV_no {p : List (BitVec 8)} {L : List Fil} (h : (L.any fun f => f.1 == p) = false) : findV L p = -1 := by
  unfold findV hasV
  rw [h]; rfl
theorem any_snoc {L : List Fil} {x : Nat} {p : List (BitVec 8)} (h : x < L.length) : ((L.take (x + 1)).any fun f => f.1 == p) = (((L.take x).any fun f => f.1 == p) || ((L.getD x T_File.dflt).1 == p)) := by
  rw [take_snoc' (d := T_File.dflt) h, List.any_append, List.any_cons, List.any_nil, Bool.or_false]
theorem rputK_succ {L : List Fil} {r : Rec} {x : Nat} (h : x < L.length) : rputK L r (x + 1) = rputS r (rputK L r x) (L.getD x T_File.dflt) := by
  unfold rputK
  rw [take_snoc' (d := T_File.dflt) h, List.foldl_append]; rfl
theorem rputS_len (r : Rec) (s : List Fil × Bool) (f : Fil) : (rputS r s f).1.length ≤ s.1.length + 2 := by
  unfold rputS
  cases (!s.2 && !lessL f.1 r.2.2.2.2.2.1) <;> cases f.1 != r.2.2.2.2.2.1 <;> simp
theorem rputK_len (L : List Fil) (r : Rec) : ∀ x, x ≤ L.length → (rputK L r x).1.length ≤ 2 * x
  | 0, _ => Nat.zero_le _
  | x + 1, h => by
    rw [rputK_succ h]
    have := rputS_len r (rputK L r x) (L.getD x T_File.dflt)
    have := rputK_len L r x (by omega)
    omega
theorem rput_tail {L : List Fil} {r : Rec} {x : Nat} (h : x < L.length) (hL : L.length ≤ 1000000) {e : List Fil} {b : Bool} (he : rputS r (rputK L r x) (L.getD x T_File.dflt) = (e, b)) :
    inI64 (ofN x + 1) ∧ ∃ x', x' ≤ L.length ∧ L.length - x' < L.length - x ∧ ofN x + 1 = ofN x' ∧ b = (rputK L r x').2 ∧ e = (rputK L r x').1 :=
  ⟨i64N h (by unfold LIM; omega), x + 1, h, by omega, rfl, by rw [rputK_succ h, he], by rw [rputK_succ h, he]⟩

theorem ref15_find_vc (L : List Fil) (p : List (BitVec 8)) (hL : L.length ≤ LIM) :
    (∃ (x : Nat), (x ≤ List.length L ∧ (List.any (List.take x L) fun (f : List (BitVec 8) × Int × Int × List (List (BitVec 8) × Int)) => Prod.fst f == p) = false) ∧ 0 = ofN x) ∧
      ∀ (x : Nat),
      x ≤ List.length L ∧ (List.any (List.take x L) fun (f : List (BitVec 8) × Int × Int × List (List (BitVec 8) × Int)) => Prod.fst f == p) = false →
      (decide (ofN x < ofN (List.length L)) = true →
      within (ofN x) (List.length L) ∧
      (((List.getD L (Int.toNat (ofN x)) (T.dflt (T.pair T.str (T.pair T.i64 (T.pair T.i64 (T.slc (T.pair (T.arr 32 T.u8) T.i64))))))).1 == p) = true → ofN x = findV L p ∧ L = L) ∧
      (((List.getD L (Int.toNat (ofN x)) (T.dflt (T.pair T.str (T.pair T.i64 (T.pair T.i64 (T.slc (T.pair (T.arr 32 T.u8) T.i64))))))).1 == p) = false →
      inI64 (ofN x + 1) ∧
      ∃ (x' : Nat),
      (x' ≤ List.length L ∧ (List.any (List.take x' L) fun (f : List (BitVec 8) × Int × Int × List (List (BitVec 8) × Int)) => Prod.fst f == p) = false) ∧
      List.length L - x' < List.length L - x ∧ ofN x + 1 = ofN x')) ∧
      (decide (ofN x < ofN (List.length L)) = false → -1 = findV L p ∧ L = L) := by
  refine ⟨⟨0, ⟨Nat.zero_le _, rfl⟩, rfl⟩, fun x hx => ⟨fun q => ?_, fun q => ?_⟩⟩
  · have h1 := ltN15 q
    refine ⟨wiN h1, fun q2 => ⟨(findV_at h1 hx.2 q2).symm, rfl⟩, fun q2 => ⟨i64N h1 hL, x + 1, ⟨h1, ?_⟩, by omega, rfl⟩⟩
    show ((L.take (x + 1)).any fun f => f.1 == p) = false
    rw [any_snoc h1, Bool.or_eq_false_iff]
    exact ⟨hx.2, q2⟩
  · have h1 := geN15 q
    refine ⟨?_, rfl⟩
    have h2 : ((L.take x).any fun f => f.1 == p) = false := hx.2
    rw [List.take_of_length_le h1] at h2
    exact (findV_no h2).symm
theorem ref15_May_vc (L : List Fil) (r : Rec) :
    ((checkV r != 0) = true → checkV r = rmayV L r ∧ L = L) ∧
      ((checkV r != 0) = false →
      ((r.2.2.2.1 == 3 && decide (findV L r.2.2.2.2.2.1 < 0)) = true → 150 = rmayV L r ∧ L = L) ∧
      ((r.2.2.2.1 == 3 && decide (findV L r.2.2.2.2.2.1 < 0)) = false →
      ((r.2.2.2.1 == 2 && decide (findV L r.2.2.2.2.2.1 < 0) && decide (1024 ≤ ofN (List.length L))) = true → 3 = rmayV L r ∧ L = L) ∧
      ((r.2.2.2.1 == 2 && decide (findV L r.2.2.2.2.2.1 < 0) && decide (1024 ≤ ofN (List.length L))) = false → 0 = rmayV L r ∧ L = L))) := by
  refine ⟨fun q => ⟨?_, rfl⟩, fun q => ?_⟩
  · have hd : decide (checkV r = 0) = false := by simpa using q
    unfold rmayV; rw [hd]; rfl
  · have hd : decide (checkV r = 0) = true := by simpa using q
    have hM : rmayV L r = bif r.2.2.2.1 == 3 && decide (findV L r.2.2.2.2.2.1 < 0) then 150 else bif r.2.2.2.1 == 2 && decide (findV L r.2.2.2.2.2.1 < 0) && decide ((1024 : Int) ≤ L.length) then 3 else 0 := by
      unfold rmayV; rw [hd]; rfl
    rw [hM]
    refine ⟨fun q2 => ⟨by rw [q2]; rfl, rfl⟩, fun q2 => ⟨fun q3 => ⟨?_, rfl⟩, fun q3 => ⟨?_, rfl⟩⟩⟩
    · have q3 : (r.2.2.2.1 == 2 && decide (findV L r.2.2.2.2.2.1 < 0) && decide ((1024 : Int) ≤ L.length)) = true := q3
      rw [q2, q3]; rfl
    · have q3 : (r.2.2.2.1 == 2 && decide (findV L r.2.2.2.2.2.1 < 0) && decide ((1024 : Int) ≤ L.length)) = false := q3
      rw [q2, q3]; rfl
theorem ref15_Apply_vc (L : List Fil) (r : Rec) (h : L.length ≤ 1000000) (hp : r.2.2.2.2.2.2.length ≤ 1000000) :
    ((rmayV L r != 0) = true → rmayV L r = rmayV L r ∧ L = rapplyV L r) ∧
      ((rmayV L r != 0) = false →
      List.length (nilOf (List (BitVec 8) × Int)) + List.length r.2.2.2.2.2.2 ≤ ROOM ∧
      (∃ (x : Nat), x ≤ List.length L ∧ 0 = ofN x ∧ (r.2.2.2.1 != 2) = (rputK L r x).2 ∧ (rputK L r x).1 = nilOf (List (BitVec 8) × Int × Int × List (List (BitVec 8) × Int))) ∧
      ∀ (x : Nat),
      x ≤ List.length L →
      (decide (ofN x < ofN (List.length L)) = true →
      ((!(rputK L r x).2) = true → within (ofN x) (List.length L)) ∧
      ((!(rputK L r x).2 && !lessL (List.getD L (Int.toNat (ofN x)) (T.dflt (T.pair T.str (T.pair T.i64 (T.pair T.i64 (T.slc (T.pair (T.arr 32 T.u8) T.i64))))))).1 r.2.2.2.2.2.1) = true →
      List.length (rputK L r x).1 + List.length [(r.2.2.2.2.2.1, (sizeV r.2.2.2.2.2.2).1, r.1, nilOf (List (BitVec 8) × Int) ++ r.2.2.2.2.2.2)] ≤ ROOM ∧
      within (ofN x) (List.length L) ∧
      (((List.getD L (Int.toNat (ofN x)) (T.dflt (T.pair T.str (T.pair T.i64 (T.pair T.i64 (T.slc (T.pair (T.arr 32 T.u8) T.i64))))))).1 != r.2.2.2.2.2.1) = true →
      within (ofN x) (List.length L) ∧
      List.length ((rputK L r x).1 ++ [(r.2.2.2.2.2.1, (sizeV r.2.2.2.2.2.2).1, r.1, nilOf (List (BitVec 8) × Int) ++ r.2.2.2.2.2.2)]) +
      List.length [List.getD L (Int.toNat (ofN x)) (T.dflt (T.pair T.str (T.pair T.i64 (T.pair T.i64 (T.slc (T.pair (T.arr 32 T.u8) T.i64))))))] ≤
      ROOM ∧
      inI64 (ofN x + 1) ∧
      ∃ (x' : Nat),
      x' ≤ List.length L ∧
      List.length L - x' < List.length L - x ∧
      ofN x + 1 = ofN x' ∧
      true = (rputK L r x').2 ∧
      (rputK L r x).1 ++ [(r.2.2.2.2.2.1, (sizeV r.2.2.2.2.2.2).1, r.1, nilOf (List (BitVec 8) × Int) ++ r.2.2.2.2.2.2)] ++
      [List.getD L (Int.toNat (ofN x)) (T.dflt (T.pair T.str (T.pair T.i64 (T.pair T.i64 (T.slc (T.pair (T.arr 32 T.u8) T.i64))))))] =
      (rputK L r x').1) ∧
      (((List.getD L (Int.toNat (ofN x)) (T.dflt (T.pair T.str (T.pair T.i64 (T.pair T.i64 (T.slc (T.pair (T.arr 32 T.u8) T.i64))))))).1 != r.2.2.2.2.2.1) = false →
      inI64 (ofN x + 1) ∧
      ∃ (x' : Nat),
      x' ≤ List.length L ∧
      List.length L - x' < List.length L - x ∧
      ofN x + 1 = ofN x' ∧
      true = (rputK L r x').2 ∧
      (rputK L r x).1 ++ [(r.2.2.2.2.2.1, (sizeV r.2.2.2.2.2.2).1, r.1, nilOf (List (BitVec 8) × Int) ++ r.2.2.2.2.2.2)] = (rputK L r x').1)) ∧
      ((!(rputK L r x).2 && !lessL (List.getD L (Int.toNat (ofN x)) (T.dflt (T.pair T.str (T.pair T.i64 (T.pair T.i64 (T.slc (T.pair (T.arr 32 T.u8) T.i64))))))).1 r.2.2.2.2.2.1) =
      false →
      within (ofN x) (List.length L) ∧
      (((List.getD L (Int.toNat (ofN x)) (T.dflt (T.pair T.str (T.pair T.i64 (T.pair T.i64 (T.slc (T.pair (T.arr 32 T.u8) T.i64))))))).1 != r.2.2.2.2.2.1) = true →
      within (ofN x) (List.length L) ∧
      List.length (rputK L r x).1 + List.length [List.getD L (Int.toNat (ofN x)) (T.dflt (T.pair T.str (T.pair T.i64 (T.pair T.i64 (T.slc (T.pair (T.arr 32 T.u8) T.i64))))))] ≤
      ROOM ∧
      inI64 (ofN x + 1) ∧
      ∃ (x' : Nat),
      x' ≤ List.length L ∧
      List.length L - x' < List.length L - x ∧
      ofN x + 1 = ofN x' ∧
      (rputK L r x).2 = (rputK L r x').2 ∧
      (rputK L r x).1 ++ [List.getD L (Int.toNat (ofN x)) (T.dflt (T.pair T.str (T.pair T.i64 (T.pair T.i64 (T.slc (T.pair (T.arr 32 T.u8) T.i64))))))] =
      (rputK L r x').1) ∧
      (((List.getD L (Int.toNat (ofN x)) (T.dflt (T.pair T.str (T.pair T.i64 (T.pair T.i64 (T.slc (T.pair (T.arr 32 T.u8) T.i64))))))).1 != r.2.2.2.2.2.1) = false →
      inI64 (ofN x + 1) ∧
      ∃ (x' : Nat),
      x' ≤ List.length L ∧ List.length L - x' < List.length L - x ∧ ofN x + 1 = ofN x' ∧ (rputK L r x).2 = (rputK L r x').2 ∧ (rputK L r x).1 = (rputK L r x').1))) ∧
      (decide (ofN x < ofN (List.length L)) = false →
      ((!(rputK L r x).2) = true →
      List.length (rputK L r x).1 + List.length [(r.2.2.2.2.2.1, (sizeV r.2.2.2.2.2.2).1, r.1, nilOf (List (BitVec 8) × Int) ++ r.2.2.2.2.2.2)] ≤ ROOM ∧
      0 = rmayV L r ∧ (rputK L r x).1 ++ [(r.2.2.2.2.2.1, (sizeV r.2.2.2.2.2.2).1, r.1, nilOf (List (BitVec 8) × Int) ++ r.2.2.2.2.2.2)] = rapplyV L r) ∧
      ((!(rputK L r x).2) = false → 0 = rmayV L r ∧ (rputK L r x).1 = rapplyV L r))) := by
  refine ⟨fun q => ⟨rfl, ?_⟩, fun q => ⟨?_, ⟨0, Nat.zero_le _, rfl, rfl, rfl⟩, fun x hx => ?_⟩⟩
  · have hd : decide (rmayV L r = 0) = false := by simpa using q
    unfold rapplyV; rw [hd]; rfl
  · show 0 + r.2.2.2.2.2.2.length ≤ ROOM
    unfold ROOM; omega
  have h0 : rmayV L r = 0 := by simpa using q
  have hln := rputK_len L r x hx
  have rm : ∀ n : Nat, n ≤ 2000002 → n ≤ ROOM := fun n hn => by unfold ROOM; omega
  refine ⟨fun q1 => ?_, fun q1 => ?_⟩
  · have h1 := ltN15 q1
    have w := wiN h1
    refine ⟨fun _ => w, fun q2 => ⟨rm _ ?_, w, fun q3 => ⟨w, rm _ ?_, rput_tail h1 h ?_⟩, fun q3 => rput_tail h1 h ?_⟩, fun q2 => ⟨w, fun q3 => ⟨w, rm _ ?_, rput_tail h1 h ?_⟩, fun q3 => rput_tail h1 h ?_⟩⟩
    · show (rputK L r x).1.length + 1 ≤ _; omega
    · rw [List.length_append]
      show (rputK L r x).1.length + 1 + 1 ≤ _; omega
    · have q2 : (!(rputK L r x).2 && !lessL (L.getD x T_File.dflt).1 r.2.2.2.2.2.1) = true := q2
      have q3 : ((L.getD x T_File.dflt).1 != r.2.2.2.2.2.1) = true := q3
      unfold rputS; rw [q2, q3]; rfl
    · have q2 : (!(rputK L r x).2 && !lessL (L.getD x T_File.dflt).1 r.2.2.2.2.2.1) = true := q2
      have q3 : ((L.getD x T_File.dflt).1 != r.2.2.2.2.2.1) = false := q3
      unfold rputS; rw [q2, q3]; rfl
    · show (rputK L r x).1.length + 1 ≤ _; omega
    · have q2 : (!(rputK L r x).2 && !lessL (L.getD x T_File.dflt).1 r.2.2.2.2.2.1) = false := q2
      have q3 : ((L.getD x T_File.dflt).1 != r.2.2.2.2.2.1) = true := q3
      unfold rputS; rw [q2, q3]; rfl
    · have q2 : (!(rputK L r x).2 && !lessL (L.getD x T_File.dflt).1 r.2.2.2.2.2.1) = false := q2
      have q3 : ((L.getD x T_File.dflt).1 != r.2.2.2.2.2.1) = false := q3
      unfold rputS; rw [q2, q3]; rfl
  · have hxe : x = L.length := by have := geN15 q1; omega
    have hv : rapplyV L r = bif !(rputK L r x).2 then (rputK L r x).1 ++ [fileOf r] else (rputK L r x).1 := by
      unfold rapplyV rputV; rw [decide_eq_true h0, hxe]; rfl
    refine ⟨fun q2 => ⟨rm _ ?_, h0.symm, ?_⟩, fun q2 => ⟨h0.symm, ?_⟩⟩
    · show (rputK L r x).1.length + 1 ≤ _; omega
    · rw [hv, q2]; rfl
    · rw [hv, q2]; rfl
end Go.Sal
