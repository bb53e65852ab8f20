/- Contracts of ledger: which epochs two sites lead; what does not hold of catalogues. -/
import Derived.Test.YtflcaomdkbnfaaaQCLed2
import Derived.Test.YtflcaomdkbnfaaaQCLay
import Derived.Test.YtflcaomdkbnfaaaQSalLed
set_option maxRecDepth 100000
namespace Go.Sal
open Go.Vse Go.Sal.Nm

abbrev Cats := List (List Rec)
abbrev T_Cats : T := .slc (.slc T_Rec)
abbrev Brc := T_Brc.den
def x_map (S : SState) (t : Nat) : Nat := match S.get t with
  | .sv (.ref (.map l)) => l
  | _ => 0
def x_ints (S : SState) (t : Nat) : List Int := match S.get t with
  | .sv (.own _ .i64 xs) => xs
  | _ => []
def c_leads : PC := D [T_Cats] [.slc .i64] (fun x => some (x.1.flatten.length ≤ 65536)) (fun x => (leadsV x.1, ()))
def midL (cats : Cats) (k j : Nat) : List Rec := (cats.take k).flatten ++ (cats.getD k []).take j
def sitesK (cats : Cats) (k j : Nat) : Sites := (leadS (midL cats k j)).1
def foundK (cats : Cats) (k j : Nat) : List Int := (leadS (midL cats k j)).2
def an_leadsL (cats : Cats) : Nat → SState → Option LoopAnn
  | 4, S => some { X := Nat, slots := fun k => [(14, .sv (.dv (.i64 (ofN k)))), (4, .sv (.ref (.row 11)))], objs := fun k => [(x_map S 3, .mp false .i64 false .i64 (sitesK cats k 0)), (11, .row 3 1 .i64 (foundK cats k 0) false)], inv := fun k => k ≤ cats.length, meas := fun k => cats.length - k }
  | 7, S => some { X := Nat, slots := fun j => [(20, .sv (.dv (.i64 (ofN j)))), (4, .sv (.ref (.row 11)))], objs := fun j => [(x_map S 3, .mp false .i64 false .i64 (sitesK cats (x_int S 14).toNat j)), (11, .row 3 1 .i64 (foundK cats (x_int S 14).toNat j) false)], inv := fun j => j ≤ (cats.getD (x_int S 14).toNat []).length, meas := fun j => (cats.getD (x_int S 14).toNat []).length - j }
  | _, _ => none
def an_leads (cats : Cats) : Ann := { at_ := an_leadsL cats, prune := 1 }
structure pickI (rs : List Rec) (out : List Int) (i k : Nat) (b : Int) (s : Bool) : Prop where
  got : s = true → ∃ i' k', k' < i' ∧ i' < (allL rs).length ∧ candV (allL rs) out i' k' = true ∧ eAt (allL rs) i' = b
  all : ∀ i' k', k' < i' → (i' < i ∨ (i' = i ∧ k' < k)) → i' < (allL rs).length → candV (allL rs) out i' k' = true → s = true ∧ b ≤ eAt (allL rs) i'
def an_qleadsL (cats : Cats) : Nat → SState → Option LoopAnn
  | 3, S => some { X := Nat, slots := fun k => [(4, .sv (.dv (.i64 (ofN k)))), (3, .sv (.own 10 T_Rec (allL (midL cats k 0))))], objs := fun _ => [(10, .tok 81 38), (x_tok S 3, .gone)], inv := fun k => k ≤ cats.length, meas := fun k => cats.length - k }
  | 6, S => some { X := Nat, slots := fun j => [(5, .sv (.dv (.i64 (ofN j)))), (3, .sv (.own 10 T_Rec (allL (midL cats (x_int S 4).toNat j))))], objs := fun _ => [(10, .tok 81 38)], inv := fun j => j ≤ (cats.getD (x_int S 4).toNat []).length, meas := fun j => (cats.getD (x_int S 4).toNat []).length - j }
  | 11, S => some { X := Nat, slots := fun n => [(6, .sv (.own 12 .i64 ((leadsV cats).take n)))], objs := fun _ => [(12, .tok 3 1), (x_tok S 6, .gone)], inv := fun n => n ≤ (leadsV cats).length, meas := fun n => (leadsV cats).length - n }
  | 13, S => some { X := Nat × Int × Bool, slots := fun x => [(9, .sv (.dv (.i64 (ofN x.1)))), (7, .sv (.dv (.i64 x.2.1))), (8, .sv (.dv (.bool x.2.2)))], objs := fun _ => [], inv := fun x => x.1 ≤ (allL cats.flatten).length ∧ pickI cats.flatten (x_ints S 6) x.1 0 x.2.1 x.2.2, meas := fun x => (allL cats.flatten).length - x.1 }
  | 16, S => some { X := Nat × Int × Bool, slots := fun x => [(10, .sv (.dv (.i64 (ofN x.1)))), (7, .sv (.dv (.i64 x.2.1))), (8, .sv (.dv (.bool x.2.2)))], objs := fun _ => [], inv := fun x => x.1 ≤ (x_int S 9).toNat ∧ pickI cats.flatten (x_ints S 6) (x_int S 9).toNat x.1 x.2.1 x.2.2, meas := fun x => (x_int S 9).toNat - x.1 }
  | _, _ => none
def an_qleads (cats : Cats) : Ann := { at_ := an_qleadsL cats, prune := 0 }
def brChain (cats : Cats) (n : Nat) : List Brc := (List.range n).flatMap fun i => bif (walkV head0 (cats.getD i []) 0).2.2 != 0 then [(1, (i : Int), 0)] else []
def apartB (ms : List Mark) (i k : Nat) : Bool := ((ms.getD i T_Mark.dflt).2.1 == (ms.getD k T_Mark.dflt).2.1) && !decide (headM (ms.getD i T_Mark.dflt) = headM (ms.getD k T_Mark.dflt))
def brFork (ms : List Mark) (k n : Nat) : List Brc := (List.range n).flatMap fun i => bif apartB ms i k then [(3, (i : Int), (k : Int))] else []
def brForks (ms : List Mark) (n : Nat) : List Brc := (List.range n).flatMap fun k => brFork ms k k
def brAck (ms : List Mark) (c : List Rec) (i n : Nat) : List Brc := (List.range n).flatMap fun k => bif !hasV c (headM (ms.getD k T_Mark.dflt)) then [(2, (i : Int), (k : Int))] else []
def brAcks (ms : List Mark) (cats : Cats) (n : Nat) : List Brc := (List.range n).flatMap fun i => brAck ms (cats.getD i []) i ms.length
def brLead (es : List Int) (n : Nat) : List Brc := (es.take n).map fun e => (4, e, 0)
def brTo1 (ms : List Mark) (cats : Cats) (k j : Nat) : List Brc := brChain cats cats.length ++ brForks ms k ++ brFork ms k j
def brTo2 (ms : List Mark) (cats : Cats) (i j : Nat) : List Brc := brChain cats cats.length ++ brForks ms ms.length ++ brAcks ms cats i ++ brAck ms (cats.getD i []) i j
def brTo3 (ms : List Mark) (cats : Cats) (n : Nat) : List Brc := brChain cats cats.length ++ brForks ms ms.length ++ brAcks ms cats cats.length ++ brLead (leadsV cats) n
def checkB (ms : List Mark) (cats : Cats) : List Brc := brTo3 ms cats (leadsV cats).length
def okC (ms : List Mark) (cats : Cats) : Prop := cats.length ≤ 4 ∧ ms.length ≤ 1000 ∧ cats.flatten.length ≤ 65536
def c_lCheck : PC := gM T_fsL [T_Cats] fun d x => ⟨some (okC d.2.2.1 x.1), .sv (.dv (.imm T_Brc (checkB d.2.2.1 x.1))), oObj T_fsL 2 d⟩
def c_qCheck : PC := gM T_fsQ [T_Cats] fun d x => ⟨some (okC d.2.1 x.1), .sv (.dv (.imm T_Brc (checkB d.2.1 x.1))), oObj T_fsQ 2 d⟩
def an_CheckL (ms : List Mark) (cats : Cats) : Nat → SState → Option LoopAnn
  | 5, S => some { X := Nat, slots := fun k => [(26, .sv (.dv (.i64 (ofN k)))), (5, .sv (.own 10 T_Brc (brChain cats k)))], objs := fun _ => [(10, .tok 100 3), (x_tok S 5, .gone)], inv := fun k => k ≤ cats.length, meas := fun k => cats.length - k }
  | 12, S => some { X := Nat, slots := fun k => [(51, .sv (.dv (.i64 (ofN k)))), (5, .sv (.own 11 T_Brc (brTo1 ms cats k 0)))], objs := fun _ => [(11, .tok 100 3), (x_tok S 5, .gone)], inv := fun k => k ≤ ms.length, meas := fun k => ms.length - k }
  | 15, S => some { X := Nat, slots := fun j => [(55, .sv (.dv (.i64 (ofN j)))), (5, .sv (.own 11 T_Brc (brTo1 ms cats (x_int S 51).toNat j)))], objs := fun _ => [(11, .tok 100 3)], inv := fun j => j ≤ (x_int S 51).toNat, meas := fun j => (x_int S 51).toNat - j }
  | 23, S => some { X := Nat, slots := fun k => [(94, .sv (.dv (.i64 (ofN k)))), (5, .sv (.own 13 T_Brc (brTo2 ms cats k 0)))], objs := fun _ => [(13, .tok 100 3), (x_tok S 5, .gone)], inv := fun k => k ≤ cats.length, meas := fun k => cats.length - k }
  | 26, S => some { X := Nat, slots := fun j => [(104, .sv (.dv (.i64 (ofN j)))), (5, .sv (.own 13 T_Brc (brTo2 ms cats (x_int S 94).toNat j)))], objs := fun _ => [(13, .tok 100 3)], inv := fun j => j ≤ ms.length, meas := fun j => ms.length - j }
  | 33, S => some { X := Nat, slots := fun n => [(125, .sv (.dv (.i64 (ofN n)))), (5, .sv (.own 15 T_Brc (brTo3 ms cats n)))], objs := fun _ => [(15, .tok 100 3), (x_tok S 5, .gone)], inv := fun n => n ≤ (leadsV cats).length, meas := fun n => (leadsV cats).length - n }
  | _, _ => none
def an_Check (ms : List Mark) (cats : Cats) : Ann := { at_ := an_CheckL ms cats, pins := [1, 2, 3, 4], prune := 1 }
def an_qCheckL (ms : List Mark) (cats : Cats) : Nat → SState → Option LoopAnn
  | 3, S => some { X := Nat, slots := fun k => [(6, .sv (.dv (.i64 (ofN k)))), (5, .sv (.own 10 T_Brc (brChain cats k)))], objs := fun _ => [(10, .tok 100 3), (x_tok S 5, .gone)], inv := fun k => k ≤ cats.length, meas := fun k => cats.length - k }
  | 9, S => some { X := Nat, slots := fun k => [(10, .sv (.dv (.i64 (ofN k)))), (5, .sv (.own 11 T_Brc (brTo1 ms cats k 0)))], objs := fun _ => [(11, .tok 100 3), (x_tok S 5, .gone)], inv := fun k => k ≤ ms.length, meas := fun k => ms.length - k }
  | 12, S => some { X := Nat, slots := fun j => [(11, .sv (.dv (.i64 (ofN j)))), (5, .sv (.own 11 T_Brc (brTo1 ms cats (x_int S 10).toNat j)))], objs := fun _ => [(11, .tok 100 3)], inv := fun j => j ≤ (x_int S 10).toNat, meas := fun j => (x_int S 10).toNat - j }
  | 17, S => some { X := Nat, slots := fun k => [(12, .sv (.dv (.i64 (ofN k)))), (5, .sv (.own 13 T_Brc (brTo2 ms cats k 0)))], objs := fun _ => [(13, .tok 100 3), (x_tok S 5, .gone)], inv := fun k => k ≤ cats.length, meas := fun k => cats.length - k }
  | 20, S => some { X := Nat, slots := fun j => [(13, .sv (.dv (.i64 (ofN j)))), (5, .sv (.own 13 T_Brc (brTo2 ms cats (x_int S 12).toNat j)))], objs := fun _ => [(13, .tok 100 3)], inv := fun j => j ≤ ms.length, meas := fun j => ms.length - j }
  | 26, S => some { X := Nat, slots := fun n => [(15, .sv (.dv (.i64 (ofN n)))), (5, .sv (.own 15 T_Brc (brTo3 ms cats n)))], objs := fun _ => [(15, .tok 100 3), (x_tok S 5, .gone)], inv := fun n => n ≤ (leadsV cats).length, meas := fun n => (leadsV cats).length - n }
  | _, _ => none
def an_qCheck (ms : List Mark) (cats : Cats) : Ann := { at_ := an_qCheckL ms cats, pins := [1, 2, 3], prune := 1 }
def someC (l : Cats) : Cats := (l.take 4).map (fewT 30)
def c_some24 : PC := D [T_Cats] [T_Cats] (fun _ => none) (fun x => (someC x.1, ()))
def withinV (a b : List Brc) : Bool := a.all fun x => b.any fun y => decide (x = y)
def c_within : PC := D [.slc T_Brc, .slc T_Brc] [.bool] (fun _ => none) (fun x => (withinV x.1 x.2.1, ()))

theorem slices_Sort_int_spec : Vse.Spec P f_slices_Sort_int (c_sortI 3) := spec_sortI 3 ⟨_, _, h_slices_Sort_int, rfl, rfl⟩ (fun g cap zs w hH hg hn => Go.Proofs.Any.slices_Sort_int Go.Proofs.Try.lays189 g 0 cap zs w hH hg hn) (fun w => Go.Proofs.Any.slices_Sort_int_none Go.Proofs.Try.lays189 none 0 w)

theorem slices_Compact_int_spec : Vse.Spec P f_slices_Compact_int (c_compactI 3) := spec_compactI 3 ⟨_, _, h_slices_Compact_int, rfl, rfl⟩ (fun g cap zs w hH hn hc => Go.Proofs.Any.slices_Compact_int Go.Proofs.Try.lays2_20 g 0 cap zs w hH hn hc) (fun w => Go.Proofs.Any.slices_Compact_int_empty Go.Proofs.Try.lays2_20 none 0 w)

theorem ltN {x n : Nat} (h : decide (ofN x < ofN n) = true) : x < n := by have h : (x : Int) < (n : Int) := of_decide_eq_true h; omega
theorem geN {x n : Nat} (h : decide (ofN x < ofN n) = false) : n ≤ x := by have h : ¬ (x : Int) < (n : Int) := of_decide_eq_false h; omega
theorem wN {x n : Nat} (h : x < n) : within (ofN x) n := ⟨by show (0 : Int) ≤ (x : Int); omega, by show (x : Int) < (n : Int); omega⟩
theorem inN {x : Nat} (h : x < 9223372036854775807) : inI64 (ofN x + 1) := by show inI64 ((x : Int) + 1); unfold inI64; omega
theorem getD_mem' {α : Type} {l : List α} {i : Nat} (d : α) (h : i < l.length) : l.getD i d ∈ l := by rw [getD_lt h]; exact List.getElem_mem h
theorem midL_0 (cats : Cats) (k : Nat) : midL cats k 0 = (cats.take k).flatten := by unfold midL; rw [List.take_zero, List.append_nil]
theorem midL_snoc {cats : Cats} {k j : Nat} (h : j < (cats.getD k []).length) : midL cats k (j + 1) = midL cats k j ++ [(cats.getD k []).getD j T_Rec.dflt] := by
  unfold midL
  rw [take_snoc' (d := T_Rec.dflt) h, List.append_assoc]
theorem midL_next {cats : Cats} {k j : Nat} (h : k < cats.length) (hj : (cats.getD k []).length ≤ j) : midL cats k j = midL cats (k + 1) 0 := by
  rw [midL_0, take_snoc' (d := []) h]
  unfold midL
  rw [List.take_of_length_le hj, List.flatten_append, List.flatten_singleton]
theorem midL_all {cats : Cats} {k : Nat} (h : cats.length ≤ k) : midL cats k 0 = cats.flatten := by rw [midL_0, List.take_of_length_le h]
theorem midL_len {cats : Cats} {k j : Nat} (h : k < cats.length) : (midL cats k j).length ≤ cats.flatten.length := by
  have e : cats = cats.take k ++ cats.getD k [] :: cats.drop (k + 1) := by
    rw [getD_lt h]
    exact (List.take_append_drop k cats).symm.trans (by rw [List.drop_eq_getElem_cons h])
  have : cats.flatten.length = (cats.take k).flatten.length + ((cats.getD k []).length + (cats.drop (k + 1)).flatten.length) := by
    conv => lhs; rw [e]
    rw [List.flatten_append, List.length_append, List.flatten_cons, List.length_append]
  unfold midL
  rw [List.length_append, List.length_take, this]
  omega
theorem step1 {st : Sites × List Int} {r : Rec} (q : (!(r.2.2.2.1 == 1)) = true) : stepL st r = st := by unfold stepL; rw [q]; rfl
theorem step2 {st : Sites × List Int} {r : Rec} (q : (!(r.2.2.2.1 == 1)) = false) (q2 : (!(mget .i64 st.1 r.2.1).isSome) = true) : stepL st r = (mput .i64 st.1 r.2.1 r.2.2.2.2.1, st.2) := by unfold stepL; rw [q, q2]; rfl
theorem step3 {st : Sites × List Int} {r : Rec} (q : (!(r.2.2.2.1 == 1)) = false) (q2 : (!(mget .i64 st.1 r.2.1).isSome) = false) (q3 : ((mget .i64 st.1 r.2.1).getD 0 != r.2.2.2.2.1) = true) : stepL st r = (st.1, st.2 ++ [r.2.1]) := by unfold stepL; rw [q, q2, q3]; rfl
theorem step4 {st : Sites × List Int} {r : Rec} (q : (!(r.2.2.2.1 == 1)) = false) (q2 : (!(mget .i64 st.1 r.2.1).isSome) = false) (q3 : ((mget .i64 st.1 r.2.1).getD 0 != r.2.2.2.2.1) = false) : stepL st r = st := by unfold stepL; rw [q, q2, q3]; rfl

theorem ledger_leads_vc (cats : Cats) (h : cats.flatten.length ≤ 65536) (hc : cats.length ≤ LIM) (hr : ∀ c ∈ cats, c.length ≤ LIM) :
    (∃ (x : Nat), x ≤ List.length cats ∧ 0 = ofN x ∧ nilOf (Int × Int) = sitesK cats x 0 ∧ foundK cats x 0 = nilOf Int) ∧
      ∀ (x : Nat),
      x ≤ List.length cats →
      (decide (ofN x < ofN (List.length cats)) = true →
      within (ofN x) (List.length cats) ∧
      (∃ (x_1 : Nat),
      x_1 ≤ List.length (List.getD cats (Int.toNat (ofN x)) (nilOf (Int × Int × List (BitVec 8) × Int × Int × List (BitVec 8) × List (List (BitVec 8) × Int)))) ∧
      0 = ofN x_1 ∧ sitesK cats x 0 = sitesK cats (Int.toNat (ofN x)) x_1 ∧ foundK cats x 0 = foundK cats (Int.toNat (ofN x)) x_1) ∧
      ∀ (x_1 : Nat),
      x_1 ≤ List.length (List.getD cats (Int.toNat (ofN x)) (nilOf (Int × Int × List (BitVec 8) × Int × Int × List (BitVec 8) × List (List (BitVec 8) × Int)))) →
      (decide
      (ofN x_1 <
      ofN
      (List.length
      (List.getD cats (Int.toNat (ofN x))
      (T.dflt (T.slc T_Rec))))) =
      true →
      within (ofN x_1)
      (List.length
      (List.getD cats (Int.toNat (ofN x))
      (T.dflt (T.slc T_Rec)))) ∧
      (((List.getD
      (List.getD cats (Int.toNat (ofN x))
      (T.dflt (T.slc T_Rec)))
      (Int.toNat (ofN x_1))
      (T.dflt
      T_Rec)).2.2.2.1 !=
      1) =
      true →
      inI64 (ofN x_1 + 1) ∧
      ∃ (x' : Nat),
      x' ≤ List.length (List.getD cats (Int.toNat (ofN x)) (nilOf (Int × Int × List (BitVec 8) × Int × Int × List (BitVec 8) × List (List (BitVec 8) × Int)))) ∧
      List.length (List.getD cats (Int.toNat (ofN x)) (nilOf (Int × Int × List (BitVec 8) × Int × Int × List (BitVec 8) × List (List (BitVec 8) × Int)))) - x' <
      List.length (List.getD cats (Int.toNat (ofN x)) (nilOf (Int × Int × List (BitVec 8) × Int × Int × List (BitVec 8) × List (List (BitVec 8) × Int)))) - x_1 ∧
      ofN x_1 + 1 = ofN x' ∧
      sitesK cats (Int.toNat (ofN x)) x_1 = sitesK cats (Int.toNat (ofN x)) x' ∧ foundK cats (Int.toNat (ofN x)) x_1 = foundK cats (Int.toNat (ofN x)) x') ∧
      (((List.getD
      (List.getD cats (Int.toNat (ofN x))
      (T.dflt (T.slc T_Rec)))
      (Int.toNat (ofN x_1))
      (T.dflt
      T_Rec)).2.2.2.1 !=
      1) =
      false →
      ((!Option.isSome
      (mget T.i64 (sitesK cats (Int.toNat (ofN x)) x_1)
      (List.getD
      (List.getD cats (Int.toNat (ofN x))
      (T.dflt
      (T.slc T_Rec)))
      (Int.toNat (ofN x_1))
      (T.dflt
      T_Rec)).2.1)) =
      true →
      inI64 (ofN x_1 + 1) ∧
      ∃ (x' : Nat),
      x' ≤ List.length (List.getD cats (Int.toNat (ofN x)) (nilOf (Int × Int × List (BitVec 8) × Int × Int × List (BitVec 8) × List (List (BitVec 8) × Int)))) ∧
      List.length (List.getD cats (Int.toNat (ofN x)) (nilOf (Int × Int × List (BitVec 8) × Int × Int × List (BitVec 8) × List (List (BitVec 8) × Int)))) - x' <
      List.length (List.getD cats (Int.toNat (ofN x)) (nilOf (Int × Int × List (BitVec 8) × Int × Int × List (BitVec 8) × List (List (BitVec 8) × Int)))) - x_1 ∧
      ofN x_1 + 1 = ofN x' ∧
      mput T.i64 (sitesK cats (Int.toNat (ofN x)) x_1)
      (List.getD
      (List.getD cats (Int.toNat (ofN x))
      (T.dflt
      (T.slc
      T_Rec)))
      (Int.toNat (ofN x_1))
      (T.dflt
      T_Rec)).2.1
      (List.getD
      (List.getD cats (Int.toNat (ofN x))
      (T.dflt
      (T.slc
      T_Rec)))
      (Int.toNat (ofN x_1))
      (T.dflt
      T_Rec)).2.2.2.2.1 =
      sitesK cats (Int.toNat (ofN x)) x' ∧
      foundK cats (Int.toNat (ofN x)) x_1 = foundK cats (Int.toNat (ofN x)) x') ∧
      ((!Option.isSome
      (mget T.i64 (sitesK cats (Int.toNat (ofN x)) x_1)
      (List.getD
      (List.getD cats (Int.toNat (ofN x))
      (T.dflt
      (T.slc T_Rec)))
      (Int.toNat (ofN x_1))
      (T.dflt
      T_Rec)).2.1)) =
      false →
      ((Option.getD
      (mget T.i64 (sitesK cats (Int.toNat (ofN x)) x_1)
      (List.getD
      (List.getD cats (Int.toNat (ofN x))
      (T.dflt
      (T.slc
      T_Rec)))
      (Int.toNat (ofN x_1))
      (T.dflt
      T_Rec)).2.1)
      (T.dflt T.i64) !=
      (List.getD
      (List.getD cats (Int.toNat (ofN x))
      (T.dflt
      (T.slc
      T_Rec)))
      (Int.toNat (ofN x_1))
      (T.dflt
      T_Rec)).2.2.2.2.1) =
      true →
      List.length (foundK cats (Int.toNat (ofN x)) x_1) +
      List.length
      [(List.getD
      (List.getD cats (Int.toNat (ofN x))
      (T.dflt
      (T.slc
      T_Rec)))
      (Int.toNat (ofN x_1))
      (T.dflt
      T_Rec)).2.1] ≤
      ROOM ∧
      inI64 (ofN x_1 + 1) ∧
      ∃ (x' : Nat),
      x' ≤ List.length (List.getD cats (Int.toNat (ofN x)) (nilOf (Int × Int × List (BitVec 8) × Int × Int × List (BitVec 8) × List (List (BitVec 8) × Int)))) ∧
      List.length (List.getD cats (Int.toNat (ofN x)) (nilOf (Int × Int × List (BitVec 8) × Int × Int × List (BitVec 8) × List (List (BitVec 8) × Int)))) - x' <
      List.length (List.getD cats (Int.toNat (ofN x)) (nilOf (Int × Int × List (BitVec 8) × Int × Int × List (BitVec 8) × List (List (BitVec 8) × Int)))) -
      x_1 ∧
      ofN x_1 + 1 = ofN x' ∧
      sitesK cats (Int.toNat (ofN x)) x_1 = sitesK cats (Int.toNat (ofN x)) x' ∧
      foundK cats (Int.toNat (ofN x)) x_1 ++
      [(List.getD
      (List.getD cats (Int.toNat (ofN x))
      (T.dflt
      (T.slc
      T_Rec)))
      (Int.toNat (ofN x_1))
      (T.dflt
      T_Rec)).2.1] =
      foundK cats (Int.toNat (ofN x)) x') ∧
      ((Option.getD
      (mget T.i64 (sitesK cats (Int.toNat (ofN x)) x_1)
      (List.getD
      (List.getD cats (Int.toNat (ofN x))
      (T.dflt
      (T.slc
      T_Rec)))
      (Int.toNat (ofN x_1))
      (T.dflt
      T_Rec)).2.1)
      (T.dflt T.i64) !=
      (List.getD
      (List.getD cats (Int.toNat (ofN x))
      (T.dflt
      (T.slc
      T_Rec)))
      (Int.toNat (ofN x_1))
      (T.dflt
      T_Rec)).2.2.2.2.1) =
      false →
      inI64 (ofN x_1 + 1) ∧
      ∃ (x' : Nat),
      x' ≤ List.length (List.getD cats (Int.toNat (ofN x)) (nilOf (Int × Int × List (BitVec 8) × Int × Int × List (BitVec 8) × List (List (BitVec 8) × Int)))) ∧
      List.length (List.getD cats (Int.toNat (ofN x)) (nilOf (Int × Int × List (BitVec 8) × Int × Int × List (BitVec 8) × List (List (BitVec 8) × Int)))) - x' <
      List.length (List.getD cats (Int.toNat (ofN x)) (nilOf (Int × Int × List (BitVec 8) × Int × Int × List (BitVec 8) × List (List (BitVec 8) × Int)))) -
      x_1 ∧
      ofN x_1 + 1 = ofN x' ∧
      sitesK cats (Int.toNat (ofN x)) x_1 = sitesK cats (Int.toNat (ofN x)) x' ∧ foundK cats (Int.toNat (ofN x)) x_1 = foundK cats (Int.toNat (ofN x)) x')))) ∧
      (decide
      (ofN x_1 <
      ofN
      (List.length
      (List.getD cats (Int.toNat (ofN x))
      (T.dflt (T.slc T_Rec))))) =
      false →
      inI64 (ofN x + 1) ∧
      ∃ (x' : Nat),
      x' ≤ List.length cats ∧
      List.length cats - x' < List.length cats - x ∧
      ofN x + 1 = ofN x' ∧ sitesK cats (Int.toNat (ofN x)) x_1 = sitesK cats x' 0 ∧ foundK cats (Int.toNat (ofN x)) x_1 = foundK cats x' 0)) ∧
      (decide (ofN x < ofN (List.length cats)) = false →
      List.length (foundK cats x 0) < 4611686018427387904 ∧
      List.length (List.mergeSort (foundK cats x 0) leI) ≤ 4611686018427387904 ∧
      List.map (Array.get!Internal { toList := List.mergeSort (foundK cats x 0) leI })
      (List.filter (Lib.keeps { toList := List.mergeSort (foundK cats x 0) leI }) (List.range (List.length (List.mergeSort (foundK cats x 0) leI)))) =
      leadsV cats) := by
  unfold LIM at hc
  refine ⟨⟨0, Nat.zero_le _, rfl, rfl, rfl⟩, fun x hx => ⟨fun q => ?_, fun q => ?_⟩⟩
  · have hlt : x < cats.length := ltN q
    have hcl := hr _ (getD_mem' [] hlt)
    unfold LIM at hcl
    have hm : ∀ j, (midL cats x j).length ≤ 65536 := fun j => Nat.le_trans (midL_len hlt) h
    rw [show Int.toNat (ofN x) = x from rfl, show T.dflt (T.slc T_Rec) = ([] : List Rec) from rfl]
    refine ⟨wN hlt, ⟨0, Nat.zero_le _, rfl, rfl, rfl⟩, fun y hy => ⟨fun q2 => ?_, fun q2 => ?_⟩⟩
    · have hy2 : y < (cats.getD x []).length := ltN q2
      have st : leadS (midL cats x (y + 1)) = stepL (leadS (midL cats x y)) ((cats.getD x []).getD y T_Rec.dflt) := by rw [midL_snoc hy2, leadS_snoc]
      have hfl : (foundK cats x y).length ≤ 65536 := Nat.le_trans (leadS_len _) (hm y)
      rw [show Int.toNat (ofN y) = y from rfl]
      generalize (cats.getD x []).getD y T_Rec.dflt = r at st ⊢
      have w1 : within (ofN y) (cats.getD x []).length := wN hy2
      have i1 : inI64 (ofN y + 1) := inN (by omega)
      refine ⟨w1, fun q3 => ⟨i1, y + 1, hy2, Nat.sub_lt_sub_left hy2 (Nat.lt_succ_self y), rfl, ?_, ?_⟩, fun q3 => ⟨fun q4 => ⟨i1, y + 1, hy2, Nat.sub_lt_sub_left hy2 (Nat.lt_succ_self y), rfl, ?_, ?_⟩, fun q4 => ⟨fun q5 => ⟨?_, i1, y + 1, hy2, Nat.sub_lt_sub_left hy2 (Nat.lt_succ_self y), rfl, ?_, ?_⟩, fun q5 => ⟨i1, y + 1, hy2, Nat.sub_lt_sub_left hy2 (Nat.lt_succ_self y), rfl, ?_, ?_⟩⟩⟩⟩
      · unfold sitesK; rw [st, step1 q3]
      · unfold foundK; rw [st, step1 q3]
      · unfold sitesK; rw [st, step2 q3 q4]
      · unfold foundK; rw [st, step2 q3 q4]
      · show (foundK cats x y).length + 1 ≤ ROOM; unfold ROOM; omega
      · unfold sitesK; rw [st, step3 q3 q4 q5]
      · unfold foundK; rw [st, step3 q3 q4 q5]
      · unfold sitesK; rw [st, step4 q3 q4 q5]
      · unfold foundK; rw [st, step4 q3 q4 q5]
    · have hy2 : (cats.getD x []).length ≤ y := geN q2
      refine ⟨inN (by omega), x + 1, hlt, by omega, rfl, ?_, ?_⟩
      · unfold sitesK; rw [midL_next hlt hy2]
      · unfold foundK; rw [midL_next hlt hy2]
  · have hge : cats.length ≤ x := geN q
    have hF : foundK cats x 0 = (leadS cats.flatten).2 := by unfold foundK; rw [midL_all hge]
    have hl : (leadS cats.flatten).2.length ≤ 65536 := Nat.le_trans (leadS_len _) h
    rw [hF]
    refine ⟨by omega, ?_, rfl⟩
    show (sortL (leadS cats.flatten).2).length ≤ _
    rw [(sortL_perm _).length_eq]; omega

theorem allL_snoc (rs : List Rec) (r : Rec) : allL (rs ++ [r]) = bif r.2.2.2.1 == 1 then allL rs ++ [r] else allL rs := by
  have e : List.filter isLeadB [r] = bif r.2.2.2.1 == 1 then [r] else [] := by
    show _ = bif isLeadB r then [r] else []
    cases h : isLeadB r <;> simp [List.filter, h]
  unfold allL
  rw [List.filter_append, e]
  cases (r.2.2.2.1 == (1 : Int)) with
  | true => rfl
  | false => exact List.append_nil _
theorem allL_len (rs : List Rec) : (allL rs).length ≤ rs.length := List.length_filter_le _ _
theorem cand_eq (all : List Rec) (out : List Int) (i k : Nat) : ((all.getD k T_Rec.dflt).2.1 != (all.getD i T_Rec.dflt).2.1 || (all.getD k T_Rec.dflt).2.2.2.2.1 == (all.getD i T_Rec.dflt).2.2.2.2.1 || decide (0 < ofN out.length) && decide ((all.getD i T_Rec.dflt).2.1 ≤ out.getD (out.length - 1) (T.dflt .i64))) = !candV all out i k := by
  unfold candV eAt sAt
  simp only [bne]
  have e : T.dflt .i64 = (0 : Int) := rfl
  rw [e]
  show (!(_) || _ || decide (0 < (out.length : Int)) && _) = _
  cases ((all.getD k T_Rec.dflt).2.1 == (all.getD i T_Rec.dflt).2.1) <;> cases ((all.getD k T_Rec.dflt).2.2.2.2.1 == (all.getD i T_Rec.dflt).2.2.2.2.1) <;> cases decide (0 < (out.length : Int)) <;> cases decide ((all.getD i T_Rec.dflt).2.1 ≤ out.getD (out.length - 1) 0) <;> rfl
theorem pick_0 (rs : List Rec) (out : List Int) (b : Int) : pickI rs out 0 0 b false := ⟨fun h => (by cases h), fun i' k' h1 h2 => (by omega)⟩
theorem pick_no {rs : List Rec} {out : List Int} {i k : Nat} {b : Int} {s : Bool} (h : pickI rs out i k b s) (hc : candV (allL rs) out i k = false) : pickI rs out i (k + 1) b s :=
  ⟨h.got, fun i' k' h1 h2 h3 h4 => by
    by_cases e : i' = i ∧ k' = k
    · rw [e.1, e.2, hc] at h4; cases h4
    · exact h.all i' k' h1 (by omega) h3 h4⟩
theorem pick_new {rs : List Rec} {out : List Int} {i k : Nat} {b : Int} {s : Bool} (h : pickI rs out i k b s) (hk : k < i) (hi : i < (allL rs).length) (hc : candV (allL rs) out i k = true) (hb : s = false ∨ eAt (allL rs) i < b) : pickI rs out i (k + 1) (eAt (allL rs) i) true :=
  ⟨fun _ => ⟨i, k, hk, hi, hc, rfl⟩, fun i' k' h1 h2 h3 h4 => by
    refine ⟨rfl, ?_⟩
    by_cases e : i' = i ∧ k' = k
    · rw [e.1]; exact Int.le_refl _
    · obtain ⟨g1, g2⟩ := h.all i' k' h1 (by omega) h3 h4
      rcases hb with hb | hb
      · rw [hb] at g1; cases g1
      · omega⟩
theorem pick_old {rs : List Rec} {out : List Int} {i k : Nat} {b : Int} {s : Bool} (h : pickI rs out i k b s) (hs : s = true) (hb : b ≤ eAt (allL rs) i) : pickI rs out i (k + 1) b s :=
  ⟨h.got, fun i' k' h1 h2 h3 h4 => by
    by_cases e : i' = i ∧ k' = k
    · rw [e.1]; exact ⟨hs, hb⟩
    · exact h.all i' k' h1 (by omega) h3 h4⟩
theorem pick_next {rs : List Rec} {out : List Int} {i k : Nat} {b : Int} {s : Bool} (hk : i ≤ k) (h : pickI rs out i k b s) : pickI rs out (i + 1) 0 b s :=
  ⟨h.got, fun i' k' h1 h2 h3 h4 => h.all i' k' h1 (by omega) h3 h4⟩
theorem cand_lim {cats : Cats} {n i k : Nat} (hn : n ≤ (leadsV cats).length) : candV (allL cats.flatten) ((leadsV cats).take n) i k = true ↔ eAt (allL cats.flatten) k = eAt (allL cats.flatten) i ∧ sAt (allL cats.flatten) k ≠ sAt (allL cats.flatten) i ∧ (n = 0 ∨ (leadsV cats).getD (n - 1) 0 < eAt (allL cats.flatten) i) := by
  unfold candV
  have hl : ((leadsV cats).take n).length = n := by rw [List.length_take]; omega
  rw [hl]
  have hg : 0 < n → ((leadsV cats).take n).getD (n - 1) 0 = (leadsV cats).getD (n - 1) 0 := fun h0 => by
    rw [List.getD_eq_getElem?_getD, List.getD_eq_getElem?_getD, List.getElem?_take, if_pos (by omega)]
  simp only [Bool.and_eq_true, Bool.not_eq_true', beq_iff_eq, Bool.and_eq_false_iff, decide_eq_false_iff_not, beq_eq_false_iff_ne, and_assoc]
  refine and_congr_right fun _ => and_congr_right fun _ => ⟨fun h => ?_, fun h => ?_⟩
  · rcases h with h | h
    · left; omega
    · by_cases h0 : n = 0
      · exact .inl h0
      · right; rw [hg (by omega)] at h; omega
  · by_cases h0 : n = 0
    · left; omega
    · right
      rcases h with h | h
      · exact absurd h h0
      · rw [hg (by omega)]; omega
theorem pick_none {cats : Cats} {n j : Nat} {b : Int} (hn : n ≤ (leadsV cats).length) (hj : (allL cats.flatten).length ≤ j) (h : pickI cats.flatten ((leadsV cats).take n) j 0 b false) : n = (leadsV cats).length := by
  refine noneE_of (leadsV_sorted cats) hn fun e he hl => ?_
  obtain ⟨i, k, h1, h2, e1, e2, h3⟩ := (two_pairs _ _).1 ((mem_leadsV _ _).1 he)
  have := (h.all i k h1 (by omega) h2 ((cand_lim hn).2 ⟨e2.trans e1.symm, h3, e1 ▸ hl⟩)).1
  cases this
theorem pick_some {cats : Cats} {n j : Nat} {b : Int} (hn : n ≤ (leadsV cats).length) (hj : (allL cats.flatten).length ≤ j) (h : pickI cats.flatten ((leadsV cats).take n) j 0 b true) : n < (leadsV cats).length ∧ (leadsV cats).getD n 0 = b := by
  obtain ⟨i, k, h1, h2, hc, hb⟩ := h.got rfl
  obtain ⟨c1, c2, c3⟩ := (cand_lim hn).1 hc
  refine nextE_of (leadsV_sorted cats) hn ((mem_leadsV _ _).2 ((two_pairs _ _).2 ⟨i, k, h1, h2, hb, c1.trans hb, c2⟩)) (hb ▸ c3) fun e he hl => ?_
  obtain ⟨i', k', h1', h2', e1, e2, h3⟩ := (two_pairs _ _).1 ((mem_leadsV _ _).1 he)
  have := (h.all i' k' h1' (by omega) h2' ((cand_lim hn).2 ⟨e2.trans e1.symm, h3, e1 ▸ hl⟩)).2
  rw [e1] at this; exact this

theorem ref24_leads_vc (cats : Cats) (h : cats.flatten.length ≤ 65536) (hc : cats.length ≤ LIM) (hr : ∀ c ∈ cats, c.length ≤ LIM) :
    (∃ (x : Nat), x ≤ List.length cats ∧ 0 = ofN x ∧ allL (midL cats x 0) = nilOf (Int × Int × List (BitVec 8) × Int × Int × List (BitVec 8) × List (List (BitVec 8) × Int))) ∧
      ∀ (x : Nat),
      x ≤ List.length cats →
      (decide (ofN x < ofN (List.length cats)) = true →
      (∃ (x_1 : Nat),
      x_1 ≤ List.length (List.getD cats (Int.toNat (ofN x)) (nilOf (Int × Int × List (BitVec 8) × Int × Int × List (BitVec 8) × List (List (BitVec 8) × Int)))) ∧
      0 = ofN x_1 ∧ allL (midL cats x 0) = allL (midL cats (Int.toNat (ofN x)) x_1)) ∧
      ∀ (x_1 : Nat),
      x_1 ≤ List.length (List.getD cats (Int.toNat (ofN x)) (nilOf (Int × Int × List (BitVec 8) × Int × Int × List (BitVec 8) × List (List (BitVec 8) × Int)))) →
      within (ofN x) (List.length cats) ∧
      (decide
      (ofN x_1 <
      ofN
      (List.length
      (List.getD cats (Int.toNat (ofN x))
      (T.dflt (T.slc T_Rec))))) =
      true →
      within (ofN x) (List.length cats) ∧
      within (ofN x_1)
      (List.length
      (List.getD cats (Int.toNat (ofN x))
      (T.dflt (T.slc T_Rec)))) ∧
      (((List.getD
      (List.getD cats (Int.toNat (ofN x))
      (T.dflt
      (T.slc T_Rec)))
      (Int.toNat (ofN x_1))
      (T.dflt
      T_Rec)).2.2.2.1 ==
      1) =
      true →
      within (ofN x) (List.length cats) ∧
      within (ofN x_1)
      (List.length
      (List.getD cats (Int.toNat (ofN x))
      (T.dflt (T.slc T_Rec)))) ∧
      List.length (allL (midL cats (Int.toNat (ofN x)) x_1)) +
      List.length
      [List.getD
      (List.getD cats (Int.toNat (ofN x))
      (T.dflt
      (T.slc T_Rec)))
      (Int.toNat (ofN x_1))
      (T.dflt T_Rec)] ≤
      ROOM ∧
      inI64 (ofN x_1 + 1) ∧
      ∃ (x' : Nat),
      x' ≤ List.length (List.getD cats (Int.toNat (ofN x)) (nilOf (Int × Int × List (BitVec 8) × Int × Int × List (BitVec 8) × List (List (BitVec 8) × Int)))) ∧
      List.length (List.getD cats (Int.toNat (ofN x)) (nilOf (Int × Int × List (BitVec 8) × Int × Int × List (BitVec 8) × List (List (BitVec 8) × Int)))) - x' <
      List.length (List.getD cats (Int.toNat (ofN x)) (nilOf (Int × Int × List (BitVec 8) × Int × Int × List (BitVec 8) × List (List (BitVec 8) × Int)))) -
      x_1 ∧
      ofN x_1 + 1 = ofN x' ∧
      allL (midL cats (Int.toNat (ofN x)) x_1) ++
      [List.getD
      (List.getD cats (Int.toNat (ofN x))
      (T.dflt
      (T.slc
      T_Rec)))
      (Int.toNat (ofN x_1))
      (T.dflt
      T_Rec)] =
      allL (midL cats (Int.toNat (ofN x)) x')) ∧
      (((List.getD
      (List.getD cats (Int.toNat (ofN x))
      (T.dflt
      (T.slc T_Rec)))
      (Int.toNat (ofN x_1))
      (T.dflt
      T_Rec)).2.2.2.1 ==
      1) =
      false →
      inI64 (ofN x_1 + 1) ∧
      ∃ (x' : Nat),
      x' ≤ List.length (List.getD cats (Int.toNat (ofN x)) (nilOf (Int × Int × List (BitVec 8) × Int × Int × List (BitVec 8) × List (List (BitVec 8) × Int)))) ∧
      List.length (List.getD cats (Int.toNat (ofN x)) (nilOf (Int × Int × List (BitVec 8) × Int × Int × List (BitVec 8) × List (List (BitVec 8) × Int)))) - x' <
      List.length (List.getD cats (Int.toNat (ofN x)) (nilOf (Int × Int × List (BitVec 8) × Int × Int × List (BitVec 8) × List (List (BitVec 8) × Int)))) - x_1 ∧
      ofN x_1 + 1 = ofN x' ∧ allL (midL cats (Int.toNat (ofN x)) x_1) = allL (midL cats (Int.toNat (ofN x)) x'))) ∧
      (decide
      (ofN x_1 <
      ofN
      (List.length
      (List.getD cats (Int.toNat (ofN x))
      (T.dflt (T.slc T_Rec))))) =
      false →
      inI64 (ofN x + 1) ∧
      ∃ (x' : Nat), x' ≤ List.length cats ∧ List.length cats - x' < List.length cats - x ∧ ofN x + 1 = ofN x' ∧ allL (midL cats (Int.toNat (ofN x)) x_1) = allL (midL cats x' 0))) ∧
      (decide (ofN x < ofN (List.length cats)) = false →
      (∃ (x : Nat), x ≤ List.length (leadsV cats) ∧ List.take x (leadsV cats) = nilOf Int) ∧
      ∀ (x_1 : Nat),
      x_1 ≤ List.length (leadsV cats) →
      (∃ (x : Nat × Int × Bool),
      (x.1 ≤ List.length (allL (List.flatten cats)) ∧ pickI (List.flatten cats) (List.take x_1 (leadsV cats)) x.1 0 x.2.1 x.2.2) ∧ 0 = ofN x.1 ∧ 0 = x.2.1 ∧ false = x.2.2) ∧
      ∀ (x_2 : Nat × Int × Bool),
      x_2.1 ≤ List.length (allL (List.flatten cats)) ∧ pickI (List.flatten cats) (List.take x_1 (leadsV cats)) x_2.1 0 x_2.2.1 x_2.2.2 →
      (decide (ofN x_2.1 < ofN (List.length (allL (midL cats x 0)))) = true →
      (∃ (x : Nat × Int × Bool),
      (x.1 ≤ Int.toNat (ofN x_2.1) ∧ pickI (List.flatten cats) (List.take x_1 (leadsV cats)) (Int.toNat (ofN x_2.1)) x.1 x.2.1 x.2.2) ∧
      0 = ofN x.1 ∧ x_2.2.1 = x.2.1 ∧ x_2.2.2 = x.2.2) ∧
      ∀ (x_3 : Nat × Int × Bool),
      x_3.1 ≤ Int.toNat (ofN x_2.1) ∧ pickI (List.flatten cats) (List.take x_1 (leadsV cats)) (Int.toNat (ofN x_2.1)) x_3.1 x_3.2.1 x_3.2.2 →
      (decide (ofN x_3.1 < ofN x_2.1) = true →
      within (ofN x_2.1) (List.length (allL (midL cats x 0))) ∧
      within (ofN x_3.1) (List.length (allL (midL cats x 0))) ∧
      (((List.getD (allL (midL cats x 0)) (Int.toNat (ofN x_3.1))
      (T.dflt
      T_Rec)).2.1 !=
      (List.getD (allL (midL cats x 0)) (Int.toNat (ofN x_2.1))
      (T.dflt
      T_Rec)).2.1) =
      false →
      within (ofN x_3.1) (List.length (allL (midL cats x 0)))) ∧
      (((List.getD (allL (midL cats x 0)) (Int.toNat (ofN x_3.1))
      (T.dflt
      T_Rec)).2.1 !=
      (List.getD (allL (midL cats x 0)) (Int.toNat (ofN x_2.1))
      (T.dflt
      T_Rec)).2.1) =
      false →
      within (ofN x_2.1) (List.length (allL (midL cats x 0)))) ∧
      (((List.getD (allL (midL cats x 0)) (Int.toNat (ofN x_3.1))
      (T.dflt
      T_Rec)).2.1 !=
      (List.getD (allL (midL cats x 0)) (Int.toNat (ofN x_2.1))
      (T.dflt
      T_Rec)).2.1 ||
      (List.getD (allL (midL cats x 0)) (Int.toNat (ofN x_3.1))
      (T.dflt
      T_Rec)).2.2.2.2.1 ==
      (List.getD (allL (midL cats x 0)) (Int.toNat (ofN x_2.1))
      (T.dflt
      T_Rec)).2.2.2.2.1) =
      false →
      decide (0 < ofN (List.length (List.take x_1 (leadsV cats)))) = true → inI64 (ofN (List.length (List.take x_1 (leadsV cats))) - 1)) ∧
      (((List.getD (allL (midL cats x 0)) (Int.toNat (ofN x_3.1))
      (T.dflt
      T_Rec)).2.1 !=
      (List.getD (allL (midL cats x 0)) (Int.toNat (ofN x_2.1))
      (T.dflt
      T_Rec)).2.1 ||
      (List.getD (allL (midL cats x 0)) (Int.toNat (ofN x_3.1))
      (T.dflt
      T_Rec)).2.2.2.2.1 ==
      (List.getD (allL (midL cats x 0)) (Int.toNat (ofN x_2.1))
      (T.dflt
      T_Rec)).2.2.2.2.1) =
      false →
      decide (0 < ofN (List.length (List.take x_1 (leadsV cats)))) = true →
      within (ofN (List.length (List.take x_1 (leadsV cats))) - 1) (List.length (List.take x_1 (leadsV cats)))) ∧
      (((List.getD (allL (midL cats x 0)) (Int.toNat (ofN x_3.1))
      (T.dflt
      T_Rec)).2.1 !=
      (List.getD (allL (midL cats x 0)) (Int.toNat (ofN x_2.1))
      (T.dflt
      T_Rec)).2.1 ||
      (List.getD (allL (midL cats x 0)) (Int.toNat (ofN x_3.1))
      (T.dflt
      T_Rec)).2.2.2.2.1 ==
      (List.getD (allL (midL cats x 0)) (Int.toNat (ofN x_2.1))
      (T.dflt
      T_Rec)).2.2.2.2.1 ||
      decide (0 < ofN (List.length (List.take x_1 (leadsV cats)))) &&
      decide
      ((List.getD (allL (midL cats x 0)) (Int.toNat (ofN x_2.1))
      (T.dflt
      T_Rec)).2.1 ≤
      List.getD (List.take x_1 (leadsV cats)) (Int.toNat (ofN (List.length (List.take x_1 (leadsV cats))) - 1)) (T.dflt T.i64))) =
      true →
      inI64 (ofN x_3.1 + 1) ∧
      ∃ (x' : Nat × Int × Bool),
      (x'.1 ≤ Int.toNat (ofN x_2.1) ∧ pickI (List.flatten cats) (List.take x_1 (leadsV cats)) (Int.toNat (ofN x_2.1)) x'.1 x'.2.1 x'.2.2) ∧
      Int.toNat (ofN x_2.1) - x'.1 < Int.toNat (ofN x_2.1) - x_3.1 ∧ ofN x_3.1 + 1 = ofN x'.1 ∧ x_3.2.1 = x'.2.1 ∧ x_3.2.2 = x'.2.2) ∧
      (((List.getD (allL (midL cats x 0)) (Int.toNat (ofN x_3.1))
      (T.dflt
      T_Rec)).2.1 !=
      (List.getD (allL (midL cats x 0)) (Int.toNat (ofN x_2.1))
      (T.dflt
      T_Rec)).2.1 ||
      (List.getD (allL (midL cats x 0)) (Int.toNat (ofN x_3.1))
      (T.dflt
      T_Rec)).2.2.2.2.1 ==
      (List.getD (allL (midL cats x 0)) (Int.toNat (ofN x_2.1))
      (T.dflt
      T_Rec)).2.2.2.2.1 ||
      decide (0 < ofN (List.length (List.take x_1 (leadsV cats)))) &&
      decide
      ((List.getD (allL (midL cats x 0)) (Int.toNat (ofN x_2.1))
      (T.dflt
      T_Rec)).2.1 ≤
      List.getD (List.take x_1 (leadsV cats)) (Int.toNat (ofN (List.length (List.take x_1 (leadsV cats))) - 1)) (T.dflt T.i64))) =
      false →
      ((!x_3.2.2 ||
      decide
      ((List.getD (allL (midL cats x 0)) (Int.toNat (ofN x_2.1))
      (T.dflt
      T_Rec)).2.1 <
      x_3.2.1)) =
      true →
      inI64 (ofN x_3.1 + 1) ∧
      ∃ (x' : Nat × Int × Bool),
      (x'.1 ≤ Int.toNat (ofN x_2.1) ∧ pickI (List.flatten cats) (List.take x_1 (leadsV cats)) (Int.toNat (ofN x_2.1)) x'.1 x'.2.1 x'.2.2) ∧
      Int.toNat (ofN x_2.1) - x'.1 < Int.toNat (ofN x_2.1) - x_3.1 ∧
      ofN x_3.1 + 1 = ofN x'.1 ∧
      (List.getD (allL (midL cats x 0)) (Int.toNat (ofN x_2.1))
      (T.dflt
      T_Rec)).2.1 =
      x'.2.1 ∧
      true = x'.2.2) ∧
      ((!x_3.2.2 ||
      decide
      ((List.getD (allL (midL cats x 0)) (Int.toNat (ofN x_2.1))
      (T.dflt
      T_Rec)).2.1 <
      x_3.2.1)) =
      false →
      inI64 (ofN x_3.1 + 1) ∧
      ∃ (x' : Nat × Int × Bool),
      (x'.1 ≤ Int.toNat (ofN x_2.1) ∧ pickI (List.flatten cats) (List.take x_1 (leadsV cats)) (Int.toNat (ofN x_2.1)) x'.1 x'.2.1 x'.2.2) ∧
      Int.toNat (ofN x_2.1) - x'.1 < Int.toNat (ofN x_2.1) - x_3.1 ∧ ofN x_3.1 + 1 = ofN x'.1 ∧ x_3.2.1 = x'.2.1 ∧ x_3.2.2 = x'.2.2))) ∧
      (decide (ofN x_3.1 < ofN x_2.1) = false →
      inI64 (ofN x_2.1 + 1) ∧
      ∃ (x' : Nat × Int × Bool),
      (x'.1 ≤ List.length (allL (List.flatten cats)) ∧ pickI (List.flatten cats) (List.take x_1 (leadsV cats)) x'.1 0 x'.2.1 x'.2.2) ∧
      List.length (allL (List.flatten cats)) - x'.1 < List.length (allL (List.flatten cats)) - x_2.1 ∧
      ofN x_2.1 + 1 = ofN x'.1 ∧ x_3.2.1 = x'.2.1 ∧ x_3.2.2 = x'.2.2)) ∧
      (decide (ofN x_2.1 < ofN (List.length (allL (midL cats x 0)))) = false →
      ((!x_2.2.2) = true → List.take x_1 (leadsV cats) = leadsV cats) ∧
      ((!x_2.2.2) = false →
      List.length (List.take x_1 (leadsV cats)) + List.length [x_2.2.1] ≤ ROOM ∧
      ∃ (x' : Nat),
      x' ≤ List.length (leadsV cats) ∧
      List.length (leadsV cats) - x' < List.length (leadsV cats) - x_1 ∧ List.take x_1 (leadsV cats) ++ [x_2.2.1] = List.take x' (leadsV cats)))) := by
  unfold LIM at hc
  refine ⟨⟨0, Nat.zero_le _, rfl, rfl⟩, fun x hx => ⟨fun q => ?_, fun q => ?_⟩⟩
  · have hlt : x < cats.length := ltN q
    have hcl := hr _ (getD_mem' [] hlt)
    unfold LIM at hcl
    have hm : ∀ j, (midL cats x j).length ≤ 65536 := fun j => Nat.le_trans (midL_len hlt) h
    rw [show Int.toNat (ofN x) = x from rfl, show T.dflt (T.slc T_Rec) = ([] : List Rec) from rfl]
    refine ⟨⟨0, Nat.zero_le _, rfl, rfl⟩, fun y hy => ⟨wN hlt, fun q2 => ?_, fun q2 => ?_⟩⟩
    · have hy2 : y < (cats.getD x []).length := ltN q2
      have st : allL (midL cats x (y + 1)) = bif ((cats.getD x []).getD y T_Rec.dflt).2.2.2.1 == 1 then allL (midL cats x y) ++ [(cats.getD x []).getD y T_Rec.dflt] else allL (midL cats x y) := by rw [midL_snoc hy2, allL_snoc]
      have hfl : (allL (midL cats x y)).length ≤ 65536 := Nat.le_trans (allL_len _) (hm y)
      rw [show Int.toNat (ofN y) = y from rfl]
      generalize (cats.getD x []).getD y T_Rec.dflt = r at st ⊢
      have w0 : within (ofN x) cats.length := wN hlt
      have w1 : within (ofN y) (cats.getD x []).length := wN hy2
      have i1 : inI64 (ofN y + 1) := inN (by omega)
      refine ⟨w0, w1, fun q3 => ⟨w0, w1, ?_, i1, y + 1, hy2, Nat.sub_lt_sub_left hy2 (Nat.lt_succ_self y), rfl, ?_⟩, fun q3 => ⟨i1, y + 1, hy2, Nat.sub_lt_sub_left hy2 (Nat.lt_succ_self y), rfl, ?_⟩⟩
      · show (allL (midL cats x y)).length + 1 ≤ ROOM; unfold ROOM; omega
      · rw [st, q3]; rfl
      · rw [st, q3]; rfl
    · have hy2 : (cats.getD x []).length ≤ y := geN q2
      refine ⟨inN (by omega), x + 1, hlt, by omega, rfl, ?_⟩
      rw [midL_next hlt hy2]
  · have hge : cats.length ≤ x := geN q
    rw [midL_all hge]
    have hal : (allL cats.flatten).length ≤ 65536 := Nat.le_trans (allL_len _) h
    refine ⟨⟨0, Nat.zero_le _, rfl⟩, fun n hn => ⟨⟨(0, 0, false), ⟨Nat.zero_le _, pick_0 _ _ _⟩, rfl, rfl, rfl⟩, fun y hy => ?_⟩⟩
    obtain ⟨i, b, s⟩ := y
    obtain ⟨hi, hp⟩ := hy
    simp only at hi hp ⊢
    refine ⟨fun q2 => ⟨⟨(0, b, s), ⟨Nat.zero_le _, hp⟩, rfl, rfl, rfl⟩, fun z hz => ?_⟩, fun q2 => ?_⟩
    · have hi2 : i < (allL cats.flatten).length := ltN q2
      obtain ⟨k, b, s⟩ := z
      obtain ⟨hk, hp⟩ := hz
      rw [show Int.toNat (ofN i) = i from rfl] at hk hp ⊢
      simp only at hk hp ⊢
      refine ⟨fun q3 => ?_, fun q3 => ?_⟩
      · have hk2 : k < i := ltN q3
        have i1 : inI64 (ofN k + 1) := inN (by omega)
        have wi : within (ofN i) (allL cats.flatten).length := wN hi2
        have wk : within (ofN k) (allL cats.flatten).length := wN (by omega)
        have hol : ((leadsV cats).take n).length ≤ 65536 := by rw [List.length_take]; have := leadsV_len cats; omega
        rw [show Int.toNat (ofN k) = k from rfl, toNat_pred, cand_eq]
        refine ⟨wi, wk, fun _ => wk, fun _ => wi, fun _ _ => ?_, fun _ q4 => ?_, fun q4 => ⟨i1, (k + 1, b, s), ⟨hk2, pick_no hp (by simpa using q4)⟩, by show i - (k + 1) < i - k; omega, rfl, rfl, rfl⟩, fun q4 => ⟨fun q5 => ⟨i1, (k + 1, eAt (allL cats.flatten) i, true), ⟨hk2, pick_new hp hk2 hi2 (by simpa using q4) ?_⟩, by show i - (k + 1) < i - k; omega, rfl, rfl, rfl⟩, fun q5 => ⟨i1, (k + 1, b, s), ⟨hk2, pick_old hp ?_ ?_⟩, by show i - (k + 1) < i - k; omega, rfl, rfl, rfl⟩⟩⟩
        · show inI64 ((((leadsV cats).take n).length : Int) - 1); unfold inI64; omega
        · have q4 : (0 : Int) < (((leadsV cats).take n).length : Int) := of_decide_eq_true q4
          show within ((((leadsV cats).take n).length : Int) - 1) ((leadsV cats).take n).length; unfold within; omega
        · rw [Bool.or_eq_true] at q5
          rcases q5 with q5 | q5
          · left; simpa using q5
          · right; exact of_decide_eq_true q5
        · rw [Bool.or_eq_false_iff] at q5; simpa using q5.1
        · rw [Bool.or_eq_false_iff] at q5
          have := of_decide_eq_false q5.2
          exact Int.not_lt.1 this
      · have hk2 : i ≤ k := geN q3
        exact ⟨inN (by omega), (i + 1, b, s), ⟨hi2, pick_next hk2 hp⟩, by show (allL cats.flatten).length - (i + 1) < (allL cats.flatten).length - i; omega, rfl, rfl, rfl⟩
    · have hi2 : (allL cats.flatten).length ≤ i := geN q2
      refine ⟨fun q3 => ?_, fun q3 => ?_⟩
      · have hs : s = false := by simpa using q3
        rw [hs] at hp
        rw [pick_none hn hi2 hp, List.take_of_length_le (Nat.le_refl _)]
      · have hs : s = true := by simpa using q3
        rw [hs] at hp
        obtain ⟨g1, g2⟩ := pick_some hn hi2 hp
        have hol : ((leadsV cats).take n).length ≤ 65536 := by rw [List.length_take]; have := leadsV_len cats; omega
        refine ⟨by show ((leadsV cats).take n).length + 1 ≤ ROOM; unfold ROOM; omega, n + 1, g1, by omega, ?_⟩
        rw [take_snoc' (d := (0 : Int)) g1, g2]

theorem flat_len {α : Type} (f : Nat → List α) (m : Nat) : ∀ n, (∀ i, i < n → (f i).length ≤ m) → ((List.range n).flatMap f).length ≤ n * m
  | 0, _ => by simp
  | n + 1, h => by
    rw [List.range_succ, List.flatMap_append, List.length_append, Nat.succ_mul, List.flatMap_singleton]
    exact Nat.add_le_add (flat_len f m n fun i hi => h i (by omega)) (h n (by omega))
theorem flat_snoc {α : Type} (f : Nat → List α) (n : Nat) : (List.range (n + 1)).flatMap f = (List.range n).flatMap f ++ f n := by
  rw [List.range_succ, List.flatMap_append, List.flatMap_singleton]
theorem bif_len {α : Type} (b : Bool) (x : α) : (bif b then [x] else []).length ≤ 1 := by cases b <;> simp
theorem brChain_len (cats : Cats) (n : Nat) : (brChain cats n).length ≤ n := by have := flat_len (fun i => bif (walkV head0 (cats.getD i []) 0).2.2 != 0 then [((1 : Int), (i : Int), (0 : Int))] else []) 1 n (fun i _ => bif_len _ _); rw [Nat.mul_one] at this; exact this
theorem brFork_len (ms : List Mark) (k n : Nat) : (brFork ms k n).length ≤ n := by have := flat_len (fun i => bif apartB ms i k then [((3 : Int), (i : Int), (k : Int))] else []) 1 n (fun i _ => bif_len _ _); rw [Nat.mul_one] at this; exact this
theorem brForks_len (ms : List Mark) (n : Nat) (h : n ≤ 1000) : (brForks ms n).length ≤ n * 1000 := flat_len _ 1000 n fun i hi => Nat.le_trans (brFork_len ms i i) (by omega)
theorem brAck_len (ms : List Mark) (c : List Rec) (i n : Nat) : (brAck ms c i n).length ≤ n := by have := flat_len (fun k => bif !hasV c (headM (ms.getD k T_Mark.dflt)) then [((2 : Int), (i : Int), (k : Int))] else []) 1 n (fun i _ => bif_len _ _); rw [Nat.mul_one] at this; exact this
theorem brAcks_len (ms : List Mark) (cats : Cats) (n : Nat) (h : ms.length ≤ 1000) : (brAcks ms cats n).length ≤ n * 1000 := flat_len _ 1000 n fun i hi => Nat.le_trans (brAck_len ms _ i _) h
theorem brTo1_len {ms : List Mark} {cats : Cats} (hk : okC ms cats) {k j : Nat} (h1 : k ≤ ms.length) (h2 : j ≤ ms.length) : (brTo1 ms cats k j).length ≤ 2000000 := by
  obtain ⟨a, b, c⟩ := hk
  unfold brTo1
  rw [List.length_append, List.length_append]
  have := brChain_len cats cats.length
  have := brForks_len ms k (by omega)
  have := brFork_len ms k j
  omega
theorem brTo2_len {ms : List Mark} {cats : Cats} (hk : okC ms cats) {i j : Nat} (h1 : i ≤ cats.length) (h2 : j ≤ ms.length) : (brTo2 ms cats i j).length ≤ 2000000 := by
  obtain ⟨a, b, c⟩ := hk
  unfold brTo2
  rw [List.length_append, List.length_append, List.length_append]
  have := brChain_len cats cats.length
  have := brForks_len ms ms.length b
  have := brAcks_len ms cats i b
  have := brAck_len ms (cats.getD i []) i j
  omega
theorem brTo3_len {ms : List Mark} {cats : Cats} (hk : okC ms cats) {n : Nat} (h : n ≤ (leadsV cats).length) : (brTo3 ms cats n).length ≤ 2000000 := by
  obtain ⟨a, b, c⟩ := hk
  unfold brTo3 brLead
  rw [List.length_append, List.length_append, List.length_append, List.length_map, List.length_take]
  have := brChain_len cats cats.length
  have := brForks_len ms ms.length b
  have := brAcks_len ms cats cats.length b
  have := leadsV_len cats
  omega
theorem brChain_snoc (cats : Cats) (n : Nat) : brChain cats (n + 1) = brChain cats n ++ bif (walkV head0 (cats.getD n []) 0).2.2 != 0 then [(1, (n : Int), 0)] else [] := flat_snoc _ _
theorem brFork_snoc (ms : List Mark) (k n : Nat) : brFork ms k (n + 1) = brFork ms k n ++ bif apartB ms n k then [(3, (n : Int), (k : Int))] else [] := flat_snoc _ _
theorem brForks_snoc (ms : List Mark) (n : Nat) : brForks ms (n + 1) = brForks ms n ++ brFork ms n n := flat_snoc _ _
theorem brAck_snoc (ms : List Mark) (c : List Rec) (i n : Nat) : brAck ms c i (n + 1) = brAck ms c i n ++ bif !hasV c (headM (ms.getD n T_Mark.dflt)) then [(2, (i : Int), (n : Int))] else [] := flat_snoc _ _
theorem brAcks_snoc (ms : List Mark) (cats : Cats) (n : Nat) : brAcks ms cats (n + 1) = brAcks ms cats n ++ brAck ms (cats.getD n []) n ms.length := flat_snoc _ _
theorem brTo1_snoc (ms : List Mark) (cats : Cats) (k j : Nat) : brTo1 ms cats k (j + 1) = brTo1 ms cats k j ++ bif apartB ms j k then [(3, (j : Int), (k : Int))] else [] := by unfold brTo1; rw [brFork_snoc]; simp only [List.append_assoc]
theorem brFork_0 (ms : List Mark) (k : Nat) : brFork ms k 0 = [] := rfl
theorem brTo1_next (ms : List Mark) (cats : Cats) (k : Nat) : brTo1 ms cats k k = brTo1 ms cats (k + 1) 0 := by unfold brTo1; rw [brForks_snoc, brFork_0, List.append_nil]; simp only [List.append_assoc]
theorem brTo2_snoc (ms : List Mark) (cats : Cats) (i j : Nat) : brTo2 ms cats i (j + 1) = brTo2 ms cats i j ++ bif !hasV (cats.getD i []) (headM (ms.getD j T_Mark.dflt)) then [(2, (i : Int), (j : Int))] else [] := by unfold brTo2; rw [brAck_snoc]; simp only [List.append_assoc]
theorem brAck_0 (ms : List Mark) (c : List Rec) (i : Nat) : brAck ms c i 0 = [] := rfl
theorem brTo2_next (ms : List Mark) (cats : Cats) (i : Nat) : brTo2 ms cats i ms.length = brTo2 ms cats (i + 1) 0 := by unfold brTo2; rw [brAcks_snoc, brAck_0, List.append_nil]; simp only [List.append_assoc]
theorem brTo12 (ms : List Mark) (cats : Cats) : brTo1 ms cats ms.length 0 = brTo2 ms cats 0 0 := by unfold brTo1 brTo2; rw [brFork_0, brAck_0, show brAcks ms cats 0 = [] from rfl, List.append_nil, List.append_nil]
theorem brTo23 (ms : List Mark) (cats : Cats) : brTo2 ms cats cats.length 0 = brTo3 ms cats 0 := by unfold brTo2 brTo3; rw [brAck_0, show brLead (leadsV cats) 0 = [] from rfl]
theorem brTo3_snoc (ms : List Mark) (cats : Cats) {n : Nat} (h : n < (leadsV cats).length) : brTo3 ms cats (n + 1) = brTo3 ms cats n ++ [(4, (leadsV cats).getD n 0, 0)] := by
  unfold brTo3 brLead
  rw [take_snoc' (d := (0 : Int)) h, List.map_append]; simp only [List.append_assoc, List.map_cons, List.map_nil]
theorem brTo10 (ms : List Mark) (cats : Cats) : brChain cats cats.length = brTo1 ms cats 0 0 := by unfold brTo1; rw [brFork_0, show brForks ms 0 = [] from rfl, List.append_nil, List.append_nil]
theorem apart_eq (ms : List Mark) (i k : Nat) : ((ms.getD i T_Mark.dflt).2.1 == (ms.getD k T_Mark.dflt).2.1 && !((ms.getD i T_Mark.dflt).2.1 == (ms.getD k T_Mark.dflt).2.1 && ((ms.getD i T_Mark.dflt).2.2.1 == (ms.getD k T_Mark.dflt).2.2.1 && eqL T.u8 (ms.getD i T_Mark.dflt).2.2.2.1 (ms.getD k T_Mark.dflt).2.2.2.1))) = apartB ms i k := by
  unfold apartB
  congr 2
  rw [eqL_u8, Bool.eq_iff_iff]
  unfold headM
  simp only [Bool.and_eq_true, beq_iff_eq, decide_eq_true_eq, Prod.ext_iff]
theorem roomB {l : List Brc} (h : l.length ≤ 2000000) : l.length + 1 ≤ ROOM := by unfold ROOM; omega

theorem ledger_Check_vc (ws : List Noted) (first : Firsts) (ms : List Mark) (at_ : Int) (cats : Cats) (hk : okC ms cats) :
    (false = true → nilOf (Int × Int × Int) = checkB ms cats ∧ at_ = at_ ∧ ws = ws ∧ first = first ∧ ms = ms) ∧
      (false = false →
      (∃ (x : Nat), x ≤ List.length cats ∧ 0 = ofN x ∧ brChain cats x = nilOf (Int × Int × Int)) ∧
      ∀ (x : Nat),
      x ≤ List.length cats →
      (decide (ofN x < ofN (List.length cats)) = true →
      within (ofN x) (List.length cats) ∧
      (((walkV (0, 0, List.replicate 32 0#8)
      (List.getD cats (Int.toNat (ofN x))
      (T.dflt (T.slc T_Rec)))
      0).2.2 !=
      0) =
      true →
      List.length (brChain cats x) + List.length [(1, ofN x, 0)] ≤ ROOM ∧
      inI64 (ofN x + 1) ∧
      ∃ (x' : Nat), x' ≤ List.length cats ∧ List.length cats - x' < List.length cats - x ∧ ofN x + 1 = ofN x' ∧ brChain cats x ++ [(1, ofN x, 0)] = brChain cats x') ∧
      (((walkV (0, 0, List.replicate 32 0#8)
      (List.getD cats (Int.toNat (ofN x))
      (T.dflt (T.slc T_Rec)))
      0).2.2 !=
      0) =
      false →
      inI64 (ofN x + 1) ∧ ∃ (x' : Nat), x' ≤ List.length cats ∧ List.length cats - x' < List.length cats - x ∧ ofN x + 1 = ofN x' ∧ brChain cats x = brChain cats x')) ∧
      (decide (ofN x < ofN (List.length cats)) = false →
      (∃ (x_1 : Nat), x_1 ≤ List.length ms ∧ 0 = ofN x_1 ∧ brChain cats x = brTo1 ms cats x_1 0) ∧
      ∀ (x : Nat),
      x ≤ List.length ms →
      (decide (ofN x < ofN (List.length ms)) = true →
      (∃ (x_1 : Nat), x_1 ≤ Int.toNat (ofN x) ∧ 0 = ofN x_1 ∧ brTo1 ms cats x 0 = brTo1 ms cats (Int.toNat (ofN x)) x_1) ∧
      ∀ (x_1 : Nat),
      x_1 ≤ Int.toNat (ofN x) →
      (decide (ofN x_1 < ofN x) = true →
      within (ofN x_1) (List.length ms) ∧
      Int.toNat (ofN x_1) < List.length ms ∧
      within (ofN x) (List.length ms) ∧
      Int.toNat (ofN x) < List.length ms ∧
      (((List.getD ms (Int.toNat (ofN x_1)) (T.dflt T_Mark)).2.1 ==
      (List.getD ms (Int.toNat (ofN x)) (T.dflt T_Mark)).2.1 &&
      !((List.getD ms (Int.toNat (ofN x_1)) (T.dflt T_Mark)).2.1 ==
      (List.getD ms (Int.toNat (ofN x)) (T.dflt T_Mark)).2.1 &&
      ((List.getD ms (Int.toNat (ofN x_1)) (T.dflt T_Mark)).2.2.1 ==
      (List.getD ms (Int.toNat (ofN x)) (T.dflt T_Mark)).2.2.1 &&
      eqL T.u8
      (List.getD ms (Int.toNat (ofN x_1)) (T.dflt T_Mark)).2.2.2.1
      (List.getD ms (Int.toNat (ofN x)) (T.dflt T_Mark)).2.2.2.1))) =
      true →
      List.length (brTo1 ms cats (Int.toNat (ofN x)) x_1) + List.length [(3, ofN x_1, ofN x)] ≤ ROOM ∧
      inI64 (ofN x_1 + 1) ∧
      ∃ (x' : Nat),
      x' ≤ Int.toNat (ofN x) ∧
      Int.toNat (ofN x) - x' < Int.toNat (ofN x) - x_1 ∧
      ofN x_1 + 1 = ofN x' ∧ brTo1 ms cats (Int.toNat (ofN x)) x_1 ++ [(3, ofN x_1, ofN x)] = brTo1 ms cats (Int.toNat (ofN x)) x') ∧
      (((List.getD ms (Int.toNat (ofN x_1)) (T.dflt T_Mark)).2.1 ==
      (List.getD ms (Int.toNat (ofN x)) (T.dflt T_Mark)).2.1 &&
      !((List.getD ms (Int.toNat (ofN x_1)) (T.dflt T_Mark)).2.1 ==
      (List.getD ms (Int.toNat (ofN x)) (T.dflt T_Mark)).2.1 &&
      ((List.getD ms (Int.toNat (ofN x_1)) (T.dflt T_Mark)).2.2.1 ==
      (List.getD ms (Int.toNat (ofN x)) (T.dflt T_Mark)).2.2.1 &&
      eqL T.u8
      (List.getD ms (Int.toNat (ofN x_1)) (T.dflt T_Mark)).2.2.2.1
      (List.getD ms (Int.toNat (ofN x)) (T.dflt T_Mark)).2.2.2.1))) =
      false →
      inI64 (ofN x_1 + 1) ∧
      ∃ (x' : Nat),
      x' ≤ Int.toNat (ofN x) ∧
      Int.toNat (ofN x) - x' < Int.toNat (ofN x) - x_1 ∧
      ofN x_1 + 1 = ofN x' ∧ brTo1 ms cats (Int.toNat (ofN x)) x_1 = brTo1 ms cats (Int.toNat (ofN x)) x')) ∧
      (decide (ofN x_1 < ofN x) = false →
      inI64 (ofN x + 1) ∧
      ∃ (x' : Nat), x' ≤ List.length ms ∧ List.length ms - x' < List.length ms - x ∧ ofN x + 1 = ofN x' ∧ brTo1 ms cats (Int.toNat (ofN x)) x_1 = brTo1 ms cats x' 0)) ∧
      (decide (ofN x < ofN (List.length ms)) = false →
      (∃ (x_1 : Nat), x_1 ≤ List.length cats ∧ 0 = ofN x_1 ∧ brTo1 ms cats x 0 = brTo2 ms cats x_1 0) ∧
      ∀ (x : Nat),
      x ≤ List.length cats →
      (decide (ofN x < ofN (List.length cats)) = true →
      within (ofN x) (List.length cats) ∧
      (∃ (x_1 : Nat), x_1 ≤ List.length ms ∧ 0 = ofN x_1 ∧ brTo2 ms cats x 0 = brTo2 ms cats (Int.toNat (ofN x)) x_1) ∧
      ∀ (x_1 : Nat),
      x_1 ≤ List.length ms →
      (decide (ofN x_1 < ofN (List.length ms)) = true →
      within (ofN x_1) (List.length ms) ∧
      Int.toNat (ofN x_1) < List.length ms ∧
      ((!hasV
      (List.getD cats (Int.toNat (ofN x))
      (T.dflt
      (T.slc
      T_Rec)))
      ((List.getD ms (Int.toNat (ofN x_1)) (T.dflt T_Mark)).2.1,
      (List.getD ms (Int.toNat (ofN x_1)) (T.dflt T_Mark)).2.2.1,
      (List.getD ms (Int.toNat (ofN x_1))
      (T.dflt T_Mark)).2.2.2.1)) =
      true →
      List.length (brTo2 ms cats (Int.toNat (ofN x)) x_1) + List.length [(2, ofN x, ofN x_1)] ≤ ROOM ∧
      inI64 (ofN x_1 + 1) ∧
      ∃ (x' : Nat),
      x' ≤ List.length ms ∧
      List.length ms - x' < List.length ms - x_1 ∧
      ofN x_1 + 1 = ofN x' ∧ brTo2 ms cats (Int.toNat (ofN x)) x_1 ++ [(2, ofN x, ofN x_1)] = brTo2 ms cats (Int.toNat (ofN x)) x') ∧
      ((!hasV
      (List.getD cats (Int.toNat (ofN x))
      (T.dflt
      (T.slc
      T_Rec)))
      ((List.getD ms (Int.toNat (ofN x_1)) (T.dflt T_Mark)).2.1,
      (List.getD ms (Int.toNat (ofN x_1)) (T.dflt T_Mark)).2.2.1,
      (List.getD ms (Int.toNat (ofN x_1))
      (T.dflt T_Mark)).2.2.2.1)) =
      false →
      inI64 (ofN x_1 + 1) ∧
      ∃ (x' : Nat),
      x' ≤ List.length ms ∧
      List.length ms - x' < List.length ms - x_1 ∧
      ofN x_1 + 1 = ofN x' ∧ brTo2 ms cats (Int.toNat (ofN x)) x_1 = brTo2 ms cats (Int.toNat (ofN x)) x')) ∧
      (decide (ofN x_1 < ofN (List.length ms)) = false →
      inI64 (ofN x + 1) ∧
      ∃ (x' : Nat),
      x' ≤ List.length cats ∧
      List.length cats - x' < List.length cats - x ∧ ofN x + 1 = ofN x' ∧ brTo2 ms cats (Int.toNat (ofN x)) x_1 = brTo2 ms cats x' 0)) ∧
      (decide (ofN x < ofN (List.length cats)) = false →
      List.length (List.flatten cats) ≤ 65536 ∧
      (∃ (x_1 : Nat), x_1 ≤ List.length (leadsV cats) ∧ 0 = ofN x_1 ∧ brTo2 ms cats x 0 = brTo3 ms cats x_1) ∧
      ∀ (x : Nat),
      x ≤ List.length (leadsV cats) →
      (decide (ofN x < ofN (List.length (leadsV cats))) = true →
      within (ofN x) (List.length (leadsV cats)) ∧
      List.length (brTo3 ms cats x) + List.length [(4, List.getD (leadsV cats) (Int.toNat (ofN x)) (T.dflt T.i64), 0)] ≤ ROOM ∧
      inI64 (ofN x + 1) ∧
      ∃ (x' : Nat),
      x' ≤ List.length (leadsV cats) ∧
      List.length (leadsV cats) - x' < List.length (leadsV cats) - x ∧
      ofN x + 1 = ofN x' ∧ brTo3 ms cats x ++ [(4, List.getD (leadsV cats) (Int.toNat (ofN x)) (T.dflt T.i64), 0)] = brTo3 ms cats x') ∧
      (decide (ofN x < ofN (List.length (leadsV cats))) = false → brTo3 ms cats x = checkB ms cats ∧ at_ = at_ ∧ ws = ws ∧ first = first ∧ ms = ms))))) := by
  have e0 : ((0, 0, List.replicate 32 0#8) : HeadT) = head0 := rfl
  have hk' := hk
  obtain ⟨ha, hb, hc⟩ := hk'
  rw [e0]
  refine ⟨(fun q => nomatch q), fun _ => ⟨⟨0, Nat.zero_le _, rfl, rfl⟩, fun x hx => ⟨fun q => ?_, fun q => ?_⟩⟩⟩
  · have hlt : x < cats.length := ltN q
    rw [show Int.toNat (ofN x) = x from rfl, show T.dflt (T.slc T_Rec) = ([] : List Rec) from rfl]
    have hl := brChain_len cats x
    have i1 : inI64 (ofN x + 1) := inN (by omega)
    refine ⟨wN hlt, fun q2 => ⟨roomB (by omega), i1, x + 1, hlt, by omega, rfl, ?_⟩, fun q2 => ⟨i1, x + 1, hlt, by omega, rfl, ?_⟩⟩
    · rw [brChain_snoc, q2]; rfl
    · rw [brChain_snoc, q2]; exact (List.append_nil _).symm
  · have hx2 : x = cats.length := by have := geN q; omega
    subst hx2
    refine ⟨⟨0, Nat.zero_le _, rfl, brTo10 ms cats⟩, fun x hx => ⟨fun q => ⟨⟨0, Nat.zero_le _, rfl, rfl⟩, fun y hy => ⟨fun q2 => ?_, fun q2 => ?_⟩⟩, fun q => ?_⟩⟩
    · have hlt : x < ms.length := ltN q
      rw [show Int.toNat (ofN x) = x from rfl] at hy ⊢
      have hy2 : y < x := ltN q2
      have i1 : inI64 (ofN y + 1) := inN (by omega)
      rw [show Int.toNat (ofN y) = y from rfl, apart_eq]
      refine ⟨wN (by omega), by omega, wN hlt, hlt, fun q3 => ⟨roomB (brTo1_len hk hx (by omega)), i1, y + 1, hy2, by omega, rfl, ?_⟩, fun q3 => ⟨i1, y + 1, hy2, by omega, rfl, ?_⟩⟩
      · rw [brTo1_snoc, q3]; rfl
      · rw [brTo1_snoc, q3]; exact (List.append_nil _).symm
    · have hlt : x < ms.length := ltN q
      rw [show Int.toNat (ofN x) = x from rfl] at hy ⊢
      have hy2 : y = x := by have := geN q2; omega
      subst hy2
      exact ⟨inN (by omega), y + 1, hlt, by omega, rfl, brTo1_next ms cats y⟩
    · have hx2 : x = ms.length := by have := geN q; omega
      subst hx2
      refine ⟨⟨0, Nat.zero_le _, rfl, brTo12 ms cats⟩, fun x hx => ⟨fun q => ?_, fun q => ?_⟩⟩
      · have hlt : x < cats.length := ltN q
        rw [show Int.toNat (ofN x) = x from rfl, show T.dflt (T.slc T_Rec) = ([] : List Rec) from rfl]
        refine ⟨wN hlt, ⟨0, Nat.zero_le _, rfl, rfl⟩, fun y hy => ⟨fun q2 => ?_, fun q2 => ?_⟩⟩
        · have hy2 : y < ms.length := ltN q2
          have i1 : inI64 (ofN y + 1) := inN (by omega)
          rw [show Int.toNat (ofN y) = y from rfl]
          refine ⟨wN hy2, hy2, fun q3 => ⟨roomB (brTo2_len hk hx (by omega)), i1, y + 1, hy2, by omega, rfl, ?_⟩, fun q3 => ⟨i1, y + 1, hy2, by omega, rfl, ?_⟩⟩
          · have q3 : (!hasV (cats.getD x []) (headM (ms.getD y T_Mark.dflt))) = true := q3
            rw [brTo2_snoc, q3]; rfl
          · have q3 : (!hasV (cats.getD x []) (headM (ms.getD y T_Mark.dflt))) = false := q3
            rw [brTo2_snoc, q3]; exact (List.append_nil _).symm
        · have hy2 : y = ms.length := by have := geN q2; omega
          subst hy2
          exact ⟨inN (by omega), x + 1, hlt, by omega, rfl, brTo2_next ms cats x⟩
      · have hx2 : x = cats.length := by have := geN q; omega
        subst hx2
        have hle := leadsV_len cats
        refine ⟨hc, ⟨0, Nat.zero_le _, rfl, brTo23 ms cats⟩, fun x hx => ⟨fun q => ?_, fun q => ?_⟩⟩
        · have hlt : x < (leadsV cats).length := ltN q
          exact ⟨wN hlt, roomB (brTo3_len hk hx), inN (by omega), x + 1, hlt, by omega, rfl, (brTo3_snoc ms cats hlt).symm⟩
        · have hx2 : x = (leadsV cats).length := by have := geN q; omega
          subst hx2
          exact ⟨rfl, rfl, rfl, rfl, rfl⟩

theorem ref24_Check_vc (ws : List Noted) (ms : List Mark) (at_ : Int) (cats : Cats) (hk : okC ms cats) :
    (∃ (x : Nat), x ≤ List.length cats ∧ 0 = ofN x ∧ brChain cats x = nilOf (Int × Int × Int)) ∧
      ∀ (x : Nat),
      x ≤ List.length cats →
      (decide (ofN x < ofN (List.length cats)) = true →
      within (ofN x) (List.length cats) ∧
      (((walkV (0, 0, List.replicate 32 0#8)
      (List.getD cats (Int.toNat (ofN x))
      (T.dflt (T.slc T_Rec)))
      0).2.2 !=
      0) =
      true →
      List.length (brChain cats x) + List.length [(1, ofN x, 0)] ≤ ROOM ∧
      inI64 (ofN x + 1) ∧ ∃ (x' : Nat), x' ≤ List.length cats ∧ List.length cats - x' < List.length cats - x ∧ ofN x + 1 = ofN x' ∧ brChain cats x ++ [(1, ofN x, 0)] = brChain cats x') ∧
      (((walkV (0, 0, List.replicate 32 0#8)
      (List.getD cats (Int.toNat (ofN x))
      (T.dflt (T.slc T_Rec)))
      0).2.2 !=
      0) =
      false →
      inI64 (ofN x + 1) ∧ ∃ (x' : Nat), x' ≤ List.length cats ∧ List.length cats - x' < List.length cats - x ∧ ofN x + 1 = ofN x' ∧ brChain cats x = brChain cats x')) ∧
      (decide (ofN x < ofN (List.length cats)) = false →
      (∃ (x_1 : Nat), x_1 ≤ List.length ms ∧ 0 = ofN x_1 ∧ brChain cats x = brTo1 ms cats x_1 0) ∧
      ∀ (x : Nat),
      x ≤ List.length ms →
      (decide (ofN x < ofN (List.length ms)) = true →
      (∃ (x_1 : Nat), x_1 ≤ Int.toNat (ofN x) ∧ 0 = ofN x_1 ∧ brTo1 ms cats x 0 = brTo1 ms cats (Int.toNat (ofN x)) x_1) ∧
      ∀ (x_1 : Nat),
      x_1 ≤ Int.toNat (ofN x) →
      (decide (ofN x_1 < ofN x) = true →
      within (ofN x_1) (List.length ms) ∧
      Int.toNat (ofN x_1) < List.length ms ∧
      within (ofN x) (List.length ms) ∧
      Int.toNat (ofN x) < List.length ms ∧
      (((List.getD ms (Int.toNat (ofN x_1)) (T.dflt T_Mark)).2.1 ==
      (List.getD ms (Int.toNat (ofN x)) (T.dflt T_Mark)).2.1) =
      true →
      within (ofN x_1) (List.length ms)) ∧
      (((List.getD ms (Int.toNat (ofN x_1)) (T.dflt T_Mark)).2.1 ==
      (List.getD ms (Int.toNat (ofN x)) (T.dflt T_Mark)).2.1) =
      true →
      Int.toNat (ofN x_1) < List.length ms) ∧
      (((List.getD ms (Int.toNat (ofN x_1)) (T.dflt T_Mark)).2.1 ==
      (List.getD ms (Int.toNat (ofN x)) (T.dflt T_Mark)).2.1) =
      true →
      within (ofN x) (List.length ms)) ∧
      (((List.getD ms (Int.toNat (ofN x_1)) (T.dflt T_Mark)).2.1 ==
      (List.getD ms (Int.toNat (ofN x)) (T.dflt T_Mark)).2.1) =
      true →
      Int.toNat (ofN x) < List.length ms) ∧
      (((List.getD ms (Int.toNat (ofN x_1)) (T.dflt T_Mark)).2.1 ==
      (List.getD ms (Int.toNat (ofN x)) (T.dflt T_Mark)).2.1 &&
      !((List.getD ms (Int.toNat (ofN x_1)) (T.dflt T_Mark)).2.1 ==
      (List.getD ms (Int.toNat (ofN x)) (T.dflt T_Mark)).2.1 &&
      ((List.getD ms (Int.toNat (ofN x_1)) (T.dflt T_Mark)).2.2.1 ==
      (List.getD ms (Int.toNat (ofN x)) (T.dflt T_Mark)).2.2.1 &&
      eqL T.u8
      (List.getD ms (Int.toNat (ofN x_1))
      (T.dflt T_Mark)).2.2.2.1
      (List.getD ms (Int.toNat (ofN x))
      (T.dflt T_Mark)).2.2.2.1))) =
      true →
      List.length (brTo1 ms cats (Int.toNat (ofN x)) x_1) + List.length [(3, ofN x_1, ofN x)] ≤ ROOM ∧
      inI64 (ofN x_1 + 1) ∧
      ∃ (x' : Nat),
      x' ≤ Int.toNat (ofN x) ∧
      Int.toNat (ofN x) - x' < Int.toNat (ofN x) - x_1 ∧
      ofN x_1 + 1 = ofN x' ∧ brTo1 ms cats (Int.toNat (ofN x)) x_1 ++ [(3, ofN x_1, ofN x)] = brTo1 ms cats (Int.toNat (ofN x)) x') ∧
      (((List.getD ms (Int.toNat (ofN x_1)) (T.dflt T_Mark)).2.1 ==
      (List.getD ms (Int.toNat (ofN x)) (T.dflt T_Mark)).2.1 &&
      !((List.getD ms (Int.toNat (ofN x_1)) (T.dflt T_Mark)).2.1 ==
      (List.getD ms (Int.toNat (ofN x)) (T.dflt T_Mark)).2.1 &&
      ((List.getD ms (Int.toNat (ofN x_1)) (T.dflt T_Mark)).2.2.1 ==
      (List.getD ms (Int.toNat (ofN x)) (T.dflt T_Mark)).2.2.1 &&
      eqL T.u8
      (List.getD ms (Int.toNat (ofN x_1))
      (T.dflt T_Mark)).2.2.2.1
      (List.getD ms (Int.toNat (ofN x))
      (T.dflt T_Mark)).2.2.2.1))) =
      false →
      inI64 (ofN x_1 + 1) ∧
      ∃ (x' : Nat),
      x' ≤ Int.toNat (ofN x) ∧
      Int.toNat (ofN x) - x' < Int.toNat (ofN x) - x_1 ∧
      ofN x_1 + 1 = ofN x' ∧ brTo1 ms cats (Int.toNat (ofN x)) x_1 = brTo1 ms cats (Int.toNat (ofN x)) x')) ∧
      (decide (ofN x_1 < ofN x) = false →
      inI64 (ofN x + 1) ∧
      ∃ (x' : Nat), x' ≤ List.length ms ∧ List.length ms - x' < List.length ms - x ∧ ofN x + 1 = ofN x' ∧ brTo1 ms cats (Int.toNat (ofN x)) x_1 = brTo1 ms cats x' 0)) ∧
      (decide (ofN x < ofN (List.length ms)) = false →
      (∃ (x_1 : Nat), x_1 ≤ List.length cats ∧ 0 = ofN x_1 ∧ brTo1 ms cats x 0 = brTo2 ms cats x_1 0) ∧
      ∀ (x : Nat),
      x ≤ List.length cats →
      (decide (ofN x < ofN (List.length cats)) = true →
      (∃ (x_1 : Nat), x_1 ≤ List.length ms ∧ 0 = ofN x_1 ∧ brTo2 ms cats x 0 = brTo2 ms cats (Int.toNat (ofN x)) x_1) ∧
      ∀ (x_1 : Nat),
      x_1 ≤ List.length ms →
      (decide (ofN x_1 < ofN (List.length ms)) = true →
      within (ofN x) (List.length cats) ∧
      within (ofN x_1) (List.length ms) ∧
      Int.toNat (ofN x_1) < List.length ms ∧
      ((!hasV
      (List.getD cats (Int.toNat (ofN x))
      (T.dflt
      (T.slc
      T_Rec)))
      ((List.getD ms (Int.toNat (ofN x_1)) (T.dflt T_Mark)).2.1,
      (List.getD ms (Int.toNat (ofN x_1)) (T.dflt T_Mark)).2.2.1,
      (List.getD ms (Int.toNat (ofN x_1))
      (T.dflt T_Mark)).2.2.2.1)) =
      true →
      List.length (brTo2 ms cats (Int.toNat (ofN x)) x_1) + List.length [(2, ofN x, ofN x_1)] ≤ ROOM ∧
      inI64 (ofN x_1 + 1) ∧
      ∃ (x' : Nat),
      x' ≤ List.length ms ∧
      List.length ms - x' < List.length ms - x_1 ∧
      ofN x_1 + 1 = ofN x' ∧ brTo2 ms cats (Int.toNat (ofN x)) x_1 ++ [(2, ofN x, ofN x_1)] = brTo2 ms cats (Int.toNat (ofN x)) x') ∧
      ((!hasV
      (List.getD cats (Int.toNat (ofN x))
      (T.dflt
      (T.slc
      T_Rec)))
      ((List.getD ms (Int.toNat (ofN x_1)) (T.dflt T_Mark)).2.1,
      (List.getD ms (Int.toNat (ofN x_1)) (T.dflt T_Mark)).2.2.1,
      (List.getD ms (Int.toNat (ofN x_1))
      (T.dflt T_Mark)).2.2.2.1)) =
      false →
      inI64 (ofN x_1 + 1) ∧
      ∃ (x' : Nat),
      x' ≤ List.length ms ∧
      List.length ms - x' < List.length ms - x_1 ∧
      ofN x_1 + 1 = ofN x' ∧ brTo2 ms cats (Int.toNat (ofN x)) x_1 = brTo2 ms cats (Int.toNat (ofN x)) x')) ∧
      (decide (ofN x_1 < ofN (List.length ms)) = false →
      inI64 (ofN x + 1) ∧
      ∃ (x' : Nat),
      x' ≤ List.length cats ∧ List.length cats - x' < List.length cats - x ∧ ofN x + 1 = ofN x' ∧ brTo2 ms cats (Int.toNat (ofN x)) x_1 = brTo2 ms cats x' 0)) ∧
      (decide (ofN x < ofN (List.length cats)) = false →
      List.length (List.flatten cats) ≤ 65536 ∧
      (∃ (x_1 : Nat), x_1 ≤ List.length (leadsV cats) ∧ 0 = ofN x_1 ∧ brTo2 ms cats x 0 = brTo3 ms cats x_1) ∧
      ∀ (x : Nat),
      x ≤ List.length (leadsV cats) →
      (decide (ofN x < ofN (List.length (leadsV cats))) = true →
      within (ofN x) (List.length (leadsV cats)) ∧
      List.length (brTo3 ms cats x) + List.length [(4, List.getD (leadsV cats) (Int.toNat (ofN x)) (T.dflt T.i64), 0)] ≤ ROOM ∧
      inI64 (ofN x + 1) ∧
      ∃ (x' : Nat),
      x' ≤ List.length (leadsV cats) ∧
      List.length (leadsV cats) - x' < List.length (leadsV cats) - x ∧
      ofN x + 1 = ofN x' ∧ brTo3 ms cats x ++ [(4, List.getD (leadsV cats) (Int.toNat (ofN x)) (T.dflt T.i64), 0)] = brTo3 ms cats x') ∧
      (decide (ofN x < ofN (List.length (leadsV cats))) = false → brTo3 ms cats x = checkB ms cats ∧ at_ = at_ ∧ ws = ws ∧ ms = ms)))) := by
  have e0 : ((0, 0, List.replicate 32 0#8) : HeadT) = head0 := rfl
  have hk' := hk
  obtain ⟨ha, hb, hc⟩ := hk'
  rw [e0]
  refine ⟨⟨0, Nat.zero_le _, rfl, rfl⟩, fun x hx => ⟨fun q => ?_, fun q => ?_⟩⟩
  · have hlt : x < cats.length := ltN q
    rw [show Int.toNat (ofN x) = x from rfl, show T.dflt (T.slc T_Rec) = ([] : List Rec) from rfl]
    have hl := brChain_len cats x
    have i1 : inI64 (ofN x + 1) := inN (by omega)
    refine ⟨wN hlt, fun q2 => ⟨roomB (by omega), i1, x + 1, hlt, by omega, rfl, ?_⟩, fun q2 => ⟨i1, x + 1, hlt, by omega, rfl, ?_⟩⟩
    · rw [brChain_snoc, q2]; rfl
    · rw [brChain_snoc, q2]; exact (List.append_nil _).symm
  · have hx2 : x = cats.length := by have := geN q; omega
    subst hx2
    refine ⟨⟨0, Nat.zero_le _, rfl, brTo10 ms cats⟩, fun x hx => ⟨fun q => ⟨⟨0, Nat.zero_le _, rfl, rfl⟩, fun y hy => ⟨fun q2 => ?_, fun q2 => ?_⟩⟩, fun q => ?_⟩⟩
    · have hlt : x < ms.length := ltN q
      rw [show Int.toNat (ofN x) = x from rfl] at hy ⊢
      have hy2 : y < x := ltN q2
      have i1 : inI64 (ofN y + 1) := inN (by omega)
      have w0 : within (ofN x) ms.length := wN hlt
      have w1 : within (ofN y) ms.length := wN (by omega)
      have hy3 : y < ms.length := by omega
      rw [show Int.toNat (ofN y) = y from rfl, apart_eq]
      refine ⟨w1, hy3, w0, hlt, fun _ => w1, fun _ => hy3, fun _ => w0, fun _ => hlt, fun q3 => ⟨roomB (brTo1_len hk hx (by omega)), i1, y + 1, hy2, by omega, rfl, ?_⟩, fun q3 => ⟨i1, y + 1, hy2, by omega, rfl, ?_⟩⟩
      · rw [brTo1_snoc, q3]; rfl
      · rw [brTo1_snoc, q3]; exact (List.append_nil _).symm
    · have hlt : x < ms.length := ltN q
      rw [show Int.toNat (ofN x) = x from rfl] at hy ⊢
      have hy2 : y = x := by have := geN q2; omega
      subst hy2
      exact ⟨inN (by omega), y + 1, hlt, by omega, rfl, brTo1_next ms cats y⟩
    · have hx2 : x = ms.length := by have := geN q; omega
      subst hx2
      refine ⟨⟨0, Nat.zero_le _, rfl, brTo12 ms cats⟩, fun x hx => ⟨fun q => ?_, fun q => ?_⟩⟩
      · have hlt : x < cats.length := ltN q
        rw [show Int.toNat (ofN x) = x from rfl, show T.dflt (T.slc T_Rec) = ([] : List Rec) from rfl]
        refine ⟨⟨0, Nat.zero_le _, rfl, rfl⟩, fun y hy => ⟨fun q2 => ?_, fun q2 => ?_⟩⟩
        · have hy2 : y < ms.length := ltN q2
          have i1 : inI64 (ofN y + 1) := inN (by omega)
          rw [show Int.toNat (ofN y) = y from rfl]
          refine ⟨wN hlt, wN hy2, hy2, fun q3 => ⟨roomB (brTo2_len hk hx (by omega)), i1, y + 1, hy2, by omega, rfl, ?_⟩, fun q3 => ⟨i1, y + 1, hy2, by omega, rfl, ?_⟩⟩
          · have q3 : (!hasV (cats.getD x []) (headM (ms.getD y T_Mark.dflt))) = true := q3
            rw [brTo2_snoc, q3]; rfl
          · have q3 : (!hasV (cats.getD x []) (headM (ms.getD y T_Mark.dflt))) = false := q3
            rw [brTo2_snoc, q3]; exact (List.append_nil _).symm
        · have hy2 : y = ms.length := by have := geN q2; omega
          subst hy2
          exact ⟨inN (by omega), x + 1, hlt, by omega, rfl, brTo2_next ms cats x⟩
      · have hx2 : x = cats.length := by have := geN q; omega
        subst hx2
        have hle := leadsV_len cats
        refine ⟨hc, ⟨0, Nat.zero_le _, rfl, brTo23 ms cats⟩, fun x hx => ⟨fun q => ?_, fun q => ?_⟩⟩
        · have hlt : x < (leadsV cats).length := ltN q
          exact ⟨wN hlt, roomB (brTo3_len hk hx), inN (by omega), x + 1, hlt, by omega, rfl, (brTo3_snoc ms cats hlt).symm⟩
        · have hx2 : x = (leadsV cats).length := by have := geN q; omega
          subst hx2
          exact ⟨rfl, rfl, rfl, rfl⟩

theorem ledger_leads_spec : Vse.Spec P f_ledger_leads c_leads := spec_fn (l := [(f_slices_Sort_int, c_sortI 3), (f_slices_Compact_int, c_compactI 3)]) ⟨slices_Sort_int_spec, slices_Compact_int_spec, trivial⟩ h_ledger_leads rfl rfl fun x h ok =>
  body_ok (an_leads x.1) (ledger_leads_vc x.1 h ok.1.1 fun c hc => (ok.1.2 c hc).1) (by kernel_rfl)

theorem ref24_leads_spec : Vse.Spec P f_ref24_leads c_leads := spec_fn (l := []) trivial h_ref24_leads rfl rfl fun x h ok =>
  body_ok (an_qleads x.1) (ref24_leads_vc x.1 h ok.1.1 fun c hc => (ok.1.2 c hc).1) (by kernel_rfl)

theorem ledger_Check_spec : Vse.Spec P f_ledger_Ledger_Check c_lCheck := spec_gm (l := [(f_ledger_Ledger_is, c_lIs), (f_record_Walk, c_Walk), (f_check_Has, c_Has), (f_ledger_leads, c_leads)]) ⟨ledger_is_spec, record_Walk_spec, check_Has_spec, ledger_leads_spec, trivial⟩ h_ledger_Ledger_Check rfl rfl fun s x h _ _ => by
  obtain ⟨ws, first, ms, at_, _⟩ := s
  obtain ⟨cats, _⟩ := x
  exact bodyG_ok (an_Check ms cats) (ledger_Check_vc ws first ms at_ cats h) (by kernel_rfl)

theorem ref24_Check_spec : Vse.Spec P f_ref24_Ledger_Check c_qCheck := spec_gm (l := [(f_ref13_Walk, c_Walk), (f_ref16_Has, c_Has), (f_ref24_leads, c_leads)]) ⟨ref13_Walk_spec, ref16_Has_spec, ref24_leads_spec, trivial⟩ h_ref24_Ledger_Check rfl rfl fun s x h _ _ => by
  obtain ⟨ws, ms, at_, _⟩ := s
  obtain ⟨cats, _⟩ := x
  exact bodyG_ok (an_qCheck ms cats) (ref24_Check_vc ws ms at_ cats h) (by kernel_rfl)

end Go.Sal
