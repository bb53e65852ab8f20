/- Contracts of disk. -/
import Derived.Test.YtheohmfljiphiaaQNm
import Derived.Test.YtheohmfljiphiaaQVseObj
import Derived.Test.YtheohmfljiphiaaQVseClose
set_option maxRecDepth 100000
namespace Go.Sal
open Go.Vse Go.Sal.Nm

abbrev T_Blk : T := .arr 512 .u8
abbrev T_Wr : T := .pair .i64 T_Blk
abbrev T_fsD : List OF := [.row 62 T_Blk, .row 64 T_Wr, .mp .i64 false .i64, .dat .bool, .dat .bool, .dat .i64]
abbrev T_D := ofds T_fsD
def askV (down : Bool) : Int := bif down then 91 else 0
def an_New : Ann := { at_ := fun _ _ => none, rows := [1009] }
def an_D : Ann := { at_ := fun _ _ => none, pins := [1, 2, 3, 4], prune := 1 }
def x_new (n : Int) : T_D := (List.replicate n.toNat T_Blk.dflt, [], [], false, false, 0, ())
def c_New : PC := gF [.i64] fun x => ⟨some (leP 4 x.1 ∧ leP x.1 4096), .tup [.ref (.cell 1 [] 0), .dv (.i64 0)], oObj T_fsD 12 (x_new x.1)⟩
def c_made : PC := gM T_fsD [] fun d _ => ⟨some (0 < d.1.length), .sv (.dv (.bool true)), oObj T_fsD 2 d⟩
def c_asked : PC := gM T_fsD [] fun d _ => ⟨some (0 < d.1.length), .sv (.dv (.i64 (askV d.2.2.2.1))), oObj T_fsD 2 d⟩

theorem disk_New_vc (n : Int) (h1 : 4 ≤ n) (h2 : n ≤ 4096) :
    ((decide (n < 4) || decide (4096 < n)) = true → False) ∧
      ((decide (n < 4) || decide (4096 < n)) = false →
        (n = n ∧ 0 ≤ n ∧ n ≤ ofN ROOM) ∧
          ofN 0 = 0 ∧
            (false = false ∧ false = false ∧ ofN 0 = 0) ∧
              List.replicate (Int.toNat n) (T.dflt (T.arr 512 T.u8)) = List.replicate (Int.toNat n) (T.dflt (T.arr 512 T.u8)) ∧
                nilOf (Int × List (BitVec 8)) = nilOf (Int × List (BitVec 8)) ∧ nilOf (Int × Int) = nilOf (Int × Int)) := by
  have e : ∀ n : Nat, ((ofN n : Int)) = n := fun _ => rfl
  simp only [T_Blk, true_and, and_true, ROOM, e]
  refine ⟨?_, ?_⟩ <;> first | omega | (simp; omega) | simp

theorem disk_made_vc (fast : List (List (BitVec 8))) (opn : List (Int × List (BitVec 8))) (last : List (Int × Int)) (down set : Bool) (left : Int) (h : 0 < fast.length) :
    (true = true → 0 < List.length fast) ∧ true = true ∧ (down = down ∧ set = set ∧ left = left) ∧ fast = fast ∧ opn = opn ∧ last = last := by
  exact ⟨fun _ => h, rfl, ⟨rfl, rfl, rfl⟩, rfl, rfl, rfl⟩

theorem disk_made_spec : Vse.Spec P f_disk_Disk_made c_made := spec_gm (l := []) trivial h_disk_Disk_made rfl rfl fun s x h _ _ => by
  obtain ⟨fast, opn, last, down, set, left, _⟩ := s
  exact bodyG_ok an_D (disk_made_vc fast opn last down set left h) (by kernel_rfl)

theorem disk_asked_vc (fast : List (List (BitVec 8))) (opn : List (Int × List (BitVec 8))) (last : List (Int × Int)) (down set : Bool) (left : Int) (h : 0 < fast.length) :
    0 < List.length fast ∧
      (false = true → 4 = askV down ∧ (down = down ∧ set = set ∧ left = left) ∧ fast = fast ∧ opn = opn ∧ last = last) ∧
        (false = false →
          (down = true → 91 = askV down ∧ (down = down ∧ set = set ∧ left = left) ∧ fast = fast ∧ opn = opn ∧ last = last) ∧
            (down = false → 0 = askV down ∧ (down = down ∧ set = set ∧ left = left) ∧ fast = fast ∧ opn = opn ∧ last = last)) := by
  refine ⟨h, (fun q => nomatch q), fun _ => ⟨fun q => ?_, fun q => ?_⟩⟩ <;> subst q <;> exact ⟨rfl, ⟨rfl, rfl, rfl⟩, rfl, rfl, rfl⟩

theorem disk_asked_spec : Vse.Spec P f_disk_Disk_asked c_asked := spec_gm (l := [(f_disk_Disk_made, c_made)]) ⟨disk_made_spec, trivial⟩ h_disk_Disk_asked rfl rfl fun s x h _ _ => by
  obtain ⟨fast, opn, last, down, set, left, _⟩ := s
  exact bodyG_ok an_D (disk_asked_vc fast opn last down set left h) (by kernel_rfl)

theorem disk_New_spec : Vse.Spec P f_disk_New c_New := spec_gf (l := []) trivial h_disk_New rfl rfl fun x h _ => by
  obtain ⟨n, _⟩ := x
  obtain ⟨h1, h2⟩ := h
  exact bodyG_ok an_New (disk_New_vc n h1 h2) (by kernel_rfl)

def atV (down : Bool) (n i : Int) : Int := bif down then 91 else bif decide (i < 0) || decide (n ≤ i) then 5 else 0
def powV (set : Bool) (left : Int) : Int := bif set && decide (left = 0) then 92 else 0
def powL (set : Bool) (left : Int) : Int := bif set && decide (left = 0) then left else max (left - 1) 0
def okLast (n : Nat) (last : List (Int × Int)) : Prop := ∀ i k, mget .i64 last i = some k → 0 ≤ k ∧ k < (n : Int)
def rdV (fast : List (List (BitVec 8))) (opn : List (Int × List (BitVec 8))) (last : List (Int × Int)) (i : Int) : List (BitVec 8) := match mget .i64 last i with
  | some k => (opn.getD k.toNat (0, T_Blk.dflt)).2
  | none => fast.getD i.toNat T_Blk.dflt
def readV (fast : List (List (BitVec 8))) (opn : List (Int × List (BitVec 8))) (last : List (Int × Int)) (down : Bool) (i : Int) : List (BitVec 8) := bif decide (atV down fast.length i = 0) then rdV fast opn last i else []
def c_at : PC := gM T_fsD [.i64] fun d x => ⟨some (0 < d.1.length), .sv (.dv (.i64 (atV d.2.2.2.1 d.1.length x.1))), oObj T_fsD 2 d⟩
def c_power : PC := gM T_fsD [] fun d _ => ⟨some (leP 0 d.2.2.2.2.2.1), .sv (.dv (.i64 (powV d.2.2.2.2.1 d.2.2.2.2.2.1))), oObj T_fsD 2 (d.1, d.2.1, d.2.2.1, d.2.2.2.1, d.2.2.2.2.1, powL d.2.2.2.2.1 d.2.2.2.2.2.1, ())⟩
def c_Read : PC := gM T_fsD [.i64] fun d x => ⟨some (0 < d.1.length ∧ okLast d.2.1.length d.2.2.1), .tup [.dv (.imm .u8 (readV d.1 d.2.1 d.2.2.1 d.2.2.2.1 x.1)), .dv (.i64 (atV d.2.2.2.1 d.1.length x.1))], oObj T_fsD 2 d⟩

theorem getD_at {α : Type} (l : List α) (i : Nat) (d : α) (h : i < l.length) : l.getD i d = l[i] := by simp [List.getD, List.getElem?_eq_getElem h]

theorem disk_at_vc (fast : List (List (BitVec 8))) (opn : List (Int × List (BitVec 8))) (last : List (Int × Int)) (down set : Bool) (left i : Int) (h : 0 < fast.length) :
    0 < List.length fast ∧
      ((askV down != 0) = true → askV down = atV down (ofN (List.length fast)) i ∧ (down = down ∧ set = set ∧ left = left) ∧ fast = fast ∧ opn = opn ∧ last = last) ∧
        ((askV down != 0) = false →
          ((decide (i < 0) || decide (ofN (List.length fast) ≤ i)) = true → 5 = atV down (ofN (List.length fast)) i ∧ (down = down ∧ set = set ∧ left = left) ∧ fast = fast ∧ opn = opn ∧ last = last) ∧
            ((decide (i < 0) || decide (ofN (List.length fast) ≤ i)) = false → 0 = atV down (ofN (List.length fast)) i ∧ (down = down ∧ set = set ∧ left = left) ∧ fast = fast ∧ opn = opn ∧ last = last)) := by
  unfold atV askV
  have e : ∀ n : Nat, ((ofN n : Int)) = n := fun _ => rfl
  rw [e]
  refine ⟨h, fun q => ?_, fun q => ⟨fun q2 => ?_, fun q2 => ?_⟩⟩ <;> cases down <;> simp at q <;> first | (rw [cond_false, q2]; exact ⟨rfl, ⟨rfl, rfl, rfl⟩, rfl, rfl, rfl⟩) | exact ⟨rfl, ⟨rfl, rfl, rfl⟩, rfl, rfl, rfl⟩

theorem disk_at_spec : Vse.Spec P f_disk_Disk_at c_at := spec_gm (l := [(f_disk_Disk_asked, c_asked)]) ⟨disk_asked_spec, trivial⟩ h_disk_Disk_at rfl rfl fun s x h _ _ => by
  obtain ⟨fast, opn, last, down, set, left, _⟩ := s
  obtain ⟨i, _⟩ := x
  exact bodyG_ok an_D (disk_at_vc fast opn last down set left i h) (by kernel_rfl)

theorem disk_power_vc (fast : List (List (BitVec 8))) (opn : List (Int × List (BitVec 8))) (last : List (Int × Int)) (down set : Bool) (left : Int) (h : 0 ≤ left) (h2 : inI64 left) :
    ((set && left == 0) = true → 92 = powV set left ∧ (down = down ∧ set = set ∧ left = powL set left) ∧ fast = fast ∧ opn = opn ∧ last = last) ∧
      ((set && left == 0) = false → inI64 (left - 1) ∧ 0 = powV set left ∧ (down = down ∧ set = set ∧ max (left - 1) 0 = powL set left) ∧ fast = fast ∧ opn = opn ∧ last = last) := by
  unfold powV powL
  have hd : (left == 0) = decide (left = 0) := rfl
  refine ⟨fun q => ?_, fun q => ?_⟩
  · have q' : (set && decide (left = 0)) = true := q
    rw [q']; exact ⟨rfl, ⟨rfl, rfl, rfl⟩, rfl, rfl, rfl⟩
  · have q' : (set && decide (left = 0)) = false := q
    rw [q']; exact ⟨by unfold inI64 at h2 ⊢; omega, rfl, ⟨rfl, rfl, rfl⟩, rfl, rfl, rfl⟩

theorem disk_power_spec : Vse.Spec P f_disk_Disk_power c_power := spec_gm (l := []) trivial h_disk_Disk_power rfl rfl fun s x h ok _ => by
  obtain ⟨fast, opn, last, down, set, left, _⟩ := s
  exact bodyG_ok an_D (disk_power_vc fast opn last down set left h ok.1.2.2.1) (by kernel_rfl)

theorem disk_Read_vc (fast : List (List (BitVec 8))) (opn : List (Int × List (BitVec 8))) (last : List (Int × Int)) (down set : Bool) (left i : Int) (h : 0 < fast.length) (hl : okLast opn.length last) (hf : ∀ x ∈ fast, x.length = 512) (ho : ∀ x ∈ opn, x.2.length = 512) :
    0 < List.length fast ∧
      ((atV down (ofN (List.length fast)) i != 0) = true →
          (nilOf (BitVec 8) = readV fast opn last down i ∧ atV down (ofN (List.length fast)) i = atV down (ofN (List.length fast)) i) ∧
            (down = down ∧ set = set ∧ left = left) ∧ fast = fast ∧ opn = opn ∧ last = last) ∧
        ((atV down (ofN (List.length fast)) i != 0) = false →
          within i (List.length fast) ∧
            Int.toNat i < List.length fast ∧
              ((match mget T.i64 last i with
                    | some val => true
                    | none => false) =
                    true →
                  within
                      (match mget T.i64 last i with
                      | some x => x
                      | none => T.dflt T.i64)
                      (List.length opn) ∧
                    Int.toNat
                          (match mget T.i64 last i with
                          | some x => x
                          | none => T.dflt T.i64) <
                        List.length opn ∧
                      (List.take 512
                              (List.drop 0
                                (List.getD opn
                                    (Int.toNat
                                      (match mget T.i64 last i with
                                      | some x => x
                                      | none => T.dflt T.i64))
                                    (T.dflt (T.pair T.i64 (T.arr 512 T.u8)))).2) =
                            readV fast opn last down i ∧
                          0 = atV down (ofN (List.length fast)) i) ∧
                        (down = down ∧ set = set ∧ left = left) ∧ fast = fast ∧ opn = opn ∧ last = last) ∧
                ((match mget T.i64 last i with
                    | some val => true
                    | none => false) =
                    false →
                  (List.take 512 (List.drop 0 (List.getD fast (Int.toNat i) (T.dflt (T.arr 512 T.u8)))) = readV fast opn last down i ∧ 0 = atV down (ofN (List.length fast)) i) ∧
                    (down = down ∧ set = set ∧ left = left) ∧ fast = fast ∧ opn = opn ∧ last = last)) := by
  have e : ∀ n : Nat, ((ofN n : Int)) = n := fun _ => rfl
  rw [e]
  refine ⟨h, fun q => ?_, fun q => ?_⟩
  · have q' : decide (atV down fast.length i = 0) = false := by simpa using q
    exact ⟨⟨by unfold readV; rw [q']; rfl, rfl⟩, ⟨rfl, rfl, rfl⟩, rfl, rfl, rfl⟩
  · have q' : atV down fast.length i = 0 := by simpa using q
    have hi : 0 ≤ i ∧ i < (fast.length : Int) := by
      unfold atV at q'
      cases down
      · simp only [cond_false] at q'
        cases hb : (decide (i < 0) || decide ((fast.length : Int) ≤ i)) with
        | true => rw [hb] at q'; simp at q'
        | false => simp at hb; omega
      · simp at q'
    refine ⟨hi, by omega, ?_⟩
    cases hm : mget T.i64 last i with
    | some k =>
      have hk := hl i k hm
      refine ⟨fun _ => ⟨hk, by simp only; omega, ⟨⟨?_, q'.symm⟩, ⟨rfl, rfl, rfl⟩, rfl, rfl, rfl⟩⟩, (fun q => nomatch q)⟩
      unfold readV rdV
      rw [decide_eq_true q', hm, cond_true]
      simp only [List.drop_zero]
      have hlt : k.toNat < opn.length := by omega
      rw [List.take_of_length_le]
      · rw [getD_at _ _ _ hlt, getD_at _ _ _ hlt]
      · rw [getD_at _ _ _ hlt]
        exact Nat.le_of_eq (ho _ (List.getElem_mem hlt))
    | none =>
      refine ⟨(fun q => nomatch q), fun _ => ⟨⟨?_, q'.symm⟩, ⟨rfl, rfl, rfl⟩, rfl, rfl, rfl⟩⟩
      unfold readV rdV
      rw [decide_eq_true q', hm, cond_true]
      simp only [List.drop_zero]
      have hlt : i.toNat < fast.length := by omega
      rw [List.take_of_length_le]
      rw [getD_at _ _ _ hlt]
      exact Nat.le_of_eq (hf _ (List.getElem_mem hlt))

theorem disk_Read_spec : Vse.Spec P f_disk_Disk_Read c_Read := spec_gm (l := [(f_disk_Disk_at, c_at)]) ⟨disk_at_spec, trivial⟩ h_disk_Disk_Read rfl rfl fun s x h ok _ => by
  obtain ⟨fast, opn, last, down, set, left, _⟩ := s
  obtain ⟨i, _⟩ := x
  exact bodyG_ok an_D (disk_Read_vc fast opn last down set left i h.1 h.2 (fun x hx => (ok.2.1.2 x hx).1) (fun x hx => (ok.2.2.1.2 x hx).2.1)) (by kernel_rfl)

def wrA (down : Bool) (n i m k : Int) : Int := bif decide (atV down n i = 0) then (bif decide (m > 512) then 2 else bif decide (k ≥ 65536) then 3 else 0) else atV down n i
def wrE (down set : Bool) (left n i m k : Int) : Int := bif decide (wrA down n i m k = 0) then powV set left else wrA down n i m k
def wrLeft (down set : Bool) (left n i m k : Int) : Int := bif decide (wrA down n i m k = 0) then powL set left else left
def wholeV (b : List (BitVec 8)) : List (BitVec 8) := b ++ List.replicate (512 - b.length) 0#8
def wrO (e : Int) (opn : List (Int × List (BitVec 8))) (i : Int) (b : List (BitVec 8)) : List (Int × List (BitVec 8)) := bif decide (e = 0) then opn ++ [(i, wholeV b)] else opn
def wrM (e : Int) (opn : List (Int × List (BitVec 8))) (last : List (Int × Int)) (i : Int) : List (Int × Int) := bif decide (e = 0) then mput .i64 last i opn.length else last
def x_wr (fast : List (List (BitVec 8))) (opn : List (Int × List (BitVec 8))) (last : List (Int × Int)) (down set : Bool) (left i : Int) (b : List (BitVec 8)) (e : Int) : T_D :=
  (fast, wrO e opn i b, wrM e opn last i, down, set, wrLeft down set left fast.length i b.length opn.length, ())
def an_W : Ann := { at_ := fun _ _ => none, prune := 1 }
def c_Write : PC := gM T_fsD [.i64, .slc .u8] fun d x => ⟨some (0 < d.1.length ∧ leP 0 d.2.2.2.2.2.1), .sv (.dv (.i64 (wrE d.2.2.2.1 d.2.2.2.2.1 d.2.2.2.2.2.1 d.1.length x.1 x.2.1.length d.2.1.length))),
  oObj T_fsD 12 (x_wr d.1 d.2.1 d.2.2.1 d.2.2.2.1 d.2.2.2.2.1 d.2.2.2.2.2.1 x.1 x.2.1 (wrE d.2.2.2.1 d.2.2.2.2.1 d.2.2.2.2.2.1 d.1.length x.1 x.2.1.length d.2.1.length))⟩

theorem whole_eq {b : List (BitVec 8)} (h : b.length ≤ 512) : spliceL (List.replicate 512 0#8) (List.take 512 b) 0 = wholeV b := by
  unfold spliceL wholeV
  rw [List.take_of_length_le h, List.take_zero, List.nil_append, Nat.zero_add, List.drop_replicate]

theorem disk_Write_vc (fast : List (List (BitVec 8))) (opn : List (Int × List (BitVec 8))) (last : List (Int × Int)) (down set : Bool) (left i : Int) (b : List (BitVec 8)) (h : 0 < fast.length) (h0 : 0 ≤ left) (hb : b.length ≤ LIM) :
    0 < List.length fast ∧
      ((atV down (ofN (List.length fast)) i != 0) = true →
          atV down (ofN (List.length fast)) i = wrE down set left (ofN (List.length fast)) i (ofN (List.length b)) (ofN (List.length opn)) ∧
            (down = down ∧ set = set ∧ left = wrLeft down set left (ofN (List.length fast)) i (ofN (List.length b)) (ofN (List.length opn))) ∧
              fast = fast ∧
                opn = wrO (wrE down set left (ofN (List.length fast)) i (ofN (List.length b)) (ofN (List.length opn))) opn i b ∧
                  last = wrM (wrE down set left (ofN (List.length fast)) i (ofN (List.length b)) (ofN (List.length opn))) opn last i) ∧
        ((atV down (ofN (List.length fast)) i != 0) = false →
          (decide (512 < ofN (List.length b)) = true →
              2 = wrE down set left (ofN (List.length fast)) i (ofN (List.length b)) (ofN (List.length opn)) ∧
                (down = down ∧ set = set ∧ left = wrLeft down set left (ofN (List.length fast)) i (ofN (List.length b)) (ofN (List.length opn))) ∧
                  fast = fast ∧
                    opn = wrO (wrE down set left (ofN (List.length fast)) i (ofN (List.length b)) (ofN (List.length opn))) opn i b ∧
                      last = wrM (wrE down set left (ofN (List.length fast)) i (ofN (List.length b)) (ofN (List.length opn))) opn last i) ∧
            (decide (512 < ofN (List.length b)) = false →
              (decide (65536 ≤ ofN (List.length opn)) = true →
                  3 = wrE down set left (ofN (List.length fast)) i (ofN (List.length b)) (ofN (List.length opn)) ∧
                    (down = down ∧ set = set ∧ left = wrLeft down set left (ofN (List.length fast)) i (ofN (List.length b)) (ofN (List.length opn))) ∧
                      fast = fast ∧
                        opn = wrO (wrE down set left (ofN (List.length fast)) i (ofN (List.length b)) (ofN (List.length opn))) opn i b ∧
                          last = wrM (wrE down set left (ofN (List.length fast)) i (ofN (List.length b)) (ofN (List.length opn))) opn last i) ∧
                (decide (65536 ≤ ofN (List.length opn)) = false →
                  0 ≤ left ∧
                    ((powV set left != 0) = true →
                        powV set left = wrE down set left (ofN (List.length fast)) i (ofN (List.length b)) (ofN (List.length opn)) ∧
                          (down = down ∧ set = set ∧ powL set left = wrLeft down set left (ofN (List.length fast)) i (ofN (List.length b)) (ofN (List.length opn))) ∧
                            fast = fast ∧
                              opn = wrO (wrE down set left (ofN (List.length fast)) i (ofN (List.length b)) (ofN (List.length opn))) opn i b ∧
                                last = wrM (wrE down set left (ofN (List.length fast)) i (ofN (List.length b)) (ofN (List.length opn))) opn last i) ∧
                      ((powV set left != 0) = false →
                        List.length opn + List.length [(i, spliceL (List.replicate 512 0#8) (List.take 512 b) 0)] ≤ ROOM ∧
                          0 = wrE down set left (ofN (List.length fast)) i (ofN (List.length b)) (ofN (List.length opn)) ∧
                            (down = down ∧ set = set ∧ powL set left = wrLeft down set left (ofN (List.length fast)) i (ofN (List.length b)) (ofN (List.length opn))) ∧
                              fast = fast ∧
                                opn ++ [(i, spliceL (List.replicate 512 0#8) (List.take 512 b) 0)] =
                                    wrO (wrE down set left (ofN (List.length fast)) i (ofN (List.length b)) (ofN (List.length opn))) opn i b ∧
                                  mput T.i64 last i (ofN (List.length opn)) = wrM (wrE down set left (ofN (List.length fast)) i (ofN (List.length b)) (ofN (List.length opn))) opn last i)))) := by
  have e : ∀ n : Nat, ((ofN n : Int)) = n := fun _ => rfl
  simp only [e, true_and]
  refine ⟨h, fun q => ?_, fun q => ⟨fun q2 => ?_, fun q2 => ⟨fun q3 => ?_, fun q3 => ⟨h0, fun q4 => ?_, fun q4 => ?_⟩⟩⟩⟩
  · have hA : decide (atV down fast.length i = 0) = false := by simpa using q
    have wA : wrA down fast.length i b.length opn.length = atV down fast.length i := by unfold wrA; rw [hA]; rfl
    have wE : wrE down set left fast.length i b.length opn.length = atV down fast.length i := by unfold wrE; rw [wA, hA]; rfl
    have wL : wrLeft down set left fast.length i b.length opn.length = left := by unfold wrLeft; rw [wA, hA]; rfl
    exact ⟨wE.symm, wL.symm, by unfold wrO; rw [wE, hA]; rfl, by unfold wrM; rw [wE, hA]; rfl⟩
  all_goals have hA : decide (atV down fast.length i = 0) = true := by simpa using q
  · have wA : wrA down fast.length i b.length opn.length = 2 := by unfold wrA; rw [hA, cond_true, show decide ((b.length : Int) > 512) = true from q2]; rfl
    have wE : wrE down set left fast.length i b.length opn.length = 2 := by unfold wrE; rw [wA]; rfl
    have wL : wrLeft down set left fast.length i b.length opn.length = left := by unfold wrLeft; rw [wA]; rfl
    exact ⟨wE.symm, wL.symm, by unfold wrO; rw [wE]; rfl, by unfold wrM; rw [wE]; rfl⟩
  · have wA : wrA down fast.length i b.length opn.length = 3 := by unfold wrA; rw [hA, cond_true, show decide ((b.length : Int) > 512) = false from q2, cond_false, show decide ((opn.length : Int) ≥ 65536) = true from q3]; rfl
    have wE : wrE down set left fast.length i b.length opn.length = 3 := by unfold wrE; rw [wA]; rfl
    have wL : wrLeft down set left fast.length i b.length opn.length = left := by unfold wrLeft; rw [wA]; rfl
    exact ⟨wE.symm, wL.symm, by unfold wrO; rw [wE]; rfl, by unfold wrM; rw [wE]; rfl⟩
  all_goals
    have wA : wrA down fast.length i b.length opn.length = 0 := by unfold wrA; rw [hA, cond_true, show decide ((b.length : Int) > 512) = false from q2, cond_false, show decide ((opn.length : Int) ≥ 65536) = false from q3]; rfl
    have wE : wrE down set left fast.length i b.length opn.length = powV set left := by unfold wrE; rw [wA]; rfl
    have wL : wrLeft down set left fast.length i b.length opn.length = powL set left := by unfold wrLeft; rw [wA]; rfl
  · have hP : decide (powV set left = 0) = false := by simpa using q4
    exact ⟨wE.symm, wL.symm, by unfold wrO; rw [wE, hP]; rfl, by unfold wrM; rw [wE, hP]; rfl⟩
  · have hP : powV set left = 0 := by simpa using q4
    have h2 : b.length ≤ 512 := by simp at q2; omega
    have h3 : opn.length < 65536 := by simp at q3; omega
    rw [whole_eq h2]
    refine ⟨by simp [ROOM]; omega, by rw [wE, hP], wL.symm, by unfold wrO; rw [wE, hP]; rfl, by unfold wrM; rw [wE, hP]; rfl⟩

theorem disk_Write_spec : Vse.Spec P f_disk_Disk_Write c_Write := spec_gm (l := [(f_disk_Disk_at, c_at), (f_disk_Disk_power, c_power)]) ⟨disk_at_spec, disk_power_spec, trivial⟩ h_disk_Disk_Write rfl rfl fun s x h ok hx => by
  obtain ⟨fast, opn, last, down, set, left, _⟩ := s
  obtain ⟨i, b, _⟩ := x
  exact bodyG_ok an_W (disk_Write_vc fast opn last down set left i b h.1 h.2 hx.2.1.1) (by kernel_rfl)

def cutV (b : List (BitVec 8)) : List (BitVec 8) := b.take 600
def c_cut : PC := D [.slc .u8] [.slc .u8] (fun _ => none) (fun x => (cutV x.1, ()))
def c_Down : PC := gM T_fsD [] fun d _ => ⟨some (0 < d.1.length), .sv (.dv (.bool d.2.2.2.1)), oObj T_fsD 2 d⟩
def an_0 : Nat → SState → Option LoopAnn := fun _ _ => none

theorem law9_cut_vc (b : List (BitVec 8)) :
    (decide (600 < ofN (List.length b)) = true → (ofN 0 ≤ 600 ∧ 600 ≤ ofN (List.length b)) ∧ List.drop 0 (List.take (Int.toNat 600) b) = cutV b) ∧ (decide (600 < ofN (List.length b)) = false → b = cutV b) := by
  unfold cutV
  have e : ∀ n : Nat, ((ofN n : Int)) = n := fun _ => rfl
  simp only [e]
  refine ⟨fun q => ?_, fun q => ?_⟩
  · simp at q
    first | (refine ⟨⟨?_, ?_⟩, ?_⟩ <;> simp <;> omega) | (refine ⟨?_, ?_⟩ <;> simp <;> omega) | simp
  · simp at q
    rw [List.take_of_length_le (by omega)]

theorem law9_cut_spec : Vse.Spec P f_law09_cut c_cut := spec_fn (l := []) trivial h_law09_cut rfl rfl fun x _ _ => by
  obtain ⟨b, _⟩ := x
  exact body_ok an_0 (law9_cut_vc b) (by kernel_rfl)

theorem disk_Down_vc (fast : List (List (BitVec 8))) (opn : List (Int × List (BitVec 8))) (last : List (Int × Int)) (down set : Bool) (left : Int) (h : 0 < fast.length) :
    0 < List.length fast ∧ (true && down) = down ∧ (down = down ∧ set = set ∧ left = left) ∧ fast = fast ∧ opn = opn ∧ last = last := by
  exact ⟨h, by simp, ⟨rfl, rfl, rfl⟩, rfl, rfl, rfl⟩

theorem disk_Down_spec : Vse.Spec P f_disk_Disk_Down c_Down := spec_gm (l := [(f_disk_Disk_made, c_made)]) ⟨disk_made_spec, trivial⟩ h_disk_Disk_Down rfl rfl fun s x h _ _ => by
  obtain ⟨fast, opn, last, down, set, left, _⟩ := s
  exact bodyG_ok an_D (disk_Down_vc fast opn last down set left h) (by kernel_rfl)

def x_tok (S : SState) (t : Nat) : Nat :=
  match S.get t with
  | .sv (.own k _ _) => k
  | _ => 0
def an_Wh (b : List (BitVec 8)) : Nat → SState → Option LoopAnn
  | 2, S => some { X := Nat, slots := fun k => [(3, .sv (.own 10 .u8 (b ++ List.replicate k 0#8)))], objs := fun _ => [(x_tok S 3, .gone), (10, .tok t_uint8 1)], inv := fun k => b.length + k ≤ max 512 b.length, meas := fun k => 512 - (b.length + k) }
  | _, _ => none
def c_Whole : PC := D [.slc .u8] [.slc .u8] (fun x => some (x.1.length ≤ 100000)) (fun x => (wholeV x.1, ()))

theorem ref9_Whole_vc (b : List (BitVec 8)) (hb : b.length ≤ 100000) :
    List.length (nilOf (BitVec 8)) + List.length b ≤ ROOM ∧
      (∃ (x : Nat), List.length b + x ≤ max 512 (List.length b) ∧ nilOf (BitVec 8) ++ b = b ++ List.replicate x 0#8) ∧
        ∀ (x : Nat),
          List.length b + x ≤ max 512 (List.length b) →
            (decide (ofN (List.length (b ++ List.replicate x 0#8)) < 512) = true →
                List.length (b ++ List.replicate x 0#8) + List.length [0#8] ≤ ROOM ∧
                  ∃ (x' : Nat), List.length b + x' ≤ max 512 (List.length b) ∧ 512 - (List.length b + x') < 512 - (List.length b + x) ∧ b ++ List.replicate x 0#8 ++ [0#8] = b ++ List.replicate x' 0#8) ∧
              (decide (ofN (List.length (b ++ List.replicate x 0#8)) < 512) = false → b ++ List.replicate x 0#8 = wholeV b) := by
  have e : ∀ n : Nat, ((ofN n : Int)) = n := fun _ => rfl
  simp only [e]
  refine ⟨by simp [ROOM]; omega, ⟨0, by omega, by simp⟩, fun k hk => ⟨fun q => ⟨?_, k + 1, ?_, ?_, ?_⟩, fun q => ?_⟩⟩
  all_goals simp at q
  · simp [ROOM]; omega
  · omega
  · omega
  · simp [List.replicate_succ']
  · unfold wholeV
    have : k = 512 - b.length := by omega
    rw [this]

theorem ref9_Whole_spec : Vse.Spec P f_ref09_Whole c_Whole := spec_fn (l := []) trivial h_ref09_Whole rfl rfl fun x h _ => by
  obtain ⟨b, _⟩ := x
  exact body_ok (an_Wh b) (ref9_Whole_vc b h) (by kernel_rfl)

def x_rowOf (S : SState) (t j : Nat) : Nat :=
  match S.get t with
  | .sv (.ref (.cell l [] 0)) => match Go.Vse.look l S.hp with
    | SObj.cells cs _ => match nthO cs j with
      | some (.ref (.row k)) => k
      | _ => 0
    | _ => 0
  | _ => 0
def lostN (at_ : Int) : Nat := (at_.tmod 513).toNat
def loseStep (keep : List Bool) (torn at_ : Int) (k : Nat) (w : Int × List (BitVec 8)) (fast : List (List (BitVec 8))) : List (List (BitVec 8)) :=
  bif decide ((k : Int) = torn) then (bif decide (0 < at_) then fast.set w.1.toNat (spliceL (fast.getD w.1.toNat T_Blk.dflt) (w.2.take (lostN at_)) 0) else fast)
  else bif keep.getD k false then fast.set w.1.toNat w.2 else fast
def loseK (keep : List Bool) (torn at_ : Int) (opn : List (Int × List (BitVec 8))) (fast : List (List (BitVec 8))) : Nat → List (List (BitVec 8))
  | 0 => fast
  | k + 1 => loseStep keep torn at_ k (opn.getD k (0, T_Blk.dflt)) (loseK keep torn at_ opn fast k)
def an_LoseL (keep : List Bool) (torn at_ : Int) (fast : List (List (BitVec 8))) (opn : List (Int × List (BitVec 8))) : Nat → SState → Option LoopAnn
  | 7, S => some { X := Nat, slots := fun k => [(36, .sv (.dv (.i64 (ofN k))))], objs := fun k => [(x_rowOf S 11 0, .row 62 T_Blk.size T_Blk (loseK keep torn at_ opn fast k) false)], inv := fun k => k ≤ opn.length, meas := fun k => opn.length - k }
  | _, _ => none
def an_Lose (keep : List Bool) (torn at_ : Int) (fast : List (List (BitVec 8))) (opn : List (Int × List (BitVec 8))) : Ann := { at_ := an_LoseL keep torn at_ fast opn, pins := [1, 2, 3, 4], prune := 1, rows := [1011, 1016] }
def x_lost (keep : List Bool) (torn at_ : Int) (fast : List (List (BitVec 8))) (opn : List (Int × List (BitVec 8))) : T_D := (loseK keep torn at_ opn fast opn.length, [], [], false, false, 0, ())
def x_oAt (fs : List OF) (l k : Nat) (x : ofds fs) : List (Nat × SObj) := (l, .cells (oCells fs k x) false) :: oHeap fs k x
def okOpen (n : Nat) (opn : List (Int × List (BitVec 8))) : Prop := ∀ w ∈ opn, 0 ≤ w.1 ∧ w.1 < (n : Int)
def c_Lose : PC := gM T_fsD [.slc .bool, .i64, .i64] fun d x => ⟨some (0 < d.1.length ∧ d.1.length ≤ 4096 ∧ eqP d.2.2.2.1 false ∧ okOpen d.1.length d.2.1), .tup [.ref (.cell 20 [] 0), .dv (.i64 0)],
  app (oObj T_fsD 2 (d.1, d.2.1, d.2.2.1, true, d.2.2.2.2.1, d.2.2.2.2.2.1, ())) (x_oAt T_fsD 20 21 (x_lost x.1 x.2.1 x.2.2.1 d.1 d.2.1))⟩

theorem loseStep_len (keep : List Bool) (torn at_ : Int) (k : Nat) (w : Int × List (BitVec 8)) (fast : List (List (BitVec 8))) : (loseStep keep torn at_ k w fast).length = fast.length := by
  unfold loseStep
  cases decide ((k : Int) = torn) <;> cases decide (0 < at_) <;> cases keep.getD k false <;> simp
theorem loseK_len (keep : List Bool) (torn at_ : Int) (opn : List (Int × List (BitVec 8))) (fast : List (List (BitVec 8))) : ∀ k, (loseK keep torn at_ opn fast k).length = fast.length
  | 0 => rfl
  | k + 1 => by rw [loseK, loseStep_len, loseK_len keep torn at_ opn fast k]

theorem disk_Lose_vc (fast : List (List (BitVec 8))) (opn : List (Int × List (BitVec 8))) (last : List (Int × Int)) (set : Bool) (left : Int) (keep : List Bool) (torn at_ : Int) (h : 0 < fast.length) (h4 : fast.length ≤ 4096) (hm : opn.length ≤ maxLen) (hl : okOpen fast.length opn) :
    0 < List.length fast ∧
      ((askV false != 0) = true → False) ∧
        ((askV false != 0) = false →
          List.length (nilOf (List (BitVec 8))) + List.length fast ≤ ROOM ∧
            (∃ (x : Nat), x ≤ List.length opn ∧ 0 = ofN x ∧ nilOf (List (BitVec 8)) ++ fast = loseK keep torn at_ opn fast x) ∧
              ∀ (x : Nat),
                x ≤ List.length opn →
                  (decide (ofN x < ofN (List.length opn)) = true →
                      within (ofN x) (List.length opn) ∧
                        Int.toNat (ofN x) < List.length opn ∧
                          ((ofN x == torn) = true →
                              (decide (0 < at_) = true →
                                  within (List.getD opn (Int.toNat (ofN x)) (T.dflt (T.pair T.i64 (T.arr 512 T.u8)))).1 (List.length (loseK keep torn at_ opn fast x)) ∧
                                    ofN 513 ≠ 0 ∧
                                      (0 ≤ Int.tmod at_ 513 ∧ Int.tmod at_ 513 ≤ ofN 512) ∧
                                        Int.toNat (List.getD opn (Int.toNat (ofN x)) (T.dflt (T.pair T.i64 (T.arr 512 T.u8)))).1 < List.length (loseK keep torn at_ opn fast x) ∧
                                          inI64 (ofN x + 1) ∧
                                            ∃ (x' : Nat),
                                              x' ≤ List.length opn ∧
                                                List.length opn - x' < List.length opn - x ∧
                                                  ofN x + 1 = ofN x' ∧
                                                    List.set (loseK keep torn at_ opn fast x) (Int.toNat (List.getD opn (Int.toNat (ofN x)) (T.dflt (T.pair T.i64 (T.arr 512 T.u8)))).1)
                                                        (spliceL
                                                          (List.getD (loseK keep torn at_ opn fast x) (Int.toNat (List.getD opn (Int.toNat (ofN x)) (T.dflt (T.pair T.i64 (T.arr 512 T.u8)))).1)
                                                            (T.dflt (T.arr 512 T.u8)))
                                                          (List.take 512
                                                            (List.take (Int.toNat (Int.tmod at_ 513) - 0) (List.drop 0 (List.getD opn (Int.toNat (ofN x)) (T.dflt (T.pair T.i64 (T.arr 512 T.u8)))).2)))
                                                          0) =
                                                      loseK keep torn at_ opn fast x') ∧
                                (decide (0 < at_) = false →
                                  inI64 (ofN x + 1) ∧
                                    ∃ (x' : Nat),
                                      x' ≤ List.length opn ∧ List.length opn - x' < List.length opn - x ∧ ofN x + 1 = ofN x' ∧ loseK keep torn at_ opn fast x = loseK keep torn at_ opn fast x')) ∧
                            ((ofN x == torn) = false →
                              (decide (ofN x < ofN (List.length keep)) = true → within (ofN x) (List.length keep)) ∧
                                ((decide (ofN x < ofN (List.length keep)) && List.getD keep (Int.toNat (ofN x)) (T.dflt T.bool)) = true →
                                    within (List.getD opn (Int.toNat (ofN x)) (T.dflt (T.pair T.i64 (T.arr 512 T.u8)))).1 (List.length (loseK keep torn at_ opn fast x)) ∧
                                      Int.toNat (List.getD opn (Int.toNat (ofN x)) (T.dflt (T.pair T.i64 (T.arr 512 T.u8)))).1 < List.length (loseK keep torn at_ opn fast x) ∧
                                        inI64 (ofN x + 1) ∧
                                          ∃ (x' : Nat),
                                            x' ≤ List.length opn ∧
                                              List.length opn - x' < List.length opn - x ∧
                                                ofN x + 1 = ofN x' ∧
                                                  List.set (loseK keep torn at_ opn fast x) (Int.toNat (List.getD opn (Int.toNat (ofN x)) (T.dflt (T.pair T.i64 (T.arr 512 T.u8)))).1)
                                                      (List.getD opn (Int.toNat (ofN x)) (T.dflt (T.pair T.i64 (T.arr 512 T.u8)))).2 =
                                                    loseK keep torn at_ opn fast x') ∧
                                  ((decide (ofN x < ofN (List.length keep)) && List.getD keep (Int.toNat (ofN x)) (T.dflt T.bool)) = false →
                                    inI64 (ofN x + 1) ∧
                                      ∃ (x' : Nat),
                                        x' ≤ List.length opn ∧ List.length opn - x' < List.length opn - x ∧ ofN x + 1 = ofN x' ∧ loseK keep torn at_ opn fast x = loseK keep torn at_ opn fast x'))) ∧
                    (decide (ofN x < ofN (List.length opn)) = false →
                      ofN 0 = 0 ∧
                        (true = true ∧ set = set ∧ left = left) ∧
                          fast = fast ∧
                            opn = opn ∧
                              last = last ∧
                                (false = false ∧ false = false ∧ ofN 0 = 0) ∧
                                  loseK keep torn at_ opn fast x = loseK keep torn at_ opn fast (List.length opn) ∧
                                    nilOf (Int × List (BitVec 8)) = nilOf (Int × List (BitVec 8)) ∧ nilOf (Int × Int) = nilOf (Int × Int))) := by
  have e : ∀ n : Nat, ((ofN n : Int)) = n := fun _ => rfl
  have len := fun k => loseK_len keep torn at_ opn fast k
  refine ⟨h, fun q => absurd q (by decide), fun _ => ⟨by simp [ROOM]; omega, ⟨0, Nat.zero_le _, rfl, rfl⟩, fun x hx => ⟨fun q => ?_, fun q => ?_⟩⟩⟩
  · have hlt : x < opn.length := by simpa using q
    have hw : 0 ≤ (opn.getD x (0, T_Blk.dflt)).1 ∧ (opn.getD x (0, T_Blk.dflt)).1 < (fast.length : Int) := by
      rw [getD_at _ _ _ hlt]; exact hl _ (List.getElem_mem hlt)
    have step : loseK keep torn at_ opn fast (x + 1) = loseStep keep torn at_ x (opn.getD x (0, T_Blk.dflt)) (loseK keep torn at_ opn fast x) := rfl
    have hi : inI64 ((x : Int) + 1) := by unfold inI64; unfold maxLen at hm; omega
    simp only [e, Int.toNat_natCast]
    change within x opn.length ∧ x < opn.length ∧ _
    have hd : (T.dflt (T.pair T.i64 (T.arr 512 T.u8))) = ((0 : Int), T_Blk.dflt) := rfl
    rw [hd] at *
    generalize hwd : opn.getD x ((0 : Int), T_Blk.dflt) = w at *
    obtain ⟨wi, wb⟩ := w
    simp only at hw ⊢
    refine ⟨⟨by omega, by omega⟩, hlt, fun qt => ⟨fun qa => ?_, fun qa => ?_⟩, fun qt => ⟨fun qk => ⟨by omega, by simpa using qk⟩, fun qk => ?_, fun qk => ?_⟩⟩
    · have ht : decide ((x : Int) = torn) = true := by simpa using qt
      have ha : 0 < at_ := by simpa using qa
      have b1 := Int.tmod_nonneg (b := 513) (show 0 ≤ at_ by omega)
      have b2 := Int.tmod_lt_of_pos at_ (show (0 : Int) < 513 by decide)
      refine ⟨⟨hw.1, by rw [len]; exact hw.2⟩, by decide, ⟨b1, by omega⟩, by rw [len]; omega, hi, x + 1, hlt, by omega, rfl, ?_⟩
      rw [step]
      unfold loseStep
      rw [ht, qa, cond_true, cond_true, List.drop_zero, Nat.sub_zero, List.take_take, Nat.min_eq_right (by omega)]
      rfl
    · have ht : decide ((x : Int) = torn) = true := by simpa using qt
      refine ⟨hi, x + 1, hlt, by omega, rfl, ?_⟩
      rw [step]
      unfold loseStep
      rw [ht, qa]; rfl
    · have ht : decide ((x : Int) = torn) = false := by simpa using qt
      have hk : keep.getD x false = true := by
        simp only [Bool.and_eq_true] at qk; exact qk.2
      refine ⟨⟨hw.1, by rw [len]; exact hw.2⟩, by rw [len]; omega, hi, x + 1, hlt, by omega, rfl, ?_⟩
      rw [step]
      unfold loseStep
      rw [ht, hk]; rfl
    · have ht : decide ((x : Int) = torn) = false := by simpa using qt
      have hk : keep.getD x false = false := by
        simp only [Bool.and_eq_false_iff, decide_eq_false_iff_not] at qk
        rcases qk with qk | qk
        · simp [List.getD, List.getElem?_eq_none (show keep.length ≤ x by omega)]
        · exact qk
      refine ⟨hi, x + 1, hlt, by omega, rfl, ?_⟩
      rw [step]
      unfold loseStep
      rw [ht, hk]; rfl
  · have : x = opn.length := by
      have : ¬ x < opn.length := by simpa using q
      omega
    subst this
    exact ⟨rfl, ⟨rfl, rfl, rfl⟩, rfl, rfl, rfl, ⟨rfl, rfl, rfl⟩, rfl, rfl, rfl⟩

def syncK (opn : List (Int × List (BitVec 8))) (fast : List (List (BitVec 8))) : Nat → List (List (BitVec 8))
  | 0 => fast
  | k + 1 => (syncK opn fast k).set (opn.getD k (0, T_Blk.dflt)).1.toNat (opn.getD k (0, T_Blk.dflt)).2
def syE (down set : Bool) (left : Int) : Int := bif down then 91 else powV set left
def syLeft (down set : Bool) (left : Int) : Int := bif down then left else powL set left
def syF (e : Int) (opn : List (Int × List (BitVec 8))) (fast : List (List (BitVec 8))) : List (List (BitVec 8)) := bif decide (e = 0) then syncK opn fast opn.length else fast
def syO (e : Int) (opn : List (Int × List (BitVec 8))) : List (Int × List (BitVec 8)) := bif decide (e = 0) then [] else opn
def syM (e : Int) (last : List (Int × Int)) : List (Int × Int) := bif decide (e = 0) then [] else last
def syN (e : Int) (opn : List (Int × List (BitVec 8))) : Int := bif decide (e = 0) then opn.length else 0
def x_sy (fast : List (List (BitVec 8))) (opn : List (Int × List (BitVec 8))) (last : List (Int × Int)) (down set : Bool) (left : Int) : T_D :=
  (syF (syE down set left) opn fast, syO (syE down set left) opn, syM (syE down set left) last, down, set, syLeft down set left, ())
def an_SyL (fast : List (List (BitVec 8))) (opn : List (Int × List (BitVec 8))) : Nat → SState → Option LoopAnn
  | 9, _ => some { X := Nat, slots := fun k => [(25, .sv (.dv (.i64 (ofN k))))], objs := fun k => [(2, .row 62 T_Blk.size T_Blk (syncK opn fast k) false)], inv := fun k => k ≤ opn.length, meas := fun k => opn.length - k }
  | _, _ => none
def an_Sy (fast : List (List (BitVec 8))) (opn : List (Int × List (BitVec 8))) : Ann := { at_ := an_SyL fast opn, pins := [1], prune := 1 }
def c_Sync : PC := gM T_fsD [] fun d _ => ⟨some (0 < d.1.length ∧ leP 0 d.2.2.2.2.2.1 ∧ okOpen d.1.length d.2.1), .tup [.dv (.i64 (syN (syE d.2.2.2.1 d.2.2.2.2.1 d.2.2.2.2.2.1) d.2.1)), .dv (.i64 (syE d.2.2.2.1 d.2.2.2.2.1 d.2.2.2.2.2.1))],
  oObj T_fsD 12 (x_sy d.1 d.2.1 d.2.2.1 d.2.2.2.1 d.2.2.2.2.1 d.2.2.2.2.2.1)⟩
def flipB (at_ : Int) (mask : BitVec 8) (b : List (BitVec 8)) : List (BitVec 8) := b.set at_.toNat (b.getD at_.toNat 0#8 ^^^ mask)
def rotOne (i at_ : Int) (mask : BitVec 8) (w : Int × List (BitVec 8)) : Int × List (BitVec 8) := bif w.1 == i then (w.1, flipB at_ mask w.2) else w
def rotK (i at_ : Int) (mask : BitVec 8) (opn : List (Int × List (BitVec 8))) (k : Nat) : List (Int × List (BitVec 8)) := (opn.take k).map (rotOne i at_ mask) ++ opn.drop k
def rotE (down : Bool) (n i at_ : Int) : Int := bif decide (atV down n i = 0) then (bif decide (at_ < 0) || decide (at_ ≥ 512) then 5 else 0) else atV down n i
def rotF (e i at_ : Int) (mask : BitVec 8) (fast : List (List (BitVec 8))) : List (List (BitVec 8)) := bif decide (e = 0) then fast.set i.toNat (flipB at_ mask (fast.getD i.toNat T_Blk.dflt)) else fast
def rotO (e i at_ : Int) (mask : BitVec 8) (opn : List (Int × List (BitVec 8))) : List (Int × List (BitVec 8)) := bif decide (e = 0) then opn.map (rotOne i at_ mask) else opn
def an_RotL (i at_ : Int) (mask : BitVec 8) (opn : List (Int × List (BitVec 8))) : Nat → SState → Option LoopAnn
  | 8, _ => some { X := Nat, slots := fun k => [(41, .sv (.dv (.i64 (ofN k))))], objs := fun k => [(3, .row 64 T_Wr.size T_Wr (rotK i at_ mask opn k) false)], inv := fun k => k ≤ opn.length, meas := fun k => opn.length - k }
  | _, _ => none
def an_Rot (i at_ : Int) (mask : BitVec 8) (opn : List (Int × List (BitVec 8))) : Ann := { at_ := an_RotL i at_ mask opn, pins := [1, 2, 3, 4], prune := 1 }
def c_Rot : PC := gM T_fsD [.i64, .i64, .u8] fun d x => ⟨some (0 < d.1.length), .sv (.dv (.i64 (rotE d.2.2.2.1 d.1.length x.1 x.2.1))),
  oObj T_fsD 2 (rotF (rotE d.2.2.2.1 d.1.length x.1 x.2.1) x.1 x.2.1 x.2.2.1 d.1, rotO (rotE d.2.2.2.1 d.1.length x.1 x.2.1) x.1 x.2.1 x.2.2.1 d.2.1, d.2.2.1, d.2.2.2.1, d.2.2.2.2.1, d.2.2.2.2.2.1, ())⟩
def fuS (down set : Bool) (n : Int) : Bool := bif down then set else decide (n ≥ 0)
def fuL (down : Bool) (left n : Int) : Int := bif down then left else max n 0
def c_Fuse : PC := gM T_fsD [.i64] fun d x => ⟨some (0 < d.1.length), .sv (.dv (.i64 (askV d.2.2.2.1))), oObj T_fsD 2 (d.1, d.2.1, d.2.2.1, d.2.2.2.1, fuS d.2.2.2.1 d.2.2.2.2.1 x.1, fuL d.2.2.2.1 d.2.2.2.2.2.1 x.1, ())⟩
def c_Blocks : PC := gM T_fsD [] fun d _ => ⟨some (0 < d.1.length), .sv (.dv (.i64 d.1.length)), oObj T_fsD 2 d⟩
def opV (down : Bool) (n : Int) : Int := bif down then 0 else n
def c_Open : PC := gM T_fsD [] fun d _ => ⟨some (0 < d.1.length), .sv (.dv (.i64 (opV d.2.2.2.1 d.2.1.length))), oObj T_fsD 2 d⟩

theorem syncK_len (opn : List (Int × List (BitVec 8))) (fast : List (List (BitVec 8))) : ∀ k, (syncK opn fast k).length = fast.length
  | 0 => rfl
  | k + 1 => by rw [syncK, List.length_set, syncK_len opn fast k]

theorem disk_Sync_vc (fast : List (List (BitVec 8))) (opn : List (Int × List (BitVec 8))) (last : List (Int × Int)) (down set : Bool) (left : Int) (h : 0 < fast.length) (h0 : 0 ≤ left) (hm : opn.length ≤ maxLen) (hl : okOpen fast.length opn) :
    0 < List.length fast ∧
      ((askV down != 0) = true →
          (0 = syN (syE down set left) opn ∧ askV down = syE down set left) ∧
            (down = down ∧ set = set ∧ left = syLeft down set left) ∧ fast = syF (syE down set left) opn fast ∧ opn = syO (syE down set left) opn ∧ last = syM (syE down set left) last) ∧
        ((askV down != 0) = false →
          0 ≤ left ∧
            ((powV set left != 0) = true →
                (0 = syN (syE down set left) opn ∧ powV set left = syE down set left) ∧
                  (down = down ∧ set = set ∧ powL set left = syLeft down set left) ∧ fast = syF (syE down set left) opn fast ∧ opn = syO (syE down set left) opn ∧ last = syM (syE down set left) last) ∧
              ((powV set left != 0) = false →
                (∃ (x : Nat), x ≤ List.length opn ∧ 0 = ofN x ∧ fast = syncK opn fast x) ∧
                  ∀ (x : Nat),
                    x ≤ List.length opn →
                      (decide (ofN x < ofN (List.length opn)) = true →
                          within (ofN x) (List.length opn) ∧
                            Int.toNat (ofN x) < List.length opn ∧
                              within (List.getD opn (Int.toNat (ofN x)) (T.dflt (T.pair T.i64 (T.arr 512 T.u8)))).1 (List.length (syncK opn fast x)) ∧
                                Int.toNat (List.getD opn (Int.toNat (ofN x)) (T.dflt (T.pair T.i64 (T.arr 512 T.u8)))).1 < List.length (syncK opn fast x) ∧
                                  Int.toNat (ofN x) < List.length opn ∧
                                    ((!eqL T.u8 (List.getD (syncK opn fast x) (Int.toNat (List.getD opn (Int.toNat (ofN x)) (T.dflt (T.pair T.i64 (T.arr 512 T.u8)))).1) (T.dflt (T.arr 512 T.u8)))
                                              (List.getD opn (Int.toNat (ofN x)) (T.dflt (T.pair T.i64 (T.arr 512 T.u8)))).2) =
                                          true →
                                        Int.toNat (ofN x) < List.length opn ∧
                                          Int.toNat (ofN x) < List.length opn ∧
                                            within (List.getD opn (Int.toNat (ofN x)) (T.dflt (T.pair T.i64 (T.arr 512 T.u8)))).1 (List.length (syncK opn fast x)) ∧
                                              Int.toNat (List.getD opn (Int.toNat (ofN x)) (T.dflt (T.pair T.i64 (T.arr 512 T.u8)))).1 < List.length (syncK opn fast x) ∧
                                                inI64 (ofN x + 1) ∧
                                                  ∃ (x' : Nat),
                                                    x' ≤ List.length opn ∧
                                                      List.length opn - x' < List.length opn - x ∧
                                                        ofN x + 1 = ofN x' ∧
                                                          List.set (syncK opn fast x) (Int.toNat (List.getD opn (Int.toNat (ofN x)) (T.dflt (T.pair T.i64 (T.arr 512 T.u8)))).1)
                                                              (List.getD opn (Int.toNat (ofN x)) (T.dflt (T.pair T.i64 (T.arr 512 T.u8)))).2 =
                                                            syncK opn fast x') ∧
                                      ((!eqL T.u8 (List.getD (syncK opn fast x) (Int.toNat (List.getD opn (Int.toNat (ofN x)) (T.dflt (T.pair T.i64 (T.arr 512 T.u8)))).1) (T.dflt (T.arr 512 T.u8)))
                                              (List.getD opn (Int.toNat (ofN x)) (T.dflt (T.pair T.i64 (T.arr 512 T.u8)))).2) =
                                          false →
                                        inI64 (ofN x + 1) ∧ ∃ (x' : Nat), x' ≤ List.length opn ∧ List.length opn - x' < List.length opn - x ∧ ofN x + 1 = ofN x' ∧ syncK opn fast x = syncK opn fast x')) ∧
                        (decide (ofN x < ofN (List.length opn)) = false →
                          (ofN (List.length opn) = syN (syE down set left) opn ∧ 0 = syE down set left) ∧
                            (down = down ∧ set = set ∧ powL set left = syLeft down set left) ∧
                              syncK opn fast x = syF (syE down set left) opn fast ∧ syO (syE down set left) opn = nilOf (Int × List (BitVec 8)) ∧ nilOf (Int × Int) = syM (syE down set left) last))) := by
  have e : ∀ n : Nat, ((ofN n : Int)) = n := fun _ => rfl
  have len := fun k => syncK_len opn fast k
  refine ⟨h, fun q => ?_, fun q => ⟨h0, fun q2 => ?_, fun q2 => ⟨⟨0, Nat.zero_le _, rfl, rfl⟩, fun x hx => ⟨fun q3 => ?_, fun q3 => ?_⟩⟩⟩⟩
  · have hd : down = true := by cases down <;> simp [askV] at q ⊢
    subst hd
    exact ⟨⟨rfl, rfl⟩, ⟨rfl, rfl, rfl⟩, rfl, rfl, rfl⟩
  all_goals
    have hd : down = false := by cases down <;> simp [askV] at q ⊢
    subst hd
  · have hp : decide (powV set left = 0) = false := by simpa using q2
    have hE : syE false set left = powV set left := rfl
    rw [hE]
    unfold syN syF syO syM
    rw [hp]
    exact ⟨⟨rfl, rfl⟩, ⟨rfl, rfl, rfl⟩, rfl, rfl, rfl⟩
  · have hlt : x < opn.length := by simpa using q3
    have hw : 0 ≤ (opn.getD x (0, T_Blk.dflt)).1 ∧ (opn.getD x (0, T_Blk.dflt)).1 < (fast.length : Int) := by
      rw [getD_at _ _ _ hlt]; exact hl _ (List.getElem_mem hlt)
    have step : syncK opn fast (x + 1) = (syncK opn fast x).set (opn.getD x (0, T_Blk.dflt)).1.toNat (opn.getD x (0, T_Blk.dflt)).2 := rfl
    have hi : inI64 ((x : Int) + 1) := by unfold inI64; unfold maxLen at hm; omega
    simp only [e, Int.toNat_natCast]
    change within x opn.length ∧ x < opn.length ∧ _
    have hd : (T.dflt (T.pair T.i64 (T.arr 512 T.u8))) = ((0 : Int), T_Blk.dflt) := rfl
    rw [hd] at *
    generalize hwd : opn.getD x ((0 : Int), T_Blk.dflt) = w at *
    obtain ⟨wi, wb⟩ := w
    simp only at hw step ⊢
    refine ⟨⟨by omega, by omega⟩, hlt, ⟨hw.1, by rw [len]; exact hw.2⟩, by rw [len]; omega, hlt, fun _ => ⟨hlt, hlt, ⟨hw.1, by rw [len]; exact hw.2⟩, by rw [len]; omega, hi, x + 1, hlt, by omega, rfl, step.symm⟩, fun q4 => ⟨hi, x + 1, hlt, by omega, rfl, ?_⟩⟩
    rw [step]
    have hb : wi.toNat < (syncK opn fast x).length := by rw [len]; omega
    have h5 : (syncK opn fast x).getD wi.toNat (T.dflt (T.arr 512 T.u8)) = wb := by
      have : eqL T.u8 ((syncK opn fast x).getD wi.toNat (T.dflt (T.arr 512 T.u8))) wb = true := by simpa using q4
      unfold eqL at this
      exact of_decide_eq_true this
    rw [getD_at _ _ _ hb] at h5
    rw [← h5, List.set_getElem_self]
  · have : x = opn.length := by
      have : ¬ x < opn.length := by simpa using q3
      omega
    subst this
    have hp : powV set left = 0 := by simpa using q2
    have hE : syE false set left = 0 := hp
    rw [hE]
    exact ⟨⟨rfl, rfl⟩, ⟨rfl, rfl, rfl⟩, rfl, rfl, rfl⟩

theorem rotK_len (i at_ : Int) (mask : BitVec 8) (opn : List (Int × List (BitVec 8))) (k : Nat) : (rotK i at_ mask opn k).length = opn.length := by
  unfold rotK; simp; omega
theorem rotK_zero (i at_ : Int) (mask : BitVec 8) (opn : List (Int × List (BitVec 8))) : rotK i at_ mask opn 0 = opn := by unfold rotK; simp
theorem rotK_get (i at_ : Int) (mask : BitVec 8) (opn : List (Int × List (BitVec 8))) {x : Nat} (h : x < opn.length) : (rotK i at_ mask opn x)[x]'(by rw [rotK_len]; exact h) = opn[x] := by
  unfold rotK
  rw [List.getElem_append_right (by simp; omega)]
  simp [Nat.min_eq_left (Nat.le_of_lt h)]
theorem rotK_succ (i at_ : Int) (mask : BitVec 8) (opn : List (Int × List (BitVec 8))) {x : Nat} (h : x < opn.length) : rotK i at_ mask opn (x + 1) = (rotK i at_ mask opn x).set x (rotOne i at_ mask opn[x]) := by
  unfold rotK
  have hl : ((opn.take x).map (rotOne i at_ mask)).length = x := by rw [List.length_map, List.length_take, Nat.min_eq_left (Nat.le_of_lt h)]
  rw [List.set_append_right _ _ (by rw [hl]; exact Nat.le_refl x), List.drop_eq_getElem_cons h, hl, Nat.sub_self, List.set_cons_zero, List.take_succ_eq_append_getElem h, List.map_append, List.append_assoc]
  rfl

theorem disk_Rot_vc (fast : List (List (BitVec 8))) (opn : List (Int × List (BitVec 8))) (last : List (Int × Int)) (down set : Bool) (left i at_ : Int) (mask : BitVec 8) (h : 0 < fast.length) (hm : opn.length ≤ maxLen) (hf : ∀ x ∈ fast, x.length = 512) (ho : ∀ x ∈ opn, x.2.length = 512) :
    0 < List.length fast ∧
      ((atV down (ofN (List.length fast)) i != 0) = true →
          atV down (ofN (List.length fast)) i = rotE down (ofN (List.length fast)) i at_ ∧
            (down = down ∧ set = set ∧ left = left) ∧
              fast = rotF (rotE down (ofN (List.length fast)) i at_) i at_ mask fast ∧ opn = rotO (rotE down (ofN (List.length fast)) i at_) i at_ mask opn ∧ last = last) ∧
        ((atV down (ofN (List.length fast)) i != 0) = false →
          ((decide (at_ < 0) || decide (512 ≤ at_)) = true →
              5 = rotE down (ofN (List.length fast)) i at_ ∧
                (down = down ∧ set = set ∧ left = left) ∧
                  fast = rotF (rotE down (ofN (List.length fast)) i at_) i at_ mask fast ∧ opn = rotO (rotE down (ofN (List.length fast)) i at_) i at_ mask opn ∧ last = last) ∧
            ((decide (at_ < 0) || decide (512 ≤ at_)) = false →
              within i (List.length fast) ∧
                within at_ 512 ∧
                  Int.toNat i < List.length fast ∧
                    within i (List.length fast) ∧
                      within at_ 512 ∧
                        Int.toNat i < List.length fast ∧
                          (∃ (x : Nat), x ≤ List.length opn ∧ 0 = ofN x ∧ opn = rotK i at_ mask opn x) ∧
                            ∀ (x : Nat),
                              x ≤ List.length opn →
                                (decide (ofN x < ofN (List.length opn)) = true →
                                    within (ofN x) (List.length (rotK i at_ mask opn x)) ∧
                                      Int.toNat (ofN x) < List.length (rotK i at_ mask opn x) ∧
                                        (((List.getD (rotK i at_ mask opn x) (Int.toNat (ofN x)) (T.dflt (T.pair T.i64 (T.arr 512 T.u8)))).1 == i) = true →
                                            within (ofN x) (List.length (rotK i at_ mask opn x)) ∧
                                              within at_ 512 ∧
                                                Int.toNat (ofN x) < List.length (rotK i at_ mask opn x) ∧
                                                  within (ofN x) (List.length (rotK i at_ mask opn x)) ∧
                                                    within at_ 512 ∧
                                                      Int.toNat (ofN x) < List.length (rotK i at_ mask opn x) ∧
                                                        inI64 (ofN x + 1) ∧
                                                          ∃ (x' : Nat),
                                                            x' ≤ List.length opn ∧
                                                              List.length opn - x' < List.length opn - x ∧
                                                                ofN x + 1 = ofN x' ∧
                                                                  List.set (rotK i at_ mask opn x) (Int.toNat (ofN x))
                                                                      ((List.getD (rotK i at_ mask opn x) (Int.toNat (ofN x)) (T.dflt (T.pair T.i64 (T.arr 512 T.u8)))).1,
                                                                        List.set (List.getD (rotK i at_ mask opn x) (Int.toNat (ofN x)) (T.dflt (T.pair T.i64 (T.arr 512 T.u8)))).2 (Int.toNat at_)
                                                                          (List.getD (List.getD (rotK i at_ mask opn x) (Int.toNat (ofN x)) (T.dflt (T.pair T.i64 (T.arr 512 T.u8)))).2 (Int.toNat at_)
                                                                              0#8 ^^^
                                                                            mask)) =
                                                                    rotK i at_ mask opn x') ∧
                                          (((List.getD (rotK i at_ mask opn x) (Int.toNat (ofN x)) (T.dflt (T.pair T.i64 (T.arr 512 T.u8)))).1 == i) = false →
                                            inI64 (ofN x + 1) ∧
                                              ∃ (x' : Nat), x' ≤ List.length opn ∧ List.length opn - x' < List.length opn - x ∧ ofN x + 1 = ofN x' ∧ rotK i at_ mask opn x = rotK i at_ mask opn x')) ∧
                                  (decide (ofN x < ofN (List.length opn)) = false →
                                    0 = rotE down (ofN (List.length fast)) i at_ ∧
                                      (down = down ∧ set = set ∧ left = left) ∧
                                        List.set fast (Int.toNat i)
                                              (List.set (List.getD fast (Int.toNat i) (T.dflt (T.arr 512 T.u8))) (Int.toNat at_)
                                                (List.getD (List.getD fast (Int.toNat i) (T.dflt (T.arr 512 T.u8))) (Int.toNat at_) 0#8 ^^^ mask)) =
                                            rotF (rotE down (ofN (List.length fast)) i at_) i at_ mask fast ∧
                                          rotK i at_ mask opn x = rotO (rotE down (ofN (List.length fast)) i at_) i at_ mask opn ∧ last = last))) := by
  have e : ∀ n : Nat, ((ofN n : Int)) = n := fun _ => rfl
  have len := fun k => rotK_len i at_ mask opn k
  rw [e]
  refine ⟨h, fun q => ?_, fun q => ⟨fun q2 => ?_, fun q2 => ?_⟩⟩
  · have hA : decide (atV down fast.length i = 0) = false := by simpa using q
    have hE : rotE down fast.length i at_ = atV down fast.length i := by unfold rotE; rw [hA]; rfl
    rw [hE]
    unfold rotF rotO
    rw [hA]
    exact ⟨rfl, ⟨rfl, rfl, rfl⟩, rfl, rfl, rfl⟩
  all_goals
    have q' : atV down fast.length i = 0 := by simpa using q
    have hA : decide (atV down fast.length i = 0) = true := by simpa using q
  · have hE : rotE down fast.length i at_ = 5 := by
      unfold rotE; rw [hA, cond_true]
      have : (decide (at_ < 0) || decide (at_ ≥ 512)) = true := q2
      rw [this]; rfl
    rw [hE]
    exact ⟨rfl, ⟨rfl, rfl, rfl⟩, rfl, rfl, rfl⟩
  · have hE : rotE down fast.length i at_ = 0 := by
      unfold rotE; rw [hA, cond_true]
      have : (decide (at_ < 0) || decide (at_ ≥ 512)) = false := q2
      rw [this]; rfl
    rw [hE]
    have hat : 0 ≤ at_ ∧ at_ < 512 := by simp at q2; omega
    have hi : 0 ≤ i ∧ i < (fast.length : Int) := by
      unfold atV at q'
      cases down
      · simp only [cond_false] at q'
        cases hb : (decide (i < 0) || decide ((fast.length : Int) ≤ i)) with
        | true => rw [hb] at q'; simp at q'
        | false => simp at hb; omega
      · simp at q'
    refine ⟨hi, hat, by omega, hi, hat, by omega, ⟨0, Nat.zero_le _, rfl, (rotK_zero i at_ mask opn).symm⟩, fun x hx => ⟨fun q3 => ?_, fun q3 => ?_⟩⟩
    · have hlt : x < opn.length := by simpa using q3
      have h64 : inI64 ((x : Int) + 1) := by unfold inI64; unfold maxLen at hm; omega
      have hlr : x < (rotK i at_ mask opn x).length := by rw [len]; exact hlt
      have hg : (rotK i at_ mask opn x).getD x (T.dflt (T.pair T.i64 (T.arr 512 T.u8))) = opn[x] := by
        rw [getD_at _ _ _ hlr]
        exact rotK_get i at_ mask opn hlt
      simp only [Int.toNat_natCast, hg]
      have hw : within (x : Int) (rotK i at_ mask opn x).length := ⟨by omega, by rw [len]; omega⟩
      refine ⟨hw, hlr, fun q4 => ⟨hw, hat, hlr, hw, hat, hlr, h64, x + 1, hlt, by omega, rfl, ?_⟩, fun q4 => ⟨h64, x + 1, hlt, by omega, rfl, ?_⟩⟩
      · rw [rotK_succ i at_ mask opn hlt]
        congr 1
        unfold rotOne flipB
        rw [q4]; rfl
      · rw [rotK_succ i at_ mask opn hlt]
        have : rotOne i at_ mask opn[x] = opn[x] := by unfold rotOne; rw [q4]; rfl
        rw [this, ← rotK_get i at_ mask opn hlt, List.set_getElem_self]
    · have : x = opn.length := by
        have : ¬ x < opn.length := by simpa using q3
        omega
      subst this
      exact ⟨rfl, ⟨rfl, rfl, rfl⟩, rfl, (by unfold rotK rotO; simp), rfl⟩

theorem disk_Fuse_vc (fast : List (List (BitVec 8))) (opn : List (Int × List (BitVec 8))) (last : List (Int × Int)) (down set : Bool) (left n : Int) (h : 0 < fast.length) :
    0 < List.length fast ∧
      ((askV down != 0) = true → askV down = askV down ∧ (down = down ∧ set = fuS down set n ∧ left = fuL down left n) ∧ fast = fast ∧ opn = opn ∧ last = last) ∧
        ((askV down != 0) = false → 0 = askV down ∧ (down = down ∧ decide (0 ≤ n) = fuS down set n ∧ max n 0 = fuL down left n) ∧ fast = fast ∧ opn = opn ∧ last = last) := by
  refine ⟨h, fun q => ?_, fun q => ?_⟩ <;> cases down <;> simp [askV] at q <;> exact ⟨rfl, ⟨rfl, rfl, rfl⟩, rfl, rfl, rfl⟩

theorem disk_Blocks_vc (fast : List (List (BitVec 8))) (opn : List (Int × List (BitVec 8))) (last : List (Int × Int)) (down set : Bool) (left : Int) (h : 0 < fast.length) :
    0 < List.length fast ∧
      (false = true → 0 = ofN (List.length fast) ∧ (down = down ∧ set = set ∧ left = left) ∧ fast = fast ∧ opn = opn ∧ last = last) ∧
        (false = false → ofN (List.length fast) = ofN (List.length fast) ∧ (down = down ∧ set = set ∧ left = left) ∧ fast = fast ∧ opn = opn ∧ last = last) := by
  exact ⟨h, (fun q => nomatch q), fun _ => ⟨rfl, ⟨rfl, rfl, rfl⟩, rfl, rfl, rfl⟩⟩

theorem disk_Open_vc (fast : List (List (BitVec 8))) (opn : List (Int × List (BitVec 8))) (last : List (Int × Int)) (down set : Bool) (left : Int) (h : 0 < fast.length) :
    0 < List.length fast ∧
      ((false || down) = true → 0 = opV down (ofN (List.length opn)) ∧ (down = down ∧ set = set ∧ left = left) ∧ fast = fast ∧ opn = opn ∧ last = last) ∧
        ((false || down) = false → ofN (List.length opn) = opV down (ofN (List.length opn)) ∧ (down = down ∧ set = set ∧ left = left) ∧ fast = fast ∧ opn = opn ∧ last = last) := by
  refine ⟨h, fun q => ?_, fun q => ?_⟩ <;> cases down <;> simp at q <;> exact ⟨rfl, ⟨rfl, rfl, rfl⟩, rfl, rfl, rfl⟩

theorem disk_Lose_spec : Vse.Spec P f_disk_Disk_Lose c_Lose := spec_gm (l := [(f_disk_Disk_asked, c_asked)]) ⟨disk_asked_spec, trivial⟩ h_disk_Disk_Lose rfl rfl fun s x h ok _ => by
  obtain ⟨fast, opn, last, down, set, left, _⟩ := s
  obtain ⟨keep, torn, at_, _⟩ := x
  obtain ⟨h1, h2, h3, h4⟩ := h
  simp only at h3
  subst h3
  exact bodyG_ok (an_Lose keep torn at_ fast opn) (disk_Lose_vc fast opn last set left keep torn at_ h1 h2 ok.2.2.1.1 h4) (by kernel_rfl)

theorem disk_Sync_spec : Vse.Spec P f_disk_Disk_Sync c_Sync := spec_gm (l := [(f_disk_Disk_asked, c_asked), (f_disk_Disk_power, c_power)]) ⟨disk_asked_spec, disk_power_spec, trivial⟩ h_disk_Disk_Sync rfl rfl fun s x h ok _ => by
  obtain ⟨fast, opn, last, down, set, left, _⟩ := s
  obtain ⟨h1, h2, h3⟩ := h
  exact bodyG_ok (an_Sy fast opn) (disk_Sync_vc fast opn last down set left h1 h2 ok.2.2.1.1 h3) (by kernel_rfl)

theorem disk_Rot_spec : Vse.Spec P f_disk_Disk_Rot c_Rot := spec_gm (l := [(f_disk_Disk_at, c_at)]) ⟨disk_at_spec, trivial⟩ h_disk_Disk_Rot rfl rfl fun s x h ok _ => by
  obtain ⟨fast, opn, last, down, set, left, _⟩ := s
  obtain ⟨i, at_, mask, _⟩ := x
  exact bodyG_ok (an_Rot i at_ mask opn) (disk_Rot_vc fast opn last down set left i at_ mask h ok.2.2.1.1 (fun x hx => (ok.2.1.2 x hx).1) (fun x hx => (ok.2.2.1.2 x hx).2.1)) (by kernel_rfl)

theorem disk_Fuse_spec : Vse.Spec P f_disk_Disk_Fuse c_Fuse := spec_gm (l := [(f_disk_Disk_asked, c_asked)]) ⟨disk_asked_spec, trivial⟩ h_disk_Disk_Fuse rfl rfl fun s x h ok _ => by
  obtain ⟨fast, opn, last, down, set, left, _⟩ := s
  obtain ⟨n, _⟩ := x
  exact bodyG_ok an_D (disk_Fuse_vc fast opn last down set left n h) (by kernel_rfl)

theorem disk_Blocks_spec : Vse.Spec P f_disk_Disk_Blocks c_Blocks := spec_gm (l := [(f_disk_Disk_made, c_made)]) ⟨disk_made_spec, trivial⟩ h_disk_Disk_Blocks rfl rfl fun s x h ok _ => by
  obtain ⟨fast, opn, last, down, set, left, _⟩ := s
  exact bodyG_ok an_D (disk_Blocks_vc fast opn last down set left h) (by kernel_rfl)

theorem disk_Open_spec : Vse.Spec P f_disk_Disk_Open c_Open := spec_gm (l := [(f_disk_Disk_made, c_made)]) ⟨disk_made_spec, trivial⟩ h_disk_Disk_Open rfl rfl fun s x h ok _ => by
  obtain ⟨fast, opn, last, down, set, left, _⟩ := s
  exact bodyG_ok an_D (disk_Open_vc fast opn last down set left h) (by kernel_rfl)

end Go.Sal
