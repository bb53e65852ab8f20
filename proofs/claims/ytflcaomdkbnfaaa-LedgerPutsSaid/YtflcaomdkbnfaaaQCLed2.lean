/- Contracts of ledger: File; the document's ledger. -/
import Derived.Test.YtflcaomdkbnfaaaQCLed
import Derived.Test.YtflcaomdkbnfaaaQSalChk3
set_option maxRecDepth 100000
namespace Go.Sal
open Go.Vse Go.Sal.Nm

abbrev T_Act : T := .pair .bool (.pair .i64 (.pair .i64 (.pair .i64 (.pair .str (.pair (.slc .u8) (.pair .i64 (.pair .i64 (.pair (.slc .bool) (.pair .i64 (.pair .i64 (.pair .i64 (.pair T_Dig (.pair .i64 (.pair .i64 (.pair .i64 (.pair T_Dig (.pair T_Dig (.pair (.slc .u8) (.pair .i64 T_Told)))))))))))))))))))
abbrev Act := T_Act.den
abbrev T_Brc : T := .pair .i64 (.pair .i64 .i64)
abbrev T_fsQ : List OF := [.row 72 T_Noted, .row 44 T_Mark, .dat .i64]
abbrev T_Q := ofds T_fsQ
def hitV (path : Bytes) (r : Rec) : Bool := r.2.2.2.2.2.1 == path && (r.2.2.2.1 == 2 || r.2.2.2.1 == 3)
def lastN (path : Bytes) (rs : List Rec) : Nat → Nat
  | 0 => 0
  | n + 1 => bif hitV path (rs.getD n T_Rec.dflt) then n + 1 else lastN path rs n
def noPut (path : Bytes) (rs : List Rec) : Bool := decide ((lastN path rs rs.length : Int) = 0) || !((rs.getD (lastN path rs rs.length - 1) T_Rec.dflt).2.2.2.1 == 2)
def headAtV (path : Bytes) (rs : List Rec) : HeadT := (walkV head0 (rs.take (lastN path rs rs.length)) 0).1
def walkE (path : Bytes) (rs : List Rec) : Int := (walkV head0 (rs.take (lastN path rs rs.length)) 0).2.2
def missV (path : Bytes) (w : Noted × Bool) : Bool := !w.2 || w.1.2.2.2.2.2.2.2 || !(w.1.2.2.2.2.2.1 == path)
def fileB (of_ : HeadT → Noted × Bool) (rs : List Rec) (path : Bytes) : Bool := !noPut path rs && walkE path rs == 0 && !missV path (of_ (headAtV path rs))
def fileV (of_ : HeadT → Noted × Bool) (rs : List Rec) (path : Bytes) : Bytes := bif fileB of_ rs path then (of_ (headAtV path rs)).1.2.2.2.2.2.2.1 else []
def c_Has : PC := D [.slc T_Rec, T_Head] [.bool] (fun _ => none) (fun x => (hasV x.1 x.2.1, ()))
def c_File : PC := gM T_fsL [.slc T_Rec, .str] fun d x => ⟨some (okW d.1 ∧ firstsOk d.1 d.2.1), .tup [.dv (.imm .u8 (fileV (ofV d.1 d.2.1) x.1 x.2.1)), .dv (.bool (fileB (ofV d.1 d.2.1) x.1 x.2.1))], oObj T_fsL 2 d⟩
def an_FileL (rs : List Rec) (path : Bytes) : Nat → SState → Option LoopAnn
  | 4, S => some { X := Nat, slots := fun n => [(8, .sv (.dv (.i64 (ofN n))))], objs := fun _ => [], inv := fun n => n ≤ rs.length ∧ lastN path rs n = lastN path rs rs.length, meas := fun n => n }
  | _, _ => none
def an_File (rs : List Rec) (path : Bytes) : Ann := { at_ := an_FileL rs path, pins := [1, 2, 3, 4], prune := 1 }
def an_Q1 : Ann := { at_ := fun _ _ => none, pins := [1, 2, 3], prune := 1 }
def an_Q0 : Ann := { at_ := fun _ _ => none, prune := 1, rows := [1044, 1050] }
def an_Q2 : Ann := { at_ := fun _ _ => none, prune := 1, rows := [1020] }
def c_qNote : PC := gM T_fsQ [.i64, T_Deed, T_Shown] fun d x => ⟨some (d.1.length ≤ 65536 ∧ x.2.1.2.2.2.1.length ≤ 65536), .sv (.dv (.i64 (laterE d.2.2.1 x.1))), oObj T_fsQ 12 (noteW d.1 d.2.2.1 x.1 x.2.1 x.2.2.1, d.2.1, laterA d.2.2.1 x.1, ())⟩
def c_qTell : PC := gM T_fsQ [T_Told] fun d x => ⟨some (d.2.1.length ≤ 65536), .sv (.dv (.i64 (laterE d.2.2.1 x.1.1))), oObj T_fsQ 12 (d.1, tellM d.2.1 d.2.2.1 x.1, laterA d.2.2.1 x.1.1, ())⟩
def c_qLast : PC := gM T_fsQ [] fun d _ => ⟨none, .tup [svOfT T_Mark (lastV d.2.1), .dv (.bool (!decide ((d.2.1.length : Int) = 0)))], oObj T_fsQ 2 d⟩
def an_qLastL (ms : List Mark) : Nat → SState → Option LoopAnn
  | 5, S => some { X := Nat, slots := fun k => [(5, .sv (.dv (.i64 (ofN k))))], objs := fun k => [(x_labAt S 4, .cells (ofRuns (enc T_Mark (bestK ms k))) false)], inv := fun k => 1 ≤ k ∧ k ≤ ms.length, meas := fun k => ms.length - k }
  | _, _ => none
def an_qLast (ms : List Mark) : Ann := { at_ := an_qLastL ms, pins := [1, 2, 3], prune := 1 }
def isH (h : HeadT) (w : Noted) : Bool := decide (headN w = h)
def rOfV (ws : List Noted) (h : HeadT) : Noted × Bool := match ws.find? (isH h) with
  | some w => (w, true)
  | none => (T_Noted.dflt, false)
def c_qOf : PC := gM T_fsQ [T_Head] fun d x => ⟨none, .tup [svOfT T_Noted (rOfV d.1 x.1).1, .dv (.bool (rOfV d.1 x.1).2)], oObj T_fsQ 2 d⟩
def an_qOfL (ws : List Noted) (h : HeadT) : Nat → SState → Option LoopAnn
  | 2, S => some { X := Nat, slots := fun k => [(6, .sv (.dv (.i64 (ofN k))))], objs := fun _ => [], inv := fun k => k ≤ ws.length ∧ ∀ j, j < k → isH h (ws.getD j T_Noted.dflt) = false, meas := fun k => ws.length - k }
  | _, _ => none
def an_qOf (ws : List Noted) (h : HeadT) : Ann := { at_ := an_qOfL ws h, pins := [1, 2, 3], prune := 1 }
def c_qFile : PC := gM T_fsQ [.slc T_Rec, .str] fun d x => ⟨none, .tup [.dv (.imm .u8 (fileV (rOfV d.1) x.1 x.2.1)), .dv (.bool (fileB (rOfV d.1) x.1 x.2.1))], oObj T_fsQ 2 d⟩
def an_qFileL (rs : List Rec) (path : Bytes) : Nat → SState → Option LoopAnn
  | 3, S => some { X := Nat, slots := fun k => [(9, .sv (.dv (.i64 (ofN k)))), (8, .sv (.dv (.i64 (ofN (lastN path rs k) - 1))))], objs := fun _ => [], inv := fun k => k ≤ rs.length, meas := fun k => rs.length - k }
  | _, _ => none
def an_qFile (rs : List Rec) (path : Bytes) : Ann := { at_ := an_qFileL rs path, pins := [1, 2, 3], prune := 1 }
def sameNV (a b : Noted) : Bool := haveI := T_Noted.deq; decide (a = b)
def sameBV (a b : List T_Brc.den) : Bool := haveI := (T.slc T_Brc).deq; decide (a = b)
def c_SameN : PC := D [T_Noted, T_Noted] [.bool] (fun _ => none) (fun x => (sameNV x.1 x.2.1, ()))
def c_SameB : PC := D [.slc T_Brc, .slc T_Brc] [.bool] (fun _ => none) (fun x => (sameBV x.1 x.2.1, ()))
def an_SameBL (a b : List T_Brc.den) : Nat → SState → Option LoopAnn
  | 4, S => some { X := Nat, slots := fun k => [(5, .sv (.dv (.i64 (ofN k))))], objs := fun _ => [], inv := fun k => k ≤ a.length ∧ a.take k = b.take k, meas := fun k => a.length - k }
  | _, _ => none
def an_SameB (a b : List T_Brc.den) : Ann := { at_ := an_SameBL a b, prune := 1 }
def c_few24 : PC := D [.slc T_Rec] [.slc T_Rec] (fun _ => none) (fun x => (fewT 30 x.1, ()))
def an_few24L (l : List Rec) : Nat → SState → Option LoopAnn
  | 3, S => some { X := Nat, slots := fun i => [(3, .sv (.own 10 T_Rec (l.take i))), (4, .sv (.dv (.i64 i)))], objs := fun _ => [(x_tok S 3, .gone), (10, .tok 81 38)], inv := fun i => i ≤ l.length ∧ i ≤ 30 ∧ l.take i ++ fewT (30 - i) (l.drop i) = fewT 30 l, meas := fun i => 30 - i }
  | _, _ => none
def an_few24 (l : List Rec) : Ann := { at_ := an_few24L l, prune := 0 }
def smallV (a : Act) : Bool := decide ((a.2.2.2.2.2.1.length : Int) ≤ 2000) && decide ((a.2.2.2.2.1.length : Int) ≤ 300)
def c_small : PC := D [T_Act] [.bool] (fun _ => none) (fun x => (smallV x.1, ()))

theorem check_Has_vc (l : List Rec) (h : HeadT) :
    ((decide (h.1 < 0) || decide (ofN (List.length l) < h.1)) = true → false = hasV l h) ∧
      ((decide (h.1 < 0) || decide (ofN (List.length l) < h.1)) = false →
      (0 ≤ h.1 ∧ h.1 ≤ ofN (List.length l)) ∧
      ((walkV (0, 0, List.replicate 32 0#8) (List.drop 0 (List.take (Int.toNat h.1) l)) 0).2.2 == 0 &&
      ((walkV (0, 0, List.replicate 32 0#8) (List.drop 0 (List.take (Int.toNat h.1) l)) 0).1.1 == h.1 &&
      ((walkV (0, 0, List.replicate 32 0#8) (List.drop 0 (List.take (Int.toNat h.1) l)) 0).1.2.1 == h.2.1 &&
      eqL T.u8 (walkV (0, 0, List.replicate 32 0#8) (List.drop 0 (List.take (Int.toNat h.1) l)) 0).1.2.2 h.2.2))) =
      hasV l h) := by
  have e0 : ((0, 0, List.replicate 32 0#8) : HeadT) = head0 := rfl
  rw [e0, List.drop_zero, eqL_u8]
  unfold hasV
  refine ⟨fun g => ?_, fun g => ?_⟩
  · simp only [Bool.or_eq_true, decide_eq_true_eq, ofN] at g
    have aux : ∀ x y : Int, (x < 0 ∨ y < x) → ¬ (0 ≤ x ∧ x ≤ y) := by intro x y; omega
    rw [if_neg (aux _ _ g)]
  · simp only [Bool.or_eq_false_iff, decide_eq_false_iff_not, ofN] at g
    have aux : ∀ x y : Int, (¬ x < 0 ∧ ¬ y < x) → (0 ≤ x ∧ x ≤ y) := by intro x y; omega
    have g := aux _ _ g
    rw [if_pos g]
    refine ⟨g, ?_⟩
    rw [Bool.eq_iff_iff]
    simp only [Bool.and_eq_true, beq_iff_eq, decide_eq_true_eq, Prod.ext_iff]

theorem ref16_Has_vc (l : List Rec) (h : HeadT) :
    ((decide (h.1 < 0) || decide (ofN (List.length l) < h.1)) = true → false = hasV l h) ∧
      ((decide (h.1 < 0) || decide (ofN (List.length l) < h.1)) = false →
      (0 ≤ h.1 ∧ h.1 ≤ ofN (List.length l)) ∧
      ((walkV (0, 0, List.replicate 32 0#8) (List.drop 0 (List.take (Int.toNat h.1) l)) 0).2.2 == 0 &&
      ((walkV (0, 0, List.replicate 32 0#8) (List.drop 0 (List.take (Int.toNat h.1) l)) 0).1.1 == h.1 &&
      ((walkV (0, 0, List.replicate 32 0#8) (List.drop 0 (List.take (Int.toNat h.1) l)) 0).1.2.1 == h.2.1 &&
      eqL T.u8 (walkV (0, 0, List.replicate 32 0#8) (List.drop 0 (List.take (Int.toNat h.1) l)) 0).1.2.2 h.2.2))) =
      hasV l h) := by
  have e0 : ((0, 0, List.replicate 32 0#8) : HeadT) = head0 := rfl
  rw [e0, List.drop_zero, eqL_u8]
  unfold hasV
  refine ⟨fun g => ?_, fun g => ?_⟩
  · simp only [Bool.or_eq_true, decide_eq_true_eq, ofN] at g
    have aux : ∀ x y : Int, (x < 0 ∨ y < x) → ¬ (0 ≤ x ∧ x ≤ y) := by intro x y; omega
    rw [if_neg (aux _ _ g)]
  · simp only [Bool.or_eq_false_iff, decide_eq_false_iff_not, ofN] at g
    have aux : ∀ x y : Int, (¬ x < 0 ∧ ¬ y < x) → (0 ≤ x ∧ x ≤ y) := by intro x y; omega
    have g := aux _ _ g
    rw [if_pos g]
    refine ⟨g, ?_⟩
    rw [Bool.eq_iff_iff]
    simp only [Bool.and_eq_true, beq_iff_eq, decide_eq_true_eq, Prod.ext_iff]

theorem hit_ne (path : Bytes) (r : Rec) : (r.2.2.2.2.2.1 != path || r.2.2.2.1 != 2 && r.2.2.2.1 != 3) = !hitV path r := by
  unfold hitV
  simp only [bne]
  cases (r.2.2.2.2.2.1 == path) <;> cases (r.2.2.2.1 == (2 : Int)) <;> cases (r.2.2.2.1 == (3 : Int)) <;> rfl
theorem lastN_le (path : Bytes) (rs : List Rec) : ∀ n, lastN path rs n ≤ n
  | 0 => Nat.le_refl _
  | n + 1 => by
    unfold lastN
    cases hitV path (rs.getD n T_Rec.dflt) with
    | true => exact Nat.le_refl _
    | false => exact Nat.le_succ_of_le (lastN_le path rs n)
theorem lastN_hit {path : Bytes} {rs : List Rec} {n : Nat} (h : hitV path (rs.getD n T_Rec.dflt) = true) : lastN path rs (n + 1) = n + 1 := by unfold lastN; rw [h]; rfl
theorem lastN_no {path : Bytes} {rs : List Rec} {n : Nat} (h : hitV path (rs.getD n T_Rec.dflt) = false) : lastN path rs (n + 1) = lastN path rs n := by rw [lastN, h]; rfl
theorem file_no {of_ : HeadT → Noted × Bool} {rs : List Rec} {path : Bytes} (h : noPut path rs = true) : [] = fileV of_ rs path ∧ false = fileB of_ rs path := by
  have hb : fileB of_ rs path = false := by unfold fileB; rw [h]; rfl
  exact ⟨by unfold fileV; rw [hb]; rfl, hb.symm⟩
theorem file_walk {of_ : HeadT → Noted × Bool} {rs : List Rec} {path : Bytes} (h : (walkE path rs != 0) = true) : [] = fileV of_ rs path ∧ false = fileB of_ rs path := by
  have hb : fileB of_ rs path = false := by
    unfold fileB
    have : (walkE path rs == 0) = false := by simpa [bne] using h
    rw [this, Bool.and_false, Bool.false_and]
  exact ⟨by unfold fileV; rw [hb]; rfl, hb.symm⟩
theorem file_miss {of_ : HeadT → Noted × Bool} {rs : List Rec} {path : Bytes} (h : missV path (of_ (headAtV path rs)) = true) : [] = fileV of_ rs path ∧ false = fileB of_ rs path := by
  have hb : fileB of_ rs path = false := by
    unfold fileB
    rw [h]; simp
  exact ⟨by unfold fileV; rw [hb]; rfl, hb.symm⟩
theorem file_ok {of_ : HeadT → Noted × Bool} {rs : List Rec} {path : Bytes} (h : noPut path rs = false) (h2 : (walkE path rs != 0) = false) (h3 : missV path (of_ (headAtV path rs)) = false) : (of_ (headAtV path rs)).1.2.2.2.2.2.2.1 = fileV of_ rs path ∧ true = fileB of_ rs path := by
  have hb : fileB of_ rs path = true := by
    unfold fileB
    have : (walkE path rs == 0) = true := by simpa [bne] using h2
    rw [this, h, h3]; rfl
  exact ⟨by unfold fileV; rw [hb]; rfl, hb.symm⟩
theorem miss_eq (path : Bytes) (w : Noted × Bool) : (!w.2 || w.1.2.2.2.2.2.2.2 || w.1.2.2.2.2.2.1 != path) = missV path w := by
  unfold missV; simp only [bne]
theorem toNat_pred (x : Nat) : Int.toNat (ofN x - 1) = x - 1 := by show Int.toNat ((x : Int) - 1) = x - 1; omega

theorem ledger_File_vc (ws : List Noted) (first : Firsts) (ms : List Mark) (at_ : Int) (rs : List Rec) (path : Bytes) (hw : okW ws) (hf : firstsOk ws first) (hr : rs.length ≤ LIM) :
    (false = true → (nilOf (BitVec 8) = fileV (ofV ws first) rs path ∧ false = fileB (ofV ws first) rs path) ∧ at_ = at_ ∧ ws = ws ∧ first = first ∧ ms = ms) ∧
      (false = false →
      (∃ (x : Nat), (x ≤ List.length rs ∧ lastN path rs x = lastN path rs (List.length rs)) ∧ ofN (List.length rs) = ofN x) ∧
      ∀ (x : Nat),
      x ≤ List.length rs ∧ lastN path rs x = lastN path rs (List.length rs) →
      (decide (0 < ofN x) = true → inI64 (ofN x - 1)) ∧
      (decide (0 < ofN x) = true → within (ofN x - 1) (List.length rs)) ∧
      (decide (0 < ofN x) = true →
      ((List.getD rs (Int.toNat (ofN x - 1))
      (T.dflt
      T_Rec)).2.2.2.2.2.1 !=
      path) =
      false →
      inI64 (ofN x - 1)) ∧
      (decide (0 < ofN x) = true →
      ((List.getD rs (Int.toNat (ofN x - 1))
      (T.dflt
      T_Rec)).2.2.2.2.2.1 !=
      path) =
      false →
      within (ofN x - 1) (List.length rs)) ∧
      (decide (0 < ofN x) = true →
      ((List.getD rs (Int.toNat (ofN x - 1))
      (T.dflt
      T_Rec)).2.2.2.2.2.1 !=
      path) =
      false →
      ((List.getD rs (Int.toNat (ofN x - 1))
      (T.dflt T_Rec)).2.2.2.1 !=
      2) =
      true →
      inI64 (ofN x - 1)) ∧
      (decide (0 < ofN x) = true →
      ((List.getD rs (Int.toNat (ofN x - 1))
      (T.dflt
      T_Rec)).2.2.2.2.2.1 !=
      path) =
      false →
      ((List.getD rs (Int.toNat (ofN x - 1))
      (T.dflt
      T_Rec)).2.2.2.1 !=
      2) =
      true →
      within (ofN x - 1) (List.length rs)) ∧
      ((decide (0 < ofN x) &&
      ((List.getD rs (Int.toNat (ofN x - 1))
      (T.dflt
      T_Rec)).2.2.2.2.2.1 !=
      path ||
      (List.getD rs (Int.toNat (ofN x - 1))
      (T.dflt
      T_Rec)).2.2.2.1 !=
      2 &&
      (List.getD rs (Int.toNat (ofN x - 1))
      (T.dflt
      T_Rec)).2.2.2.1 !=
      3)) =
      true →
      inI64 (ofN x - 1) ∧ ∃ (x' : Nat), (x' ≤ List.length rs ∧ lastN path rs x' = lastN path rs (List.length rs)) ∧ x' < x ∧ ofN x - 1 = ofN x') ∧
      ((decide (0 < ofN x) &&
      ((List.getD rs (Int.toNat (ofN x - 1))
      (T.dflt
      T_Rec)).2.2.2.2.2.1 !=
      path ||
      (List.getD rs (Int.toNat (ofN x - 1))
      (T.dflt
      T_Rec)).2.2.2.1 !=
      2 &&
      (List.getD rs (Int.toNat (ofN x - 1))
      (T.dflt
      T_Rec)).2.2.2.1 !=
      3)) =
      false →
      ((ofN x == 0) = false → inI64 (ofN x - 1)) ∧
      ((ofN x == 0) = false → within (ofN x - 1) (List.length rs)) ∧
      ((ofN x == 0 ||
      (List.getD rs (Int.toNat (ofN x - 1))
      (T.dflt
      T_Rec)).2.2.2.1 !=
      2) =
      true →
      (nilOf (BitVec 8) = fileV (ofV ws first) rs path ∧ false = fileB (ofV ws first) rs path) ∧ at_ = at_ ∧ ws = ws ∧ first = first ∧ ms = ms) ∧
      ((ofN x == 0 ||
      (List.getD rs (Int.toNat (ofN x - 1))
      (T.dflt
      T_Rec)).2.2.2.1 !=
      2) =
      false →
      (0 ≤ ofN x ∧ ofN x ≤ ofN (List.length rs)) ∧
      (((walkV (0, 0, List.replicate 32 0#8) (List.drop 0 (List.take (Int.toNat (ofN x)) rs)) 0).2.2 != 0) = true →
      (nilOf (BitVec 8) = fileV (ofV ws first) rs path ∧ false = fileB (ofV ws first) rs path) ∧ at_ = at_ ∧ ws = ws ∧ first = first ∧ ms = ms) ∧
      (((walkV (0, 0, List.replicate 32 0#8) (List.drop 0 (List.take (Int.toNat (ofN x)) rs)) 0).2.2 != 0) = false →
      (okW ws ∧ firstsOk ws first) ∧
      ((!(ofV ws first (walkV (0, 0, List.replicate 32 0#8) (List.drop 0 (List.take (Int.toNat (ofN x)) rs)) 0).1).2 ||
      (ofV ws first (walkV (0, 0, List.replicate 32 0#8) (List.drop 0 (List.take (Int.toNat (ofN x)) rs)) 0).1).1.2.2.2.2.2.2.2 ||
      (ofV ws first (walkV (0, 0, List.replicate 32 0#8) (List.drop 0 (List.take (Int.toNat (ofN x)) rs)) 0).1).1.2.2.2.2.2.1 != path) =
      true →
      (nilOf (BitVec 8) = fileV (ofV ws first) rs path ∧ false = fileB (ofV ws first) rs path) ∧ at_ = at_ ∧ ws = ws ∧ first = first ∧ ms = ms) ∧
      ((!(ofV ws first (walkV (0, 0, List.replicate 32 0#8) (List.drop 0 (List.take (Int.toNat (ofN x)) rs)) 0).1).2 ||
      (ofV ws first (walkV (0, 0, List.replicate 32 0#8) (List.drop 0 (List.take (Int.toNat (ofN x)) rs)) 0).1).1.2.2.2.2.2.2.2 ||
      (ofV ws first (walkV (0, 0, List.replicate 32 0#8) (List.drop 0 (List.take (Int.toNat (ofN x)) rs)) 0).1).1.2.2.2.2.2.1 != path) =
      false →
      ((ofV ws first (walkV (0, 0, List.replicate 32 0#8) (List.drop 0 (List.take (Int.toNat (ofN x)) rs)) 0).1).1.2.2.2.2.2.2.1 =
      fileV (ofV ws first) rs path ∧
      true = fileB (ofV ws first) rs path) ∧
      at_ = at_ ∧ ws = ws ∧ first = first ∧ ms = ms))))) := by
  have e0 : ((0, 0, List.replicate 32 0#8) : HeadT) = head0 := rfl
  rw [e0]
  refine ⟨(fun q => nomatch q), fun _ => ⟨⟨rs.length, ⟨Nat.le_refl _, rfl⟩, rfl⟩, fun x h => ?_⟩⟩
  obtain ⟨h1, h2⟩ := h
  have hl : rs.length ≤ 9223372036854775807 := hr
  have a1 : decide (0 < ofN x) = true → inI64 (ofN x - 1) := fun _ => by show inI64 ((x : Int) - 1); unfold inI64; omega
  have a2 : decide (0 < ofN x) = true → within (ofN x - 1) rs.length := fun q => by have q : (0 : Int) < (x : Int) := of_decide_eq_true q; show within ((x : Int) - 1) rs.length; unfold within; omega
  have a3 : (ofN x == 0) = false → decide (0 < ofN x) = true := fun q => by
    have q : ¬ (x : Int) = 0 := by simpa using q
    exact decide_eq_true (by show (0 : Int) < (x : Int); omega)
  rw [hit_ne, toNat_pred, List.drop_zero, show Int.toNat (ofN x) = x from rfl, miss_eq]
  refine ⟨a1, a2, fun q _ => a1 q, fun q _ => a2 q, fun q _ _ => a1 q, fun q _ _ => a2 q, fun q => ?_, fun q => ?_⟩
  · simp only [Bool.and_eq_true, Bool.not_eq_true'] at q
    obtain ⟨q1, q2⟩ := q
    refine ⟨a1 q1, x - 1, ⟨by omega, ?_⟩, ?_, ?_⟩
    · obtain ⟨k, rfl⟩ : ∃ k, x = k + 1 := ⟨x - 1, by have q : (0 : Int) < (x : Int) := of_decide_eq_true q1; omega⟩
      rw [Nat.add_sub_cancel] at q2 ⊢
      rw [← h2, lastN_no q2]
    · have q : (0 : Int) < (x : Int) := of_decide_eq_true q1; omega
    · have q : (0 : Int) < (x : Int) := of_decide_eq_true q1
      show (x : Int) - 1 = ((x - 1 : Nat) : Int); omega
  · have hx : lastN path rs rs.length = x := by
      rw [← h2]
      cases x with
      | zero => rfl
      | succ k =>
        rw [Nat.add_sub_cancel] at q
        have : decide (0 < ofN (k + 1)) = true := decide_eq_true (by show (0 : Int) < ((k + 1 : Nat) : Int); omega)
        rw [this, Bool.true_and] at q
        exact lastN_hit (by simpa using q)
    have hno : noPut path rs = (ofN x == 0 || (rs.getD (x - 1) T_Rec.dflt).2.2.2.1 != 2) := by unfold noPut; rw [hx]; rfl
    have hh : headAtV path rs = (walkV head0 (rs.take x) 0).1 := by unfold headAtV; rw [hx]
    have hE : walkE path rs = (walkV head0 (rs.take x) 0).2.2 := by unfold walkE; rw [hx]
    rw [← hno, ← hh, ← hE]
    exact ⟨fun q2 => a1 (a3 q2), fun q2 => a2 (a3 q2), fun q2 => ⟨file_no q2, rfl, rfl, rfl, rfl⟩, fun q2 => ⟨⟨by show (0 : Int) ≤ (x : Int); omega, by show (x : Int) ≤ (rs.length : Int); omega⟩, fun q3 => ⟨file_walk q3, rfl, rfl, rfl, rfl⟩, fun q3 => ⟨⟨hw, hf⟩, fun q4 => ⟨file_miss q4, rfl, rfl, rfl, rfl⟩, fun q4 => ⟨file_ok q2 q3 q4, rfl, rfl, rfl, rfl⟩⟩⟩⟩

theorem notFalse {b : Bool} (h : b = false) : ¬ b = true := by rw [h]; decide

theorem ref24_Note_vc (ws : List Noted) (ms : List Mark) (at_ x : Int) (d : Deed) (s : Shown) (hw : ws.length ≤ 65536) (hb : d.2.2.2.1.length ≤ 65536) :
    (decide (x < at_) = true → 240 = laterE at_ x ∧ at_ = laterA at_ x ∧ ws = noteW ws at_ x d s ∧ ms = ms) ∧
      (decide (x < at_) = false →
      ((s.1 == 0 && (d.1 == 1 || d.1 == 2)) = true →
      ((!d.1 == 2) = true →
      List.length (nilOf (BitVec 8)) + List.length d.2.2.2.1 ≤ ROOM ∧
      List.length (nilOf (Int × Int × Int × Int × List (BitVec 8) × List (BitVec 8) × List (BitVec 8) × Bool)) + List.length ws ≤ ROOM ∧
      List.length (nilOf (Int × Int × Int × Int × List (BitVec 8) × List (BitVec 8) × List (BitVec 8) × Bool) ++ ws) +
      List.length [(x, d.2.1, s.2.1, s.2.2.1, s.2.2.2.1, d.2.2.1, nilOf (BitVec 8) ++ d.2.2.2.1, d.1 == 2)] ≤
      ROOM ∧
      0 = laterE at_ x ∧
      x = laterA at_ x ∧
      nilOf (Int × Int × Int × Int × List (BitVec 8) × List (BitVec 8) × List (BitVec 8) × Bool) ++ ws ++
      [(x, d.2.1, s.2.1, s.2.2.1, s.2.2.2.1, d.2.2.1, nilOf (BitVec 8) ++ d.2.2.2.1, d.1 == 2)] =
      noteW ws at_ x d s ∧
      ms = ms) ∧
      ((!d.1 == 2) = false →
      List.length (nilOf (Int × Int × Int × Int × List (BitVec 8) × List (BitVec 8) × List (BitVec 8) × Bool)) + List.length ws ≤ ROOM ∧
      List.length (nilOf (Int × Int × Int × Int × List (BitVec 8) × List (BitVec 8) × List (BitVec 8) × Bool) ++ ws) +
      List.length [(x, d.2.1, s.2.1, s.2.2.1, s.2.2.2.1, d.2.2.1, nilOf (BitVec 8), d.1 == 2)] ≤
      ROOM ∧
      0 = laterE at_ x ∧
      x = laterA at_ x ∧
      nilOf (Int × Int × Int × Int × List (BitVec 8) × List (BitVec 8) × List (BitVec 8) × Bool) ++ ws ++ [(x, d.2.1, s.2.1, s.2.2.1, s.2.2.2.1, d.2.2.1, nilOf (BitVec 8), d.1 == 2)] =
      noteW ws at_ x d s ∧
      ms = ms)) ∧
      ((s.1 == 0 && (d.1 == 1 || d.1 == 2)) = false → 0 = laterE at_ x ∧ x = laterA at_ x ∧ ws = noteW ws at_ x d s ∧ ms = ms)) := by
  have hd : (s.1 == 0 && (d.1 == 1 || d.1 == 2)) = doesV d s := rfl
  rw [hd]
  refine ⟨fun q => ?_, fun q => ⟨fun q2 => ⟨fun q3 => ?_, fun q3 => ?_⟩, fun q2 => ?_⟩⟩
  · have hp : putsV at_ x d s = false := by unfold putsV; rw [q]; rfl
    refine ⟨?_, ?_, ?_, rfl⟩
    · unfold laterE; rw [q]; rfl
    · unfold laterA; rw [q]; rfl
    · unfold noteW; rw [hp]; rfl
  · have hp : putsV at_ x d s = true := by unfold putsV; rw [q, q2]; rfl
    have hN : notedV x d s = (x, d.2.1, s.2.1, s.2.2.1, s.2.2.2.1, d.2.2.1, [] ++ d.2.2.2.1, d.1 == 2) := by
      unfold notedV
      have : (d.1 == (2 : Int)) = false := by simpa using q3
      rw [this]; rfl
    refine ⟨?_, ?_, ?_, ?_, ?_, ?_, rfl⟩
    · show 0 + d.2.2.2.1.length ≤ ROOM; unfold ROOM; omega
    · show 0 + ws.length ≤ ROOM; unfold ROOM; omega
    · show ws.length + 1 ≤ ROOM; unfold ROOM; omega
    · unfold laterE; rw [q]; rfl
    · unfold laterA; rw [q]; rfl
    · unfold noteW; rw [hp, hN]; rfl
  · have hp : putsV at_ x d s = true := by unfold putsV; rw [q, q2]; rfl
    have hN : notedV x d s = (x, d.2.1, s.2.1, s.2.2.1, s.2.2.2.1, d.2.2.1, [], d.1 == 2) := by
      unfold notedV
      have : (d.1 == (2 : Int)) = true := by simpa using q3
      rw [this]; rfl
    refine ⟨?_, ?_, ?_, ?_, ?_, rfl⟩
    · show 0 + ws.length ≤ ROOM; unfold ROOM; omega
    · show ws.length + 1 ≤ ROOM; unfold ROOM; omega
    · unfold laterE; rw [q]; rfl
    · unfold laterA; rw [q]; rfl
    · unfold noteW; rw [hp, hN]; rfl
  · have hp : putsV at_ x d s = false := by unfold putsV; rw [q2, Bool.and_false]
    refine ⟨?_, ?_, ?_, rfl⟩
    · unfold laterE; rw [q]; rfl
    · unfold laterA; rw [q]; rfl
    · unfold noteW; rw [hp]; rfl

theorem ref24_Tell_vc (ws : List Noted) (ms : List Mark) (at_ : Int) (t : Told) (hw : ms.length ≤ 65536) :
    (decide (t.1 < at_) = true → 240 = laterE at_ t.1 ∧ at_ = laterA at_ t.1 ∧ ws = ws ∧ ms = tellM ms at_ t) ∧
      (decide (t.1 < at_) = false →
      ((t.2.2.1 == 1) = true →
      List.length (nilOf (Int × Int × Int × List (BitVec 8) × List (BitVec 8))) + List.length ms ≤ ROOM ∧
      List.length (nilOf (Int × Int × Int × List (BitVec 8) × List (BitVec 8)) ++ ms) + List.length [t.2.2.2] ≤ ROOM ∧
      0 = laterE at_ t.1 ∧ t.1 = laterA at_ t.1 ∧ ws = ws ∧ nilOf (Int × Int × Int × List (BitVec 8) × List (BitVec 8)) ++ ms ++ [t.2.2.2] = tellM ms at_ t) ∧
      ((t.2.2.1 == 1) = false → 0 = laterE at_ t.1 ∧ t.1 = laterA at_ t.1 ∧ ws = ws ∧ ms = tellM ms at_ t)) := by
  unfold tellM laterE laterA
  refine ⟨fun q => ?_, fun q => ⟨fun q2 => ?_, fun q2 => ?_⟩⟩
  · rw [q]; exact ⟨rfl, rfl, rfl, rfl⟩
  · rw [q, q2]; exact ⟨by show 0 + ms.length ≤ ROOM; unfold ROOM; omega, by show ms.length + 1 ≤ ROOM; unfold ROOM; omega, rfl, rfl, rfl, rfl⟩
  · rw [q, q2]; exact ⟨rfl, rfl, rfl, rfl⟩

theorem ref24_Last_vc (ws : List Noted) (ms : List Mark) (at_ : Int) (h : ms.length ≤ LIM) :
    ((ofN (List.length ms) == 0) = true →
      ((0 = (lastV ms).1 ∧ 0 = (lastV ms).2.1 ∧ 0 = (lastV ms).2.2.1 ∧ List.replicate 32 0#8 = (lastV ms).2.2.2.1 ∧ List.replicate 32 0#8 = (lastV ms).2.2.2.2) ∧
      false = !decide (ofN (List.length ms) = 0)) ∧
      at_ = at_ ∧ ws = ws ∧ ms = ms) ∧
      ((ofN (List.length ms) == 0) = false →
      within 0 (List.length ms) ∧
      Int.toNat 0 < List.length ms ∧
      (∃ (x : Nat),
      (1 ≤ x ∧ x ≤ List.length ms) ∧
      1 = ofN x ∧
      (List.getD ms (Int.toNat 0) (T.dflt T_Mark)).1 = (bestK ms x).1 ∧
      (List.getD ms (Int.toNat 0) (T.dflt T_Mark)).2.1 = (bestK ms x).2.1 ∧
      (List.getD ms (Int.toNat 0) (T.dflt T_Mark)).2.2.1 = (bestK ms x).2.2.1 ∧
      (List.getD ms (Int.toNat 0) (T.dflt T_Mark)).2.2.2.1 = (bestK ms x).2.2.2.1 ∧
      (List.getD ms (Int.toNat 0) (T.dflt T_Mark)).2.2.2.2 = (bestK ms x).2.2.2.2) ∧
      ∀ (x : Nat),
      1 ≤ x ∧ x ≤ List.length ms →
      (decide (ofN x < ofN (List.length ms)) = true →
      within (ofN x) (List.length ms) ∧
      Int.toNat (ofN x) < List.length ms ∧
      (decide ((bestK ms x).2.1 < (List.getD ms (Int.toNat (ofN x)) (T.dflt T_Mark)).2.1) = true →
      within (ofN x) (List.length ms) ∧
      Int.toNat (ofN x) < List.length ms ∧
      inI64 (ofN x + 1) ∧
      ∃ (x' : Nat),
      (1 ≤ x' ∧ x' ≤ List.length ms) ∧
      List.length ms - x' < List.length ms - x ∧
      ofN x + 1 = ofN x' ∧
      (List.getD ms (Int.toNat (ofN x)) (T.dflt T_Mark)).1 = (bestK ms x').1 ∧
      (List.getD ms (Int.toNat (ofN x)) (T.dflt T_Mark)).2.1 = (bestK ms x').2.1 ∧
      (List.getD ms (Int.toNat (ofN x)) (T.dflt T_Mark)).2.2.1 =
      (bestK ms x').2.2.1 ∧
      (List.getD ms (Int.toNat (ofN x)) (T.dflt T_Mark)).2.2.2.1 =
      (bestK ms x').2.2.2.1 ∧
      (List.getD ms (Int.toNat (ofN x)) (T.dflt T_Mark)).2.2.2.2 =
      (bestK ms x').2.2.2.2) ∧
      (decide ((bestK ms x).2.1 < (List.getD ms (Int.toNat (ofN x)) (T.dflt T_Mark)).2.1) = false →
      inI64 (ofN x + 1) ∧
      ∃ (x' : Nat),
      (1 ≤ x' ∧ x' ≤ List.length ms) ∧
      List.length ms - x' < List.length ms - x ∧
      ofN x + 1 = ofN x' ∧
      (bestK ms x).1 = (bestK ms x').1 ∧
      (bestK ms x).2.1 = (bestK ms x').2.1 ∧
      (bestK ms x).2.2.1 = (bestK ms x').2.2.1 ∧ (bestK ms x).2.2.2.1 = (bestK ms x').2.2.2.1 ∧ (bestK ms x).2.2.2.2 = (bestK ms x').2.2.2.2)) ∧
      (decide (ofN x < ofN (List.length ms)) = false →
      (((bestK ms x).1 = (lastV ms).1 ∧
      (bestK ms x).2.1 = (lastV ms).2.1 ∧ (bestK ms x).2.2.1 = (lastV ms).2.2.1 ∧ (bestK ms x).2.2.2.1 = (lastV ms).2.2.2.1 ∧ (bestK ms x).2.2.2.2 = (lastV ms).2.2.2.2) ∧
      true = !decide (ofN (List.length ms) = 0)) ∧
      at_ = at_ ∧ ws = ws ∧ ms = ms)) := by
  have e : (ofN ms.length == 0) = decide ((ms.length : Int) = 0) := rfl
  rw [e]
  refine ⟨fun q => ?_, fun q => ?_⟩
  · have hl : lastV ms = T_Mark.dflt := by unfold lastV; rw [q]; rfl
    rw [hl, show decide (ofN ms.length = 0) = true from q]
    exact ⟨⟨⟨rfl, rfl, rfl, rfl, rfl⟩, rfl⟩, rfl, rfl, rfl⟩
  · have hp : 0 < ms.length := by have := of_decide_eq_false q; omega
    have hl : lastV ms = bestK ms ms.length := by unfold lastV; rw [q]; rfl
    have h1 : bestK ms 1 = ms.getD 0 T_Mark.dflt := by
      show (bif decide ((ms.getD 0 T_Mark.dflt).2.1 > (ms.getD 0 T_Mark.dflt).2.1) then _ else _) = _
      cases decide ((ms.getD 0 T_Mark.dflt).2.1 > (ms.getD 0 T_Mark.dflt).2.1) <;> rfl
    rw [hl, show decide (ofN ms.length = 0) = false from q]
    refine ⟨⟨by decide, by show (0 : Int) < (ms.length : Int); omega⟩, hp, ⟨1, ⟨Nat.le_refl _, hp⟩, rfl, ?_⟩, fun x hx => ⟨fun q => ?_, fun q => ?_⟩⟩
    · rw [h1]; exact ⟨rfl, rfl, rfl, rfl, rfl⟩
    · have hlt : x < ms.length := by have h1 : (x : Int) < (ms.length : Int) := of_decide_eq_true q; omega
      have hs : bestK ms (x + 1) = bif decide ((ms.getD x T_Mark.dflt).2.1 > (bestK ms x).2.1) then ms.getD x T_Mark.dflt else bestK ms x := rfl
      have w1 : within (ofN x) ms.length := ⟨by show (0 : Int) ≤ (x : Int); omega, by show (x : Int) < (ms.length : Int); omega⟩
      have w2 : inI64 (ofN x + 1) := by show inI64 ((x : Int) + 1); unfold inI64; unfold LIM at h; omega
      refine ⟨w1, hlt, fun q2 => ⟨w1, hlt, w2, x + 1, ⟨by omega, hlt⟩, by omega, rfl, ?_⟩, fun q2 => ⟨w2, x + 1, ⟨by omega, hlt⟩, by omega, rfl, ?_⟩⟩
      · have q3 : decide ((ms.getD x T_Mark.dflt).2.1 > (bestK ms x).2.1) = true := q2
        rw [hs, q3]; exact ⟨rfl, rfl, rfl, rfl, rfl⟩
      · have q3 : decide ((ms.getD x T_Mark.dflt).2.1 > (bestK ms x).2.1) = false := q2
        rw [hs, q3]; exact ⟨rfl, rfl, rfl, rfl, rfl⟩
    · have hx2 : x = ms.length := by have h1 : ¬ (x : Int) < (ms.length : Int) := of_decide_eq_false q; have := hx.2; omega
      subst hx2
      exact ⟨⟨⟨rfl, rfl, rfl, rfl, rfl⟩, rfl⟩, rfl, rfl, rfl⟩

theorem isH_eq (h : HeadT) (w : Noted) : (w.2.2.1 == h.1 && (w.2.2.2.1 == h.2.1 && eqL T.u8 w.2.2.2.2.1 h.2.2)) = isH h w := by
  rw [eqL_u8, Bool.eq_iff_iff]
  unfold isH headN
  simp only [Bool.and_eq_true, beq_iff_eq, decide_eq_true_eq, Prod.ext_iff]
theorem find_at {α : Type} (p : α → Bool) (d : α) : ∀ (l : List α) (x : Nat), x < l.length → (∀ j, j < x → p (l.getD j d) = false) → p (l.getD x d) = true → l.find? p = some (l.getD x d)
  | [], x, h, _, _ => by simp at h
  | a :: r, 0, _, _, h => by
    have h : p a = true := h
    rw [List.find?_cons_of_pos h]; rfl
  | a :: r, x + 1, hl, hn, h => by
    have h0 : p a = false := hn 0 (by omega)
    rw [List.find?_cons_of_neg (by rw [h0]; decide)]
    exact find_at p d r x (by simpa using hl) (fun j hj => hn (j + 1) (by omega)) h
theorem find_no {α : Type} (p : α → Bool) (d : α) (l : List α) (hn : ∀ j, j < l.length → p (l.getD j d) = false) : l.find? p = none := by
  rw [List.find?_eq_none]
  intro x hx
  obtain ⟨j, hj, rfl⟩ := List.getElem_of_mem hx
  have := hn j hj
  rw [List.getD_eq_getElem?_getD, List.getElem?_eq_getElem hj] at this
  rw [show (some l[j]).getD d = l[j] from rfl] at this
  rw [this]; decide

theorem ref24_Of_vc (ws : List Noted) (ms : List Mark) (at_ : Int) (h : HeadT) (hw : ws.length ≤ LIM) :
    (∃ (x : Nat),
      (x ≤ List.length ws ∧
      ∀ (j : Nat), j < x → isH h (List.getD ws j (T.dflt T_Noted)) = false) ∧
      0 = ofN x) ∧
      ∀ (x : Nat),
      (x ≤ List.length ws ∧
      ∀ (j : Nat), j < x → isH h (List.getD ws j (T.dflt T_Noted)) = false) →
      (decide (ofN x < ofN (List.length ws)) = true →
      within (ofN x) (List.length ws) ∧
      Int.toNat (ofN x) < List.length ws ∧
      (((List.getD ws (Int.toNat (ofN x)) (T.dflt T_Noted)).2.2.1 ==
      h.1 &&
      ((List.getD ws (Int.toNat (ofN x))
      (T.dflt T_Noted)).2.2.2.1 ==
      h.2.1 &&
      eqL T.u8
      (List.getD ws (Int.toNat (ofN x))
      (T.dflt T_Noted)).2.2.2.2.1
      h.2.2)) =
      true →
      within (ofN x) (List.length ws) ∧
      Int.toNat (ofN x) < List.length ws ∧
      (((List.getD ws (Int.toNat (ofN x)) (T.dflt T_Noted)).1 =
      (rOfV ws h).1.1 ∧
      (List.getD ws (Int.toNat (ofN x))
      (T.dflt T_Noted)).2.1 =
      (rOfV ws h).1.2.1 ∧
      (List.getD ws (Int.toNat (ofN x))
      (T.dflt T_Noted)).2.2.1 =
      (rOfV ws h).1.2.2.1 ∧
      (List.getD ws (Int.toNat (ofN x))
      (T.dflt T_Noted)).2.2.2.1 =
      (rOfV ws h).1.2.2.2.1 ∧
      (List.getD ws (Int.toNat (ofN x))
      (T.dflt T_Noted)).2.2.2.2.1 =
      (rOfV ws h).1.2.2.2.2.1 ∧
      (List.getD ws (Int.toNat (ofN x))
      (T.dflt
      T_Noted)).2.2.2.2.2.1 =
      (rOfV ws h).1.2.2.2.2.2.1 ∧
      (List.getD ws (Int.toNat (ofN x))
      (T.dflt
      T_Noted)).2.2.2.2.2.2.1 =
      (rOfV ws h).1.2.2.2.2.2.2.1 ∧
      (List.getD ws (Int.toNat (ofN x))
      (T.dflt
      T_Noted)).2.2.2.2.2.2.2 =
      (rOfV ws h).1.2.2.2.2.2.2.2) ∧
      true = (rOfV ws h).2) ∧
      at_ = at_ ∧ ws = ws ∧ ms = ms) ∧
      (((List.getD ws (Int.toNat (ofN x)) (T.dflt T_Noted)).2.2.1 ==
      h.1 &&
      ((List.getD ws (Int.toNat (ofN x))
      (T.dflt T_Noted)).2.2.2.1 ==
      h.2.1 &&
      eqL T.u8
      (List.getD ws (Int.toNat (ofN x))
      (T.dflt T_Noted)).2.2.2.2.1
      h.2.2)) =
      false →
      inI64 (ofN x + 1) ∧
      ∃ (x' : Nat),
      (x' ≤ List.length ws ∧
      ∀ (j : Nat),
      j < x' →
      isH h (List.getD ws j (T.dflt T_Noted)) =
      false) ∧
      List.length ws - x' < List.length ws - x ∧ ofN x + 1 = ofN x')) ∧
      (decide (ofN x < ofN (List.length ws)) = false →
      ((0 = (rOfV ws h).1.1 ∧
      0 = (rOfV ws h).1.2.1 ∧
      0 = (rOfV ws h).1.2.2.1 ∧
      0 = (rOfV ws h).1.2.2.2.1 ∧
      List.replicate 32 0#8 = (rOfV ws h).1.2.2.2.2.1 ∧
      nilOf (BitVec 8) = (rOfV ws h).1.2.2.2.2.2.1 ∧ nilOf (BitVec 8) = (rOfV ws h).1.2.2.2.2.2.2.1 ∧ false = (rOfV ws h).1.2.2.2.2.2.2.2) ∧
      false = (rOfV ws h).2) ∧
      at_ = at_ ∧ ws = ws ∧ ms = ms) := by
  refine ⟨⟨0, ⟨Nat.zero_le _, fun j hj => absurd hj (Nat.not_lt_zero _)⟩, rfl⟩, fun x hx => ?_⟩
  obtain ⟨h1, h2⟩ := hx
  rw [isH_eq, show Int.toNat (ofN x) = x from rfl]
  refine ⟨fun q => ?_, fun q => ?_⟩
  · have hlt : x < ws.length := by have h1 : (x : Int) < (ws.length : Int) := of_decide_eq_true q; omega
    have w1 : within (ofN x) ws.length := ⟨by show (0 : Int) ≤ (x : Int); omega, by show (x : Int) < (ws.length : Int); omega⟩
    have w2 : inI64 (ofN x + 1) := by show inI64 ((x : Int) + 1); unfold inI64; unfold LIM at hw; omega
    refine ⟨w1, hlt, fun q2 => ⟨w1, hlt, ?_, rfl, rfl, rfl⟩, fun q2 => ⟨w2, x + 1, ⟨hlt, fun j hj => ?_⟩, by omega, rfl⟩⟩
    · have hR : rOfV ws h = (ws.getD x T_Noted.dflt, true) := by
        unfold rOfV; rw [find_at (isH h) T_Noted.dflt ws x hlt h2 q2]
      rw [hR]
      exact ⟨⟨rfl, rfl, rfl, rfl, rfl, rfl, rfl, rfl⟩, rfl⟩
    · rcases Nat.lt_or_ge j x with hj2 | hj2
      · exact h2 j hj2
      · obtain rfl : j = x := by omega
        exact q2
  · have hx2 : x = ws.length := by have h1 : ¬ (x : Int) < (ws.length : Int) := of_decide_eq_false q; omega
    subst hx2
    have hR : rOfV ws h = (T_Noted.dflt, false) := by
      unfold rOfV; rw [find_no (isH h) T_Noted.dflt ws h2]
    rw [hR]
    exact ⟨⟨⟨rfl, rfl, rfl, rfl, rfl, rfl, rfl, rfl⟩, rfl⟩, rfl, rfl, rfl⟩

theorem ref24_File_vc (ws : List Noted) (ms : List Mark) (at_ : Int) (rs : List Rec) (path : Bytes) (hr : rs.length ≤ LIM) :
    (∃ (x : Nat), x ≤ List.length rs ∧ 0 = ofN x ∧ -1 = ofN (lastN path rs x) - 1) ∧
      ∀ (x : Nat),
      x ≤ List.length rs →
      (decide (ofN x < ofN (List.length rs)) = true →
      within (ofN x) (List.length rs) ∧
      (((List.getD rs (Int.toNat (ofN x))
      (T.dflt T_Rec)).2.2.2.2.2.1 ==
      path) =
      true →
      within (ofN x) (List.length rs)) ∧
      (((List.getD rs (Int.toNat (ofN x))
      (T.dflt T_Rec)).2.2.2.2.2.1 ==
      path) =
      true →
      ((List.getD rs (Int.toNat (ofN x))
      (T.dflt T_Rec)).2.2.2.1 ==
      2) =
      false →
      within (ofN x) (List.length rs)) ∧
      (((List.getD rs (Int.toNat (ofN x))
      (T.dflt
      T_Rec)).2.2.2.2.2.1 ==
      path &&
      ((List.getD rs (Int.toNat (ofN x))
      (T.dflt T_Rec)).2.2.2.1 ==
      2 ||
      (List.getD rs (Int.toNat (ofN x))
      (T.dflt T_Rec)).2.2.2.1 ==
      3)) =
      true →
      inI64 (ofN x + 1) ∧ ∃ (x' : Nat), x' ≤ List.length rs ∧ List.length rs - x' < List.length rs - x ∧ ofN x + 1 = ofN x' ∧ ofN x = ofN (lastN path rs x') - 1) ∧
      (((List.getD rs (Int.toNat (ofN x))
      (T.dflt
      T_Rec)).2.2.2.2.2.1 ==
      path &&
      ((List.getD rs (Int.toNat (ofN x))
      (T.dflt T_Rec)).2.2.2.1 ==
      2 ||
      (List.getD rs (Int.toNat (ofN x))
      (T.dflt T_Rec)).2.2.2.1 ==
      3)) =
      false →
      inI64 (ofN x + 1) ∧ ∃ (x' : Nat), x' ≤ List.length rs ∧ List.length rs - x' < List.length rs - x ∧ ofN x + 1 = ofN x' ∧ ofN (lastN path rs x) - 1 = ofN (lastN path rs x') - 1)) ∧
      (decide (ofN x < ofN (List.length rs)) = false →
      (decide (ofN (lastN path rs x) - 1 < 0) = false → within (ofN (lastN path rs x) - 1) (List.length rs)) ∧
      ((decide (ofN (lastN path rs x) - 1 < 0) ||
      (List.getD rs (Int.toNat (ofN (lastN path rs x) - 1))
      (T.dflt T_Rec)).2.2.2.1 !=
      2) =
      true →
      (nilOf (BitVec 8) = fileV (rOfV ws) rs path ∧ false = fileB (rOfV ws) rs path) ∧ at_ = at_ ∧ ws = ws ∧ ms = ms) ∧
      ((decide (ofN (lastN path rs x) - 1 < 0) ||
      (List.getD rs (Int.toNat (ofN (lastN path rs x) - 1))
      (T.dflt T_Rec)).2.2.2.1 !=
      2) =
      false →
      inI64 (ofN (lastN path rs x) - 1 + 1) ∧
      (0 ≤ ofN (lastN path rs x) - 1 + 1 ∧ ofN (lastN path rs x) - 1 + 1 ≤ ofN (List.length rs)) ∧
      (((walkV (0, 0, List.replicate 32 0#8) (List.drop 0 (List.take (Int.toNat (ofN (lastN path rs x) - 1 + 1)) rs)) 0).2.2 != 0 ||
      !(rOfV ws (walkV (0, 0, List.replicate 32 0#8) (List.drop 0 (List.take (Int.toNat (ofN (lastN path rs x) - 1 + 1)) rs)) 0).1).2 ||
      (rOfV ws (walkV (0, 0, List.replicate 32 0#8) (List.drop 0 (List.take (Int.toNat (ofN (lastN path rs x) - 1 + 1)) rs)) 0).1).1.2.2.2.2.2.2.2 ||
      (rOfV ws (walkV (0, 0, List.replicate 32 0#8) (List.drop 0 (List.take (Int.toNat (ofN (lastN path rs x) - 1 + 1)) rs)) 0).1).1.2.2.2.2.2.1 != path) =
      true →
      (nilOf (BitVec 8) = fileV (rOfV ws) rs path ∧ false = fileB (rOfV ws) rs path) ∧ at_ = at_ ∧ ws = ws ∧ ms = ms) ∧
      (((walkV (0, 0, List.replicate 32 0#8) (List.drop 0 (List.take (Int.toNat (ofN (lastN path rs x) - 1 + 1)) rs)) 0).2.2 != 0 ||
      !(rOfV ws (walkV (0, 0, List.replicate 32 0#8) (List.drop 0 (List.take (Int.toNat (ofN (lastN path rs x) - 1 + 1)) rs)) 0).1).2 ||
      (rOfV ws (walkV (0, 0, List.replicate 32 0#8) (List.drop 0 (List.take (Int.toNat (ofN (lastN path rs x) - 1 + 1)) rs)) 0).1).1.2.2.2.2.2.2.2 ||
      (rOfV ws (walkV (0, 0, List.replicate 32 0#8) (List.drop 0 (List.take (Int.toNat (ofN (lastN path rs x) - 1 + 1)) rs)) 0).1).1.2.2.2.2.2.1 != path) =
      false →
      ((rOfV ws (walkV (0, 0, List.replicate 32 0#8) (List.drop 0 (List.take (Int.toNat (ofN (lastN path rs x) - 1 + 1)) rs)) 0).1).1.2.2.2.2.2.2.1 = fileV (rOfV ws) rs path ∧
      true = fileB (rOfV ws) rs path) ∧
      at_ = at_ ∧ ws = ws ∧ ms = ms))) := by
  have e0 : ((0, 0, List.replicate 32 0#8) : HeadT) = head0 := rfl
  rw [e0]
  refine ⟨⟨0, Nat.zero_le _, rfl, rfl⟩, fun x h1 => ?_⟩
  have hl : rs.length ≤ 9223372036854775807 := hr
  rw [show Int.toNat (ofN x) = x from rfl]
  have hh : ∀ r : Rec, (r.2.2.2.2.2.1 == path && (r.2.2.2.1 == 2 || r.2.2.2.1 == 3)) = hitV path r := fun _ => rfl
  rw [hh]
  refine ⟨fun q => ?_, fun q => ?_⟩
  · have hlt : x < rs.length := by have h1 : (x : Int) < (rs.length : Int) := of_decide_eq_true q; omega
    have w1 : within (ofN x) rs.length := ⟨by show (0 : Int) ≤ (x : Int); omega, by show (x : Int) < (rs.length : Int); omega⟩
    have w2 : inI64 (ofN x + 1) := by show inI64 ((x : Int) + 1); unfold inI64; omega
    refine ⟨w1, fun _ => w1, fun _ _ => w1, fun q2 => ⟨w2, x + 1, hlt, by omega, rfl, ?_⟩, fun q2 => ⟨w2, x + 1, hlt, by omega, rfl, ?_⟩⟩
    · rw [lastN_hit q2]; show (x : Int) = ((x + 1 : Nat) : Int) - 1; omega
    · rw [lastN_no q2]
  · have hx2 : x = rs.length := by have h1 : ¬ (x : Int) < (rs.length : Int) := of_decide_eq_false q; omega
    subst hx2
    have hle := lastN_le path rs rs.length
    generalize hn : lastN path rs rs.length = n at hle ⊢
    rw [show ofN n - 1 + 1 = ofN n from by show (n : Int) - 1 + 1 = n; omega, toNat_pred, List.drop_zero, show Int.toNat (ofN n) = n from rfl]
    have hneg : decide (ofN n - 1 < 0) = decide ((n : Int) = 0) := by
      rw [Bool.eq_iff_iff, decide_eq_true_eq, decide_eq_true_eq]
      show (n : Int) - 1 < 0 ↔ (n : Int) = 0
      omega
    have hno : noPut path rs = (decide ((n : Int) = 0) || (rs.getD (n - 1) T_Rec.dflt).2.2.2.1 != 2) := by unfold noPut; rw [hn]; rfl
    have hh : headAtV path rs = (walkV head0 (rs.take n) 0).1 := by unfold headAtV; rw [hn]
    have hE : walkE path rs = (walkV head0 (rs.take n) 0).2.2 := by unfold walkE; rw [hn]
    rw [hneg, ← hno, ← hh, ← hE]
    have ha : ∀ a b c d : Bool, (a || b || c || d) = (a || (b || c || d)) := fun a b c d => by cases a <;> rfl
    rw [ha, miss_eq]
    refine ⟨fun q2 => ?_, fun q2 => ⟨file_no q2, rfl, rfl, rfl⟩, fun q2 => ⟨?_, ⟨?_, ?_⟩, fun q3 => ⟨?_, rfl, rfl, rfl⟩, fun q3 => ⟨?_, rfl, rfl, rfl⟩⟩⟩
    · have q2 : ¬ (n : Int) = 0 := of_decide_eq_false q2
      show within ((n : Int) - 1) rs.length; unfold within; omega
    · show inI64 (n : Int); unfold inI64; omega
    · show (0 : Int) ≤ (n : Int); omega
    · show (n : Int) ≤ (rs.length : Int); omega
    · rw [Bool.or_eq_true] at q3
      rcases q3 with q3 | q3
      · exact file_walk q3
      · exact file_miss q3
    · rw [Bool.or_eq_false_iff] at q3
      exact file_ok q2 q3.1 q3.2

theorem ref24_SameN_vc (a b : Noted) :
    (a.1 == b.1 && a.2.1 == b.2.1 && (a.2.2.1 == b.2.2.1 && (a.2.2.2.1 == b.2.2.2.1 && eqL T.u8 a.2.2.2.2.1 b.2.2.2.2.1)) && a.2.2.2.2.2.1 == b.2.2.2.2.2.1 && a.2.2.2.2.2.2.1 == b.2.2.2.2.2.2.1 &&
      a.2.2.2.2.2.2.2 == b.2.2.2.2.2.2.2) =
      sameNV a b := by
  rw [eqL_u8, Bool.eq_iff_iff]
  unfold sameNV
  simp only [Bool.and_eq_true, beq_iff_eq, decide_eq_true_eq, Prod.ext_iff, and_assoc]

theorem sameB_iff (a b : List T_Brc.den) : sameBV a b = true ↔ a = b := by unfold sameBV; simp

theorem ref24_SameB_vc (a b : List T_Brc.den) (ha : a.length ≤ LIM) :
    ((ofN (List.length a) != ofN (List.length b)) = true → false = sameBV a b) ∧
      ((ofN (List.length a) != ofN (List.length b)) = false →
      (∃ (x : Nat), (x ≤ List.length a ∧ List.take x a = List.take x b) ∧ 0 = ofN x) ∧
      ∀ (x : Nat),
      x ≤ List.length a ∧ List.take x a = List.take x b →
      (decide (ofN x < ofN (List.length a)) = true →
      within (ofN x) (List.length a) ∧
      within (ofN x) (List.length b) ∧
      ((!((List.getD a (Int.toNat (ofN x)) (T.dflt T_Brc)).1 == (List.getD b (Int.toNat (ofN x)) (T.dflt T_Brc)).1 &&
      ((List.getD a (Int.toNat (ofN x)) (T.dflt T_Brc)).2.1 == (List.getD b (Int.toNat (ofN x)) (T.dflt T_Brc)).2.1 &&
      (List.getD a (Int.toNat (ofN x)) (T.dflt T_Brc)).2.2 ==
      (List.getD b (Int.toNat (ofN x)) (T.dflt T_Brc)).2.2))) =
      true →
      false = sameBV a b) ∧
      ((!((List.getD a (Int.toNat (ofN x)) (T.dflt T_Brc)).1 == (List.getD b (Int.toNat (ofN x)) (T.dflt T_Brc)).1 &&
      ((List.getD a (Int.toNat (ofN x)) (T.dflt T_Brc)).2.1 == (List.getD b (Int.toNat (ofN x)) (T.dflt T_Brc)).2.1 &&
      (List.getD a (Int.toNat (ofN x)) (T.dflt T_Brc)).2.2 ==
      (List.getD b (Int.toNat (ofN x)) (T.dflt T_Brc)).2.2))) =
      false →
      inI64 (ofN x + 1) ∧ ∃ (x' : Nat), (x' ≤ List.length a ∧ List.take x' a = List.take x' b) ∧ List.length a - x' < List.length a - x ∧ ofN x + 1 = ofN x')) ∧
      (decide (ofN x < ofN (List.length a)) = false → true = sameBV a b)) := by
  have hne : ∀ {p : Prop} [Decidable p], True := fun {_} [_] => trivial
  refine ⟨fun q => ?_, fun q => ⟨⟨0, ⟨Nat.zero_le _, rfl⟩, rfl⟩, fun x hx => ?_⟩⟩
  · symm
    rw [Bool.eq_false_iff]
    intro e
    rw [sameB_iff] at e
    subst e
    simp at q
  · obtain ⟨h1, h2⟩ := hx
    have hl : a.length = b.length := by
      have q : (ofN a.length == ofN b.length) = true := by simpa [bne] using q
      have q : (a.length : Int) = (b.length : Int) := by simpa using q
      omega
    rw [show Int.toNat (ofN x) = x from rfl]
    have hE : ∀ u v : T_Brc.den, (u.1 == v.1 && (u.2.1 == v.2.1 && u.2.2 == v.2.2)) = decide (u = v) := fun u v => by
      rw [Bool.eq_iff_iff]; simp only [Bool.and_eq_true, beq_iff_eq, decide_eq_true_eq, Prod.ext_iff]
    rw [hE]
    refine ⟨fun q2 => ?_, fun q2 => ?_⟩
    · have hlt : x < a.length := by have h1 : (x : Int) < (a.length : Int) := of_decide_eq_true q2; omega
      refine ⟨⟨by show (0 : Int) ≤ (x : Int); omega, by show (x : Int) < (a.length : Int); omega⟩, ⟨by show (0 : Int) ≤ (x : Int); omega, by show (x : Int) < (b.length : Int); omega⟩, fun q3 => ?_, fun q3 => ⟨by show inI64 ((x : Int) + 1); unfold inI64; unfold LIM at ha; omega, x + 1, ⟨hlt, ?_⟩, by omega, rfl⟩⟩
      · have q3 : ¬ a.getD x T_Brc.dflt = b.getD x T_Brc.dflt := by simpa using q3
        symm
        rw [Bool.eq_false_iff]
        intro e
        rw [sameB_iff] at e
        exact q3 (by rw [e])
      · have q3 : a.getD x T_Brc.dflt = b.getD x T_Brc.dflt := by simpa using q3
        rw [take_snoc' (d := T_Brc.dflt) hlt, take_snoc' (d := T_Brc.dflt) (by omega : x < b.length), h2, q3]
    · have hx2 : x = a.length := by have h1 : ¬ (x : Int) < (a.length : Int) := of_decide_eq_false q2; omega
      subst hx2
      symm
      rw [sameB_iff]
      rw [List.take_of_length_le (Nat.le_refl _), hl, List.take_of_length_le (Nat.le_refl _)] at h2
      exact h2

theorem law24_few_vc (l : List Rec) :
    (∃ (x : Nat),
      (x ≤ List.length l ∧ x ≤ 30 ∧ List.take x l ++ fewT (30 - x) (List.drop x l) = fewT 30 l) ∧
      List.take x l = nilOf (Int × Int × List (BitVec 8) × Int × Int × List (BitVec 8) × List (List (BitVec 8) × Int)) ∧ 0 = ofN x) ∧
      ∀ (x : Nat),
      x ≤ List.length l ∧ x ≤ 30 ∧ List.take x l ++ fewT (30 - x) (List.drop x l) = fewT 30 l →
      ((decide (ofN x < ofN (List.length l)) && decide (ofN x < 30)) = true →
      within (ofN x) (List.length l) ∧
      (decide
      (60 <
      ofN
      (List.length
      (List.getD l (Int.toNat (ofN x))
      (T.dflt
      T_Rec)).2.2.2.2.2.2)) =
      false →
      within (ofN x) (List.length l)) ∧
      ((decide
      (60 <
      ofN
      (List.length
      (List.getD l (Int.toNat (ofN x))
      (T.dflt
      T_Rec)).2.2.2.2.2.2)) ||
      decide
      (300 <
      ofN
      (List.length
      (List.getD l (Int.toNat (ofN x))
      (T.dflt
      T_Rec)).2.2.2.2.2.1))) =
      true →
      List.take x l = fewT 30 l) ∧
      ((decide
      (60 <
      ofN
      (List.length
      (List.getD l (Int.toNat (ofN x))
      (T.dflt
      T_Rec)).2.2.2.2.2.2)) ||
      decide
      (300 <
      ofN
      (List.length
      (List.getD l (Int.toNat (ofN x))
      (T.dflt
      T_Rec)).2.2.2.2.2.1))) =
      false →
      within (ofN x) (List.length l) ∧
      List.length (List.take x l) +
      List.length
      [List.getD l (Int.toNat (ofN x))
      (T.dflt T_Rec)] ≤
      ROOM ∧
      inI64 (ofN x + 1) ∧
      ∃ (x' : Nat),
      (x' ≤ List.length l ∧ x' ≤ 30 ∧ List.take x' l ++ fewT (30 - x') (List.drop x' l) = fewT 30 l) ∧
      30 - x' < 30 - x ∧
      List.take x l ++
      [List.getD l (Int.toNat (ofN x))
      (T.dflt T_Rec)] =
      List.take x' l ∧
      ofN x + 1 = ofN x')) ∧
      ((decide (ofN x < ofN (List.length l)) && decide (ofN x < 30)) = false → List.take x l = fewT 30 l) := by
  refine ⟨⟨0, ⟨by omega, by omega, by simp⟩, rfl, rfl⟩, fun x ⟨h1, h2, h3⟩ => ⟨fun hc => ?_, fun hc => ?_⟩⟩
  · simp only [Bool.and_eq_true, decide_eq_true_eq, ofN] at hc
    have c1 : x < l.length := by omega
    have c2 : x < 30 := by omega
    have wi : within (ofN x) l.length := by unfold within ofN; omega
    rw [show Int.toNat (ofN x) = x from rfl]
    obtain ⟨j, hj⟩ : ∃ j, 30 - x = j + 1 := ⟨29 - x, by omega⟩
    have hd : l.drop x = l[x] :: l.drop (x + 1) := List.drop_eq_getElem_cons c1
    have eg : List.getD l x (T.dflt T_Rec) = l[x] := getD_lt c1
    rw [hj, hd, fewT] at h3
    have ts := take_snoc' (d := T_Rec.dflt) c1
    rw [eg]
    refine ⟨wi, fun _ => wi, fun g => ?_, fun g => ⟨wi, ?_, by unfold inI64 ofN; omega, x + 1, ⟨by omega, by omega, ?_⟩, by omega, ?_, by unfold ofN; omega⟩⟩
    · simp only [Bool.or_eq_true, decide_eq_true_eq, ofN] at g
      have g : 60 < l[x].2.2.2.2.2.2.length ∨ 300 < l[x].2.2.2.2.2.1.length := g.imp (fun q => by omega) (fun q => by omega)
      rw [if_pos g, List.append_nil] at h3
      exact h3
    · rw [List.length_take]; simp only [List.length_cons, List.length_nil]; unfold ROOM; omega
    · simp only [Bool.or_eq_false_iff, decide_eq_false_iff_not, ofN] at g
      have g : ¬ (60 < l[x].2.2.2.2.2.2.length ∨ 300 < l[x].2.2.2.2.2.1.length) := fun q => by
        rcases q with q | q
        · exact g.1 (by omega)
        · exact g.2 (by omega)
      rw [if_neg g] at h3
      rw [ts, getD_lt c1, List.append_assoc, show 30 - (x + 1) = j by omega]
      exact h3
    · rw [ts, getD_lt c1]
  · simp only [Bool.and_eq_false_iff, decide_eq_false_iff_not, ofN] at hc
    have hc : x = l.length ∨ x = 30 := by omega
    rcases hc with hc | hc
    · rw [hc, List.drop_of_length_le (Nat.le_refl _), List.take_of_length_le (Nat.le_refl _)] at h3
      rw [hc, List.take_of_length_le (Nat.le_refl _)]
      have e : fewT (30 - l.length) [] = [] := by cases (30 - l.length) <;> rfl
      rw [e, List.append_nil] at h3
      exact h3
    · rw [hc, Nat.sub_self] at h3
      rw [hc]
      have e : fewT 0 (l.drop 30) = [] := rfl
      rw [e, List.append_nil] at h3
      exact h3

theorem law24_small_vc (a : Act) :
    (decide (ofN (List.length a.2.2.2.2.2.1) ≤ 2000) && decide (ofN (List.length a.2.2.2.2.1) ≤ 300)) = smallV a := by
  rfl

theorem check_Has_spec : Vse.Spec P f_check_Has c_Has :=
  spec_fn (l := [(f_record_Walk, c_Walk)]) ⟨record_Walk_spec, trivial⟩ h_check_Has rfl rfl fun x _ _ => body_ok an_none (check_Has_vc x.1 x.2.1) (by kernel_rfl)

theorem ref16_Has_spec : Vse.Spec P f_ref16_Has c_Has :=
  spec_fn (l := [(f_ref13_Walk, c_Walk)]) ⟨ref13_Walk_spec, trivial⟩ h_ref16_Has rfl rfl fun x _ _ => body_ok an_none (ref16_Has_vc x.1 x.2.1) (by kernel_rfl)

theorem ledger_File_spec : Vse.Spec P f_ledger_Ledger_File c_File := spec_gm (l := [(f_ledger_Ledger_is, c_lIs), (f_record_Walk, c_Walk), (f_ledger_Ledger_Of, c_Of)]) ⟨ledger_is_spec, record_Walk_spec, ledger_Of_spec, trivial⟩ h_ledger_Ledger_File rfl rfl fun s x h _ ok => by
  obtain ⟨ws, first, ms, at_, _⟩ := s
  obtain ⟨rs, path, _⟩ := x
  exact bodyG_ok (an_File rs path) (ledger_File_vc ws first ms at_ rs path h.1 h.2 ok.1.1) (by kernel_rfl)

theorem ref24_Note_spec : Vse.Spec P f_ref24_Ledger_Note c_qNote := spec_gm (l := []) trivial h_ref24_Ledger_Note rfl rfl fun s x h _ _ => by
  obtain ⟨ws, ms, at_, _⟩ := s
  obtain ⟨x, d, sh, _⟩ := x
  exact bodyG_ok an_Q0 (ref24_Note_vc ws ms at_ x d sh h.1 h.2) (by kernel_rfl)

theorem ref24_Tell_spec : Vse.Spec P f_ref24_Ledger_Tell c_qTell := spec_gm (l := []) trivial h_ref24_Ledger_Tell rfl rfl fun s x h _ _ => by
  obtain ⟨ws, ms, at_, _⟩ := s
  obtain ⟨t, _⟩ := x
  exact bodyG_ok an_Q2 (ref24_Tell_vc ws ms at_ t h) (by kernel_rfl)

theorem ref24_Last_spec : Vse.Spec P f_ref24_Ledger_Last c_qLast := spec_gm (l := []) trivial h_ref24_Ledger_Last rfl rfl fun s _ _ ok _ => by
  obtain ⟨ws, ms, at_, _⟩ := s
  exact bodyG_ok (an_qLast ms) (ref24_Last_vc ws ms at_ ok.2.2.1.1) (by kernel_rfl)

theorem ref24_Of_spec : Vse.Spec P f_ref24_Ledger_Of c_qOf := spec_gm (l := []) trivial h_ref24_Ledger_Of rfl rfl fun s x _ ok _ => by
  obtain ⟨ws, ms, at_, _⟩ := s
  obtain ⟨hd, _⟩ := x
  exact bodyG_ok (an_qOf ws hd) (ref24_Of_vc ws ms at_ hd ok.2.1.1) (by kernel_rfl)

theorem ref24_File_spec : Vse.Spec P f_ref24_Ledger_File c_qFile := spec_gm (l := [(f_ref13_Walk, c_Walk), (f_ref24_Ledger_Of, c_qOf)]) ⟨ref13_Walk_spec, ref24_Of_spec, trivial⟩ h_ref24_Ledger_File rfl rfl fun s x _ _ ok => by
  obtain ⟨ws, ms, at_, _⟩ := s
  obtain ⟨rs, path, _⟩ := x
  exact bodyG_ok (an_qFile rs path) (ref24_File_vc ws ms at_ rs path ok.1.1) (by kernel_rfl)

theorem ref24_SameN_spec : Vse.Spec P f_ref24_SameNoted c_SameN := spec_fn (l := []) trivial h_ref24_SameNoted rfl rfl fun x _ _ => body_ok an_none (ref24_SameN_vc x.1 x.2.1) (by kernel_rfl)

theorem ref24_SameB_spec : Vse.Spec P f_ref24_Same c_SameB := spec_fn (l := []) trivial h_ref24_Same rfl rfl fun x _ ok => body_ok (an_SameB x.1 x.2.1) (ref24_SameB_vc x.1 x.2.1 ok.1.1) (by kernel_rfl)

theorem law24_few_spec : Vse.Spec P f_law24_few c_few24 := spec_fn (l := []) trivial h_law24_few rfl rfl fun x _ _ => body_ok (an_few24 x.1) (law24_few_vc x.1) (by kernel_rfl)

theorem law24_small_spec : Vse.Spec P f_law24_small c_small := spec_fn (l := []) trivial h_law24_small rfl rfl fun x _ _ => body_ok an_none (law24_small_vc x.1) (by kernel_rfl)

end Go.Sal
