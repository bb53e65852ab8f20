/- Contracts of ledger's methods. -/
import Derived.Test.YtflcaomdkbnfaaaQCRec
import Derived.Test.YtflcaomdkbnfaaaQSalChk
import Derived.Test.YtflcaomdkbnfaaaQVseObj
set_option maxRecDepth 100000
namespace Go.Sal
open Go.Vse Go.Sal.Nm

abbrev T_Noted : T := .pair .i64 (.pair .i64 (.pair .i64 (.pair .i64 (.pair T_Dig (.pair .str (.pair (.slc .u8) .bool))))))
abbrev T_Deed : T := .pair .i64 (.pair .i64 (.pair .str (.pair (.slc .u8) (.pair .i64 (.pair .i64 (.slc .bool))))))
abbrev T_Shown : T := .pair .i64 (.pair .i64 (.pair .i64 (.pair T_Dig (.pair .i64 (.pair .i64 (.pair .i64 (.pair T_Dig (.pair T_Dig (.pair (.slc .u8) .i64)))))))))
abbrev T_Told : T := .pair .i64 (.pair .i64 (.pair .i64 T_Mark))
abbrev T_fsL : List OF := [.row 72 T_Noted, .mp T_Head false .i64, .row 44 T_Mark, .dat .i64]
abbrev T_L := ofds T_fsL
abbrev Noted := T_Noted.den
abbrev MarkL := T_Mark.den
abbrev Deed := T_Deed.den
abbrev Shown := T_Shown.den
abbrev Told := T_Told.den
abbrev Firsts := List (HeadT × Int)
def an_L1 : Ann := { at_ := fun _ _ => none, pins := [1, 2, 3, 4], prune := 1 }
def an_L0 : Ann := { at_ := fun _ _ => none, prune := 1 }
def laterE (at_ x : Int) : Int := bif decide (x < at_) then 240 else 0
def laterA (at_ x : Int) : Int := bif decide (x < at_) then at_ else x
def doesV (d : Deed) (s : Shown) : Bool := s.1 == 0 && (d.1 == 1 || d.1 == 2)
def headS (s : Shown) : HeadT := (s.2.1, s.2.2.1, s.2.2.2.1)
def headN (w : Noted) : HeadT := (w.2.2.1, w.2.2.2.1, w.2.2.2.2.1)
def notedV (x : Int) (d : Deed) (s : Shown) : Noted := (x, d.2.1, s.2.1, s.2.2.1, s.2.2.2.1, d.2.2.1, bif d.1 == 2 then [] else d.2.2.2.1, d.1 == 2)
def putsV (at_ x : Int) (d : Deed) (s : Shown) : Bool := !decide (x < at_) && doesV d s
def noteW (ws : List Noted) (at_ x : Int) (d : Deed) (s : Shown) : List Noted := bif putsV at_ x d s then ws ++ [notedV x d s] else ws
def noteF (ws : List Noted) (first : Firsts) (at_ x : Int) (d : Deed) (s : Shown) : Firsts := bif putsV at_ x d s && !(mget T_Head first (headS s)).isSome then mput T_Head first (headS s) ws.length else first
def tellM (ms : List MarkL) (at_ : Int) (t : Told) : List MarkL := bif !decide (t.1 < at_) && t.2.2.1 == 1 then ms ++ [t.2.2.2] else ms
def c_lNew : PC := gF [] fun _ => ⟨none, .sv (.ref (.cell 1 [] 0)), oObj T_fsL 12 ([], [], [], 0, ())⟩
def c_lIs : PC := gM T_fsL [] fun d _ => ⟨none, .sv (.dv (.bool true)), oObj T_fsL 2 d⟩
def c_later : PC := gM T_fsL [.i64] fun d x => ⟨none, .sv (.dv (.i64 (laterE d.2.2.2.1 x.1))), oObj T_fsL 2 (d.1, d.2.1, d.2.2.1, laterA d.2.2.2.1 x.1, ())⟩
def c_CloneB : PC := D [.slc .u8] [.slc .u8] (fun x => some (x.1.length ≤ 65536)) (fun x => (x.1, ()))
def c_CloneM : PC := D [.slc T_Mark] [.slc T_Mark] (fun x => some (x.1.length ≤ 65536)) (fun x => (x.1, ()))
def c_CloneR : PC := gR 44 T_Mark [] fun xs _ => ⟨some (xs.length ≤ 65536), .sv (.dv (.imm T_Mark xs)), [(1, .row 44 T_Mark.size T_Mark xs false)]⟩
def an_CloneR : Ann := { at_ := fun _ _ => none, pins := [1], prune := 1, rows := [STRIDE * 4] }
def c_lOwn : PC := D [T_Noted] [T_Noted] (fun x => some (x.1.2.2.2.2.2.2.1.length ≤ 65536)) (fun x => (x.1, ()))
def c_Note : PC := gM T_fsL [.i64, T_Deed, T_Shown] fun d x => ⟨some (d.1.length ≤ 65536 ∧ x.2.1.2.2.2.1.length ≤ 65536), .sv (.dv (.i64 (laterE d.2.2.2.1 x.1))), oObj T_fsL 12 (noteW d.1 d.2.2.2.1 x.1 x.2.1 x.2.2.1, noteF d.1 d.2.1 d.2.2.2.1 x.1 x.2.1 x.2.2.1, d.2.2.1, laterA d.2.2.2.1 x.1, ())⟩
def c_Tell : PC := gM T_fsL [T_Told] fun d x => ⟨some (d.2.2.1.length ≤ 65536), .sv (.dv (.i64 (laterE d.2.2.2.1 x.1.1))), oObj T_fsL 12 (d.1, d.2.1, tellM d.2.2.1 d.2.2.2.1 x.1, laterA d.2.2.2.1 x.1.1, ())⟩

def okW (ws : List Noted) : Prop := ws.length ≤ 65536 ∧ ∀ w ∈ ws, w.2.2.2.2.2.2.1.length ≤ 65536
def c_Writes : PC := gM T_fsL [] fun d _ => ⟨some (okW d.1), .sv (.dv (.imm T_Noted d.1)), oObj T_fsL 2 d⟩
def an_WritesL (ws : List Noted) : Nat → SState → Option LoopAnn
  | 5, S => some { X := Nat, slots := fun k => [(14, .sv (.dv (.i64 (ofN k)))), (3, .sv (.own 10 T_Noted (ws.take k)))], objs := fun _ => [(10, .tok 72 39), (x_tok S 3, .gone)], inv := fun k => k ≤ ws.length, meas := fun k => ws.length - k }
  | _, _ => none
def an_Writes (ws : List Noted) : Ann := { at_ := an_WritesL ws, pins := [1, 2, 3, 4], prune := 1 }
def c_Acked : PC := gM T_fsL [] fun d _ => ⟨some (d.2.2.1.length ≤ 65536), .sv (.dv (.imm T_Mark d.2.2.1)), oObj T_fsL 2 d⟩
def bestK (ms : List MarkL) : Nat → MarkL
  | 0 => ms.getD 0 T_Mark.dflt
  | k + 1 => bif decide ((ms.getD k T_Mark.dflt).2.1 > (bestK ms k).2.1) then ms.getD k T_Mark.dflt else bestK ms k
def lastV (ms : List MarkL) : MarkL := bif decide ((ms.length : Int) = 0) then T_Mark.dflt else bestK ms ms.length
def c_Last : PC := gM T_fsL [] fun d _ => ⟨none, .tup [svOfT T_Mark (lastV d.2.2.1), .dv (.bool (!decide ((d.2.2.1.length : Int) = 0)))], oObj T_fsL 2 d⟩
def an_LastL (ms : List MarkL) : Nat → SState → Option LoopAnn
  | 5, S => some { X := Nat, slots := fun k => [(30, .sv (.dv (.i64 (ofN k))))], objs := fun k => [(x_labAt S 4, .cells (ofRuns (enc T_Mark (bestK ms k))) false)], inv := fun k => k ≤ ms.length, meas := fun k => ms.length - k }
  | _, _ => none
def an_Last (ms : List MarkL) : Ann := { at_ := an_LastL ms, pins := [1, 2, 3, 4], prune := 1 }
def firstsOk (ws : List Noted) (first : Firsts) : Prop := ∀ h k, mget T_Head first h = some k → 0 ≤ k ∧ k < (ws.length : Int)
def ofV (ws : List Noted) (first : Firsts) (h : HeadT) : Noted × Bool := match mget T_Head first h with
  | some k => (ws.getD k.toNat T_Noted.dflt, true)
  | none => (T_Noted.dflt, false)
def c_Of : PC := gM T_fsL [T_Head] fun d x => ⟨some (okW d.1 ∧ firstsOk d.1 d.2.1), .tup [svOfT T_Noted (ofV d.1 d.2.1 x.1).1, .dv (.bool (ofV d.1 d.2.1 x.1).2)], oObj T_fsL 2 d⟩

theorem ledger_New_vc :
    ofN 0 = 0 ∧
      nilOf (Int × Int × Int × Int × List (BitVec 8) × List (BitVec 8) × List (BitVec 8) × Bool) = nilOf (Int × Int × Int × Int × List (BitVec 8) × List (BitVec 8) × List (BitVec 8) × Bool) ∧
      nilOf ((Int × Int × List (BitVec 8)) × Int) = nilOf ((Int × Int × List (BitVec 8)) × Int) ∧
      nilOf (Int × Int × Int × List (BitVec 8) × List (BitVec 8)) = nilOf (Int × Int × Int × List (BitVec 8) × List (BitVec 8)) := by
  exact ⟨rfl, rfl, rfl, rfl⟩

theorem ledger_is_vc (ws : List Noted) (first : Firsts) (ms : List MarkL) (at_ : Int) :
    true = true ∧ at_ = at_ ∧ ws = ws ∧ first = first ∧ ms = ms := by
  exact ⟨rfl, rfl, rfl, rfl, rfl⟩

theorem ledger_later_vc (ws : List Noted) (first : Firsts) (ms : List MarkL) (at_ x : Int) :
    (false = true → 4 = laterE at_ x ∧ at_ = laterA at_ x ∧ ws = ws ∧ first = first ∧ ms = ms) ∧
      (false = false →
      (decide (x < at_) = true → 240 = laterE at_ x ∧ at_ = laterA at_ x ∧ ws = ws ∧ first = first ∧ ms = ms) ∧
      (decide (x < at_) = false → 0 = laterE at_ x ∧ x = laterA at_ x ∧ ws = ws ∧ first = first ∧ ms = ms)) := by
  unfold laterE laterA
  refine ⟨(fun q => nomatch q), fun _ => ⟨fun q => ?_, fun q => ?_⟩⟩ <;> rw [q] <;> exact ⟨rfl, rfl, rfl, rfl, rfl⟩

theorem slices_CloneB_vc (l : List (BitVec 8)) (h : l.length ≤ 65536) :
    ∀ (q : Bool),
      (q = true → l = nilOf (T.den T.u8)) → ((q == true) = true → nilOf (BitVec 8) = l) ∧ ((q == true) = false → List.length (nilOf (BitVec 8)) + List.length l ≤ ROOM ∧ nilOf (BitVec 8) ++ l = l) := by
  refine fun q hq => ⟨fun q2 => (hq (by simpa using q2)).symm, fun _ => ⟨?_, rfl⟩⟩
  show 0 + l.length ≤ ROOM
  unfold ROOM; omega

theorem slices_CloneM_vc (l : List MarkL) (h : l.length ≤ 65536) :
    ∀ (q : Bool),
      (q = true → l = nilOf (T.den T_Mark)) →
      ((q == true) = true → nilOf (Int × Int × Int × List (BitVec 8) × List (BitVec 8)) = l) ∧
      ((q == true) = false → List.length (nilOf (Int × Int × Int × List (BitVec 8) × List (BitVec 8))) + List.length l ≤ ROOM ∧ nilOf (Int × Int × Int × List (BitVec 8) × List (BitVec 8)) ++ l = l) := by
  refine fun q hq => ⟨fun q2 => (hq (by simpa using q2)).symm, fun _ => ⟨?_, rfl⟩⟩
  show 0 + l.length ≤ ROOM
  unfold ROOM; omega

theorem slices_CloneR_vc (xs : List MarkL) (h : xs.length ≤ 65536) :
    ∀ (q : Bool),
      (q = true → xs = nilOf (T.den T_Mark)) →
      ((q == true) = true → nilOf (Int × Int × Int × List (BitVec 8) × List (BitVec 8)) = xs ∧ xs = xs) ∧
      ((q == true) = false →
      List.length (nilOf (Int × Int × Int × List (BitVec 8) × List (BitVec 8))) + List.length xs ≤ ROOM ∧ nilOf (Int × Int × Int × List (BitVec 8) × List (BitVec 8)) ++ xs = xs ∧ xs = xs) := by
  refine fun q hq => ⟨fun q2 => ⟨(hq (by simpa using q2)).symm, rfl⟩, fun _ => ⟨?_, rfl, rfl⟩⟩
  show 0 + xs.length ≤ ROOM
  unfold ROOM; omega

theorem ledger_own_vc (f : Noted) (h : f.2.2.2.2.2.2.1.length ≤ 65536) :
    List.length f.2.2.2.2.2.2.1 ≤ 65536 ∧
      f.1 = f.1 ∧
      f.2.1 = f.2.1 ∧ f.2.2.1 = f.2.2.1 ∧ f.2.2.2.1 = f.2.2.2.1 ∧ f.2.2.2.2.1 = f.2.2.2.2.1 ∧ f.2.2.2.2.2.1 = f.2.2.2.2.2.1 ∧ f.2.2.2.2.2.2.1 = f.2.2.2.2.2.2.1 ∧ f.2.2.2.2.2.2.2 = f.2.2.2.2.2.2.2 := by
  exact ⟨h, rfl, rfl, rfl, rfl, rfl, rfl, rfl, rfl⟩

theorem later_ne (at_ x : Int) : (laterE at_ x != 0) = decide (x < at_) := by
  unfold laterE
  cases decide (x < at_) <;> rfl
theorem does_ne (d : Deed) (s : Shown) : (s.1 != 0 || d.1 != 1 && d.1 != 2) = !doesV d s := by
  unfold doesV
  simp only [bne]
  cases (s.1 == (0 : Int)) <;> cases (d.1 == (1 : Int)) <;> cases (d.1 == (2 : Int)) <;> rfl
theorem later_no {at_ x : Int} (h : decide (x < at_) = false) : laterE at_ x = 0 := by unfold laterE; rw [h]; rfl

theorem ledger_Note_vc (ws : List Noted) (first : Firsts) (ms : List MarkL) (at_ x : Int) (d : Deed) (s : Shown) (hw : ws.length ≤ 65536) (hb : d.2.2.2.1.length ≤ 65536) :
    ((laterE at_ x != 0) = true → laterE at_ x = laterE at_ x ∧ laterA at_ x = laterA at_ x ∧ ws = noteW ws at_ x d s ∧ first = noteF ws first at_ x d s ∧ ms = ms) ∧
      ((laterE at_ x != 0) = false →
      ((s.1 != 0 || d.1 != 1 && d.1 != 2) = true → 0 = laterE at_ x ∧ laterA at_ x = laterA at_ x ∧ ws = noteW ws at_ x d s ∧ first = noteF ws first at_ x d s ∧ ms = ms) ∧
      ((s.1 != 0 || d.1 != 1 && d.1 != 2) = false →
      ((!d.1 == 2) = true →
      List.length d.2.2.2.1 ≤ 65536 ∧
      ((!Option.isSome (mget (T.pair T.i64 (T.pair T.i64 (T.arr 32 T.u8))) first (s.2.1, s.2.2.1, s.2.2.2.1))) = true →
      List.length ws + List.length [(x, d.2.1, s.2.1, s.2.2.1, s.2.2.2.1, d.2.2.1, d.2.2.2.1, d.1 == 2)] ≤ ROOM ∧
      0 = laterE at_ x ∧
      laterA at_ x = laterA at_ x ∧
      ws ++ [(x, d.2.1, s.2.1, s.2.2.1, s.2.2.2.1, d.2.2.1, d.2.2.2.1, d.1 == 2)] = noteW ws at_ x d s ∧
      mput (T.pair T.i64 (T.pair T.i64 (T.arr 32 T.u8))) first (s.2.1, s.2.2.1, s.2.2.2.1) (ofN (List.length ws)) = noteF ws first at_ x d s ∧ ms = ms) ∧
      ((!Option.isSome (mget (T.pair T.i64 (T.pair T.i64 (T.arr 32 T.u8))) first (s.2.1, s.2.2.1, s.2.2.2.1))) = false →
      List.length ws + List.length [(x, d.2.1, s.2.1, s.2.2.1, s.2.2.2.1, d.2.2.1, d.2.2.2.1, d.1 == 2)] ≤ ROOM ∧
      0 = laterE at_ x ∧
      laterA at_ x = laterA at_ x ∧ ws ++ [(x, d.2.1, s.2.1, s.2.2.1, s.2.2.2.1, d.2.2.1, d.2.2.2.1, d.1 == 2)] = noteW ws at_ x d s ∧ first = noteF ws first at_ x d s ∧ ms = ms)) ∧
      ((!d.1 == 2) = false →
      ((!Option.isSome (mget (T.pair T.i64 (T.pair T.i64 (T.arr 32 T.u8))) first (s.2.1, s.2.2.1, s.2.2.2.1))) = true →
      List.length ws + List.length [(x, d.2.1, s.2.1, s.2.2.1, s.2.2.2.1, d.2.2.1, nilOf (BitVec 8), d.1 == 2)] ≤ ROOM ∧
      0 = laterE at_ x ∧
      laterA at_ x = laterA at_ x ∧
      ws ++ [(x, d.2.1, s.2.1, s.2.2.1, s.2.2.2.1, d.2.2.1, nilOf (BitVec 8), d.1 == 2)] = noteW ws at_ x d s ∧
      mput (T.pair T.i64 (T.pair T.i64 (T.arr 32 T.u8))) first (s.2.1, s.2.2.1, s.2.2.2.1) (ofN (List.length ws)) = noteF ws first at_ x d s ∧ ms = ms) ∧
      ((!Option.isSome (mget (T.pair T.i64 (T.pair T.i64 (T.arr 32 T.u8))) first (s.2.1, s.2.2.1, s.2.2.2.1))) = false →
      List.length ws + List.length [(x, d.2.1, s.2.1, s.2.2.1, s.2.2.2.1, d.2.2.1, nilOf (BitVec 8), d.1 == 2)] ≤ ROOM ∧
      0 = laterE at_ x ∧
      laterA at_ x = laterA at_ x ∧
      ws ++ [(x, d.2.1, s.2.1, s.2.2.1, s.2.2.2.1, d.2.2.1, nilOf (BitVec 8), d.1 == 2)] = noteW ws at_ x d s ∧ first = noteF ws first at_ x d s ∧ ms = ms)))) := by
  rw [later_ne, does_ne]
  have hroom : ∀ w : Noted, ws.length + List.length [w] ≤ ROOM := fun w => by show ws.length + 1 ≤ ROOM; unfold ROOM; omega
  refine ⟨fun q => ?_, fun q => ⟨fun q2 => ?_, fun q2 => ?_⟩⟩
  · have hp : putsV at_ x d s = false := by unfold putsV; rw [q]; rfl
    refine ⟨rfl, rfl, ?_, ?_, rfl⟩ <;> first | (unfold noteW; rw [hp]; rfl) | (unfold noteF; rw [hp]; rfl)
  · have hp : putsV at_ x d s = false := by unfold putsV; rw [q]; simpa using q2
    refine ⟨(later_no q).symm, rfl, ?_, ?_, rfl⟩ <;> first | (unfold noteW; rw [hp]; rfl) | (unfold noteF; rw [hp]; rfl)
  · have hp : putsV at_ x d s = true := by unfold putsV; rw [q]; simpa using q2
    have hW : noteW ws at_ x d s = ws ++ [notedV x d s] := by unfold noteW; rw [hp]; rfl
    have hF : noteF ws first at_ x d s = bif !(mget T_Head first (headS s)).isSome then mput T_Head first (headS s) ws.length else first := by unfold noteF; rw [hp]; rfl
    rw [hW, hF]
    refine ⟨fun q3 => ?_, fun q3 => ?_⟩
    · have hN : notedV x d s = (x, d.2.1, s.2.1, s.2.2.1, s.2.2.2.1, d.2.2.1, d.2.2.2.1, d.1 == 2) := by
        unfold notedV
        have : (d.1 == (2 : Int)) = false := by simpa using q3
        rw [this]; rfl
      rw [hN]
      refine ⟨hb, fun q4 => ⟨hroom _, (later_no q).symm, rfl, rfl, ?_, rfl⟩, fun q4 => ⟨hroom _, (later_no q).symm, rfl, rfl, ?_, rfl⟩⟩
      · have q4' : (!(mget T_Head first (headS s)).isSome) = true := q4
        rw [q4']; rfl
      · have q4' : (!(mget T_Head first (headS s)).isSome) = false := q4
        rw [q4']; rfl
    · have hN : notedV x d s = (x, d.2.1, s.2.1, s.2.2.1, s.2.2.2.1, d.2.2.1, [], d.1 == 2) := by
        unfold notedV
        have : (d.1 == (2 : Int)) = true := by simpa using q3
        rw [this]; rfl
      rw [hN]
      refine ⟨fun q4 => ⟨hroom _, (later_no q).symm, rfl, rfl, ?_, rfl⟩, fun q4 => ⟨hroom _, (later_no q).symm, rfl, rfl, ?_, rfl⟩⟩
      · have q4' : (!(mget T_Head first (headS s)).isSome) = true := q4
        rw [q4']; rfl
      · have q4' : (!(mget T_Head first (headS s)).isSome) = false := q4
        rw [q4']; rfl

theorem ledger_Tell_vc (ws : List Noted) (first : Firsts) (ms : List MarkL) (at_ : Int) (t : Told) (hw : ms.length ≤ 65536) :
    ((laterE at_ t.1 != 0) = true → laterE at_ t.1 = laterE at_ t.1 ∧ laterA at_ t.1 = laterA at_ t.1 ∧ ws = ws ∧ first = first ∧ ms = tellM ms at_ t) ∧
      ((laterE at_ t.1 != 0) = false →
      ((t.2.2.1 == 1) = true → List.length ms + List.length [t.2.2.2] ≤ ROOM ∧ 0 = laterE at_ t.1 ∧ laterA at_ t.1 = laterA at_ t.1 ∧ ws = ws ∧ first = first ∧ ms ++ [t.2.2.2] = tellM ms at_ t) ∧
      ((t.2.2.1 == 1) = false → 0 = laterE at_ t.1 ∧ laterA at_ t.1 = laterA at_ t.1 ∧ ws = ws ∧ first = first ∧ ms = tellM ms at_ t)) := by
  rw [later_ne]
  unfold tellM
  refine ⟨fun q => ?_, fun q => ⟨fun q2 => ?_, fun q2 => ?_⟩⟩
  · rw [q]; exact ⟨rfl, rfl, rfl, rfl, rfl⟩
  · rw [q, q2]; exact ⟨by show ms.length + 1 ≤ ROOM; unfold ROOM; omega, (later_no q).symm, rfl, rfl, rfl, rfl⟩
  · rw [q, q2]; exact ⟨(later_no q).symm, rfl, rfl, rfl, rfl⟩

theorem ledger_Writes_vc (ws : List Noted) (first : Firsts) (ms : List MarkL) (at_ : Int) (h : okW ws) :
    (false = true → nilOf (Int × Int × Int × Int × List (BitVec 8) × List (BitVec 8) × List (BitVec 8) × Bool) = ws ∧ at_ = at_ ∧ ws = ws ∧ first = first ∧ ms = ms) ∧
      (false = false →
      (∃ (x : Nat), x ≤ List.length ws ∧ 0 = ofN x ∧ List.take x ws = nilOf (Int × Int × Int × Int × List (BitVec 8) × List (BitVec 8) × List (BitVec 8) × Bool)) ∧
      ∀ (x : Nat),
      x ≤ List.length ws →
      (decide (ofN x < ofN (List.length ws)) = true →
      within (ofN x) (List.length ws) ∧
      Int.toNat (ofN x) < List.length ws ∧
      List.length
      (List.getD ws (Int.toNat (ofN x))
      (T.dflt T_Noted)).2.2.2.2.2.2.1 ≤
      65536 ∧
      List.length (List.take x ws) +
      List.length
      [List.getD ws (Int.toNat (ofN x))
      (T.dflt T_Noted)] ≤
      ROOM ∧
      inI64 (ofN x + 1) ∧
      ∃ (x' : Nat),
      x' ≤ List.length ws ∧
      List.length ws - x' < List.length ws - x ∧
      ofN x + 1 = ofN x' ∧
      List.take x ws ++
      [List.getD ws (Int.toNat (ofN x))
      (T.dflt T_Noted)] =
      List.take x' ws) ∧
      (decide (ofN x < ofN (List.length ws)) = false → List.take x ws = ws ∧ at_ = at_ ∧ ws = ws ∧ first = first ∧ ms = ms)) := by
  refine ⟨(fun q => nomatch q), fun _ => ⟨⟨0, Nat.zero_le _, rfl, rfl⟩, fun x hx => ⟨fun q => ?_, fun q => ?_⟩⟩⟩
  · have hlt : x < ws.length := by have h1 : (x : Int) < (ws.length : Int) := of_decide_eq_true q; omega
    have h65 := h.1
    refine ⟨⟨by show (0 : Int) ≤ (x : Int); omega, by show (x : Int) < (ws.length : Int); omega⟩, hlt, ?_, ?_, by show inI64 ((x : Int) + 1); unfold inI64; omega, x + 1, hlt, by omega, rfl, ?_⟩
    · show (ws.getD x T_Noted.dflt).2.2.2.2.2.2.1.length ≤ 65536
      rw [getD_lt hlt]; exact h.2 _ (List.getElem_mem hlt)
    · rw [List.length_take]; show min x ws.length + 1 ≤ ROOM; unfold ROOM; omega
    · show ws.take x ++ [ws.getD x T_Noted.dflt] = ws.take (x + 1)
      rw [getD_lt hlt]; exact List.take_append_getElem hlt
  · have hge : ws.length ≤ x := by have h1 : ¬ (x : Int) < (ws.length : Int) := of_decide_eq_false q; omega
    exact ⟨List.take_of_length_le hge, rfl, rfl, rfl, rfl⟩

theorem ledger_Acked_vc (ws : List Noted) (first : Firsts) (ms : List MarkL) (at_ : Int) (h : ms.length ≤ 65536) :
    (false = true → nilOf (Int × Int × Int × List (BitVec 8) × List (BitVec 8)) = ms ∧ at_ = at_ ∧ ws = ws ∧ first = first ∧ ms = ms) ∧
      (false = false → List.length ms ≤ 65536 ∧ ms = ms ∧ at_ = at_ ∧ ws = ws ∧ first = first ∧ ms = ms) := by
  exact ⟨(fun q => nomatch q), fun _ => ⟨h, rfl, rfl, rfl, rfl, rfl⟩⟩

theorem ledger_Last_vc (ws : List Noted) (first : Firsts) (ms : List MarkL) (at_ : Int) (h : ms.length ≤ LIM) :
    ((false || ofN (List.length ms) == 0) = true →
      ((0 = (lastV ms).1 ∧ 0 = (lastV ms).2.1 ∧ 0 = (lastV ms).2.2.1 ∧ List.replicate 32 0#8 = (lastV ms).2.2.2.1 ∧ List.replicate 32 0#8 = (lastV ms).2.2.2.2) ∧
      false = !decide (ofN (List.length ms) = 0)) ∧
      at_ = at_ ∧ ws = ws ∧ first = first ∧ ms = ms) ∧
      ((false || ofN (List.length ms) == 0) = false →
      within 0 (List.length ms) ∧
      Int.toNat 0 < List.length ms ∧
      (∃ (x : Nat),
      x ≤ List.length ms ∧
      0 = ofN x ∧
      (List.getD ms (Int.toNat 0) (T.dflt T_Mark)).1 = (bestK ms x).1 ∧
      (List.getD ms (Int.toNat 0) (T.dflt T_Mark)).2.1 = (bestK ms x).2.1 ∧
      (List.getD ms (Int.toNat 0) (T.dflt T_Mark)).2.2.1 = (bestK ms x).2.2.1 ∧
      (List.getD ms (Int.toNat 0) (T.dflt T_Mark)).2.2.2.1 = (bestK ms x).2.2.2.1 ∧
      (List.getD ms (Int.toNat 0) (T.dflt T_Mark)).2.2.2.2 = (bestK ms x).2.2.2.2) ∧
      ∀ (x : Nat),
      x ≤ List.length ms →
      (decide (ofN x < ofN (List.length ms)) = true →
      within (ofN x) (List.length ms) ∧
      Int.toNat (ofN x) < List.length ms ∧
      (decide ((bestK ms x).2.1 < (List.getD ms (Int.toNat (ofN x)) (T.dflt T_Mark)).2.1) = true →
      inI64 (ofN x + 1) ∧
      ∃ (x' : Nat),
      x' ≤ List.length ms ∧
      List.length ms - x' < List.length ms - x ∧
      ofN x + 1 = ofN x' ∧
      (List.getD ms (Int.toNat (ofN x)) (T.dflt T_Mark)).1 = (bestK ms x').1 ∧
      (List.getD ms (Int.toNat (ofN x)) (T.dflt T_Mark)).2.1 = (bestK ms x').2.1 ∧
      (List.getD ms (Int.toNat (ofN x)) (T.dflt T_Mark)).2.2.1 = (bestK ms x').2.2.1 ∧
      (List.getD ms (Int.toNat (ofN x)) (T.dflt T_Mark)).2.2.2.1 =
      (bestK ms x').2.2.2.1 ∧
      (List.getD ms (Int.toNat (ofN x)) (T.dflt T_Mark)).2.2.2.2 =
      (bestK ms x').2.2.2.2) ∧
      (decide ((bestK ms x).2.1 < (List.getD ms (Int.toNat (ofN x)) (T.dflt T_Mark)).2.1) = false →
      inI64 (ofN x + 1) ∧
      ∃ (x' : Nat),
      x' ≤ List.length ms ∧
      List.length ms - x' < List.length ms - x ∧
      ofN x + 1 = ofN x' ∧
      (bestK ms x).1 = (bestK ms x').1 ∧
      (bestK ms x).2.1 = (bestK ms x').2.1 ∧
      (bestK ms x).2.2.1 = (bestK ms x').2.2.1 ∧ (bestK ms x).2.2.2.1 = (bestK ms x').2.2.2.1 ∧ (bestK ms x).2.2.2.2 = (bestK ms x').2.2.2.2)) ∧
      (decide (ofN x < ofN (List.length ms)) = false →
      (((bestK ms x).1 = (lastV ms).1 ∧
      (bestK ms x).2.1 = (lastV ms).2.1 ∧ (bestK ms x).2.2.1 = (lastV ms).2.2.1 ∧ (bestK ms x).2.2.2.1 = (lastV ms).2.2.2.1 ∧ (bestK ms x).2.2.2.2 = (lastV ms).2.2.2.2) ∧
      true = !decide (ofN (List.length ms) = 0)) ∧
      at_ = at_ ∧ ws = ws ∧ first = first ∧ ms = ms)) := by
  have e : (false || ofN ms.length == 0) = decide ((ms.length : Int) = 0) := rfl
  rw [e]
  refine ⟨fun q => ?_, fun q => ?_⟩
  · have hl : lastV ms = T_Mark.dflt := by unfold lastV; rw [q]; rfl
    rw [hl, show decide (ofN ms.length = 0) = true from q]
    exact ⟨⟨⟨rfl, rfl, rfl, rfl, rfl⟩, rfl⟩, rfl, rfl, rfl, rfl⟩
  · have hp : 0 < ms.length := by have := of_decide_eq_false q; omega
    have hl : lastV ms = bestK ms ms.length := by unfold lastV; rw [q]; rfl
    rw [hl, show decide (ofN ms.length = 0) = false from q]
    refine ⟨⟨by decide, by show (0 : Int) < (ms.length : Int); omega⟩, hp, ⟨0, Nat.zero_le _, rfl, rfl, rfl, rfl, rfl, rfl⟩, fun x hx => ⟨fun q => ?_, fun q => ?_⟩⟩
    · have hlt : x < ms.length := by have h1 : (x : Int) < (ms.length : Int) := of_decide_eq_true q; omega
      have hs : bestK ms (x + 1) = bif decide ((ms.getD x T_Mark.dflt).2.1 > (bestK ms x).2.1) then ms.getD x T_Mark.dflt else bestK ms x := rfl
      refine ⟨⟨by show (0 : Int) ≤ (x : Int); omega, by show (x : Int) < (ms.length : Int); omega⟩, hlt, fun q2 => ⟨by show inI64 ((x : Int) + 1); unfold inI64; unfold LIM at h; omega, x + 1, hlt, by omega, rfl, ?_⟩, fun q2 => ⟨by show inI64 ((x : Int) + 1); unfold inI64; unfold LIM at h; omega, x + 1, hlt, by omega, rfl, ?_⟩⟩
      · have q3 : decide ((ms.getD x T_Mark.dflt).2.1 > (bestK ms x).2.1) = true := q2
        rw [hs, q3]; exact ⟨rfl, rfl, rfl, rfl, rfl⟩
      · have q3 : decide ((ms.getD x T_Mark.dflt).2.1 > (bestK ms x).2.1) = false := q2
        rw [hs, q3]; exact ⟨rfl, rfl, rfl, rfl, rfl⟩
    · have hx2 : x = ms.length := by have h1 : ¬ (x : Int) < (ms.length : Int) := of_decide_eq_false q; omega
      subst hx2
      exact ⟨⟨⟨rfl, rfl, rfl, rfl, rfl⟩, rfl⟩, rfl, rfl, rfl, rfl⟩

theorem ledger_Of_vc (ws : List Noted) (first : Firsts) (ms : List MarkL) (at_ : Int) (h : HeadT) (hw : okW ws) (hf : firstsOk ws first) :
    (false = true →
      ((0 = (ofV ws first h).1.1 ∧
      0 = (ofV ws first h).1.2.1 ∧
      0 = (ofV ws first h).1.2.2.1 ∧
      0 = (ofV ws first h).1.2.2.2.1 ∧
      List.replicate 32 0#8 = (ofV ws first h).1.2.2.2.2.1 ∧
      nilOf (BitVec 8) = (ofV ws first h).1.2.2.2.2.2.1 ∧ nilOf (BitVec 8) = (ofV ws first h).1.2.2.2.2.2.2.1 ∧ false = (ofV ws first h).1.2.2.2.2.2.2.2) ∧
      false = (ofV ws first h).2) ∧
      at_ = at_ ∧ ws = ws ∧ first = first ∧ ms = ms) ∧
      (false = false →
      ((!Option.isSome (mget (T.pair T.i64 (T.pair T.i64 (T.arr 32 T.u8))) first h)) = true →
      ((0 = (ofV ws first h).1.1 ∧
      0 = (ofV ws first h).1.2.1 ∧
      0 = (ofV ws first h).1.2.2.1 ∧
      0 = (ofV ws first h).1.2.2.2.1 ∧
      List.replicate 32 0#8 = (ofV ws first h).1.2.2.2.2.1 ∧
      nilOf (BitVec 8) = (ofV ws first h).1.2.2.2.2.2.1 ∧ nilOf (BitVec 8) = (ofV ws first h).1.2.2.2.2.2.2.1 ∧ false = (ofV ws first h).1.2.2.2.2.2.2.2) ∧
      false = (ofV ws first h).2) ∧
      at_ = at_ ∧ ws = ws ∧ first = first ∧ ms = ms) ∧
      ((!Option.isSome (mget (T.pair T.i64 (T.pair T.i64 (T.arr 32 T.u8))) first h)) = false →
      within (Option.getD (mget (T.pair T.i64 (T.pair T.i64 (T.arr 32 T.u8))) first h) (T.dflt T.i64)) (List.length ws) ∧
      Int.toNat (Option.getD (mget (T.pair T.i64 (T.pair T.i64 (T.arr 32 T.u8))) first h) (T.dflt T.i64)) < List.length ws ∧
      List.length
      (List.getD ws (Int.toNat (Option.getD (mget (T.pair T.i64 (T.pair T.i64 (T.arr 32 T.u8))) first h) (T.dflt T.i64)))
      (T.dflt T_Noted)).2.2.2.2.2.2.1 ≤
      65536 ∧
      (((List.getD ws (Int.toNat (Option.getD (mget (T.pair T.i64 (T.pair T.i64 (T.arr 32 T.u8))) first h) (T.dflt T.i64)))
      (T.dflt T_Noted)).1 =
      (ofV ws first h).1.1 ∧
      (List.getD ws (Int.toNat (Option.getD (mget (T.pair T.i64 (T.pair T.i64 (T.arr 32 T.u8))) first h) (T.dflt T.i64)))
      (T.dflt T_Noted)).2.1 =
      (ofV ws first h).1.2.1 ∧
      (List.getD ws (Int.toNat (Option.getD (mget (T.pair T.i64 (T.pair T.i64 (T.arr 32 T.u8))) first h) (T.dflt T.i64)))
      (T.dflt T_Noted)).2.2.1 =
      (ofV ws first h).1.2.2.1 ∧
      (List.getD ws (Int.toNat (Option.getD (mget (T.pair T.i64 (T.pair T.i64 (T.arr 32 T.u8))) first h) (T.dflt T.i64)))
      (T.dflt T_Noted)).2.2.2.1 =
      (ofV ws first h).1.2.2.2.1 ∧
      (List.getD ws (Int.toNat (Option.getD (mget (T.pair T.i64 (T.pair T.i64 (T.arr 32 T.u8))) first h) (T.dflt T.i64)))
      (T.dflt T_Noted)).2.2.2.2.1 =
      (ofV ws first h).1.2.2.2.2.1 ∧
      (List.getD ws (Int.toNat (Option.getD (mget (T.pair T.i64 (T.pair T.i64 (T.arr 32 T.u8))) first h) (T.dflt T.i64)))
      (T.dflt T_Noted)).2.2.2.2.2.1 =
      (ofV ws first h).1.2.2.2.2.2.1 ∧
      (List.getD ws (Int.toNat (Option.getD (mget (T.pair T.i64 (T.pair T.i64 (T.arr 32 T.u8))) first h) (T.dflt T.i64)))
      (T.dflt
      T_Noted)).2.2.2.2.2.2.1 =
      (ofV ws first h).1.2.2.2.2.2.2.1 ∧
      (List.getD ws (Int.toNat (Option.getD (mget (T.pair T.i64 (T.pair T.i64 (T.arr 32 T.u8))) first h) (T.dflt T.i64)))
      (T.dflt
      T_Noted)).2.2.2.2.2.2.2 =
      (ofV ws first h).1.2.2.2.2.2.2.2) ∧
      true = (ofV ws first h).2) ∧
      at_ = at_ ∧ ws = ws ∧ first = first ∧ ms = ms)) := by
  unfold ofV
  cases hm : mget T_Head first h with
  | none => exact ⟨(fun q => nomatch q), fun _ => ⟨fun _ => ⟨⟨⟨rfl, rfl, rfl, rfl, rfl, rfl, rfl, rfl⟩, rfl⟩, rfl, rfl, rfl, rfl⟩, (fun q => nomatch q)⟩⟩
  | some k =>
    have hk := hf h k hm
    have hlt : k.toNat < ws.length := by omega
    refine ⟨(fun q => nomatch q), fun _ => ⟨(fun q => nomatch q), fun _ => ⟨hk, hlt, ?_, ⟨⟨rfl, rfl, rfl, rfl, rfl, rfl, rfl, rfl⟩, rfl⟩, rfl, rfl, rfl, rfl⟩⟩⟩
    show (ws.getD k.toNat T_Noted.dflt).2.2.2.2.2.2.1.length ≤ 65536
    rw [getD_lt hlt]; exact hw.2 _ (List.getElem_mem hlt)

theorem ledger_New_spec : Vse.Spec P f_ledger_New c_lNew := spec_gf (l := []) trivial h_ledger_New rfl rfl fun _ _ _ => bodyG_ok an_L0 ledger_New_vc (by kernel_rfl)

theorem ledger_is_spec : Vse.Spec P f_ledger_Ledger_is c_lIs := spec_gm (l := []) trivial h_ledger_Ledger_is rfl rfl fun s _ _ _ _ => by
  obtain ⟨ws, first, ms, at_, _⟩ := s
  exact bodyG_ok an_L1 (ledger_is_vc ws first ms at_) (by kernel_rfl)

theorem ledger_later_spec : Vse.Spec P f_ledger_Ledger_later c_later := spec_gm (l := [(f_ledger_Ledger_is, c_lIs)]) ⟨ledger_is_spec, trivial⟩ h_ledger_Ledger_later rfl rfl fun s x _ _ _ => by
  obtain ⟨ws, first, ms, at_, _⟩ := s
  obtain ⟨x, _⟩ := x
  exact bodyG_ok an_L1 (ledger_later_vc ws first ms at_ x) (by kernel_rfl)

theorem slices_CloneB_spec : Vse.Spec P f_slices_Clone_byte c_CloneB := spec_fn (l := []) trivial h_slices_Clone_byte rfl rfl fun x h _ => body_ok an_none (slices_CloneB_vc x.1 h) (by kernel_rfl)

theorem slices_CloneR_spec : Vse.Spec P f_slices_Clone_Mark c_CloneR := spec_gr (l := []) trivial h_slices_Clone_Mark rfl rfl fun xs _ h _ _ => bodyG_ok an_CloneR (slices_CloneR_vc xs h) (by kernel_rfl)

theorem ledger_own_spec : Vse.Spec P f_ledger_own c_lOwn := spec_fn (l := [(f_slices_Clone_byte, c_CloneB)]) ⟨slices_CloneB_spec, trivial⟩ h_ledger_own rfl rfl fun x h _ => body_ok an_none (ledger_own_vc x.1 h) (by kernel_rfl)

theorem ledger_Note_spec : Vse.Spec P f_ledger_Ledger_Note c_Note := spec_gm (l := [(f_ledger_Ledger_later, c_later), (f_slices_Clone_byte, c_CloneB)]) ⟨ledger_later_spec, slices_CloneB_spec, trivial⟩ h_ledger_Ledger_Note rfl rfl fun s x h _ _ => by
  obtain ⟨ws, first, ms, at_, _⟩ := s
  obtain ⟨x, d, sh, _⟩ := x
  exact bodyG_ok an_L0 (ledger_Note_vc ws first ms at_ x d sh h.1 h.2) (by kernel_rfl)

theorem ledger_Tell_spec : Vse.Spec P f_ledger_Ledger_Tell c_Tell := spec_gm (l := [(f_ledger_Ledger_later, c_later)]) ⟨ledger_later_spec, trivial⟩ h_ledger_Ledger_Tell rfl rfl fun s x h _ _ => by
  obtain ⟨ws, first, ms, at_, _⟩ := s
  obtain ⟨t, _⟩ := x
  exact bodyG_ok an_L0 (ledger_Tell_vc ws first ms at_ t h) (by kernel_rfl)

theorem ledger_Writes_spec : Vse.Spec P f_ledger_Ledger_Writes c_Writes := spec_gm (l := [(f_ledger_Ledger_is, c_lIs), (f_ledger_own, c_lOwn)]) ⟨ledger_is_spec, ledger_own_spec, trivial⟩ h_ledger_Ledger_Writes rfl rfl fun s _ h _ _ => by
  obtain ⟨ws, first, ms, at_, _⟩ := s
  exact bodyG_ok (an_Writes ws) (ledger_Writes_vc ws first ms at_ h) (by kernel_rfl)

theorem ledger_Acked_spec : Vse.Spec P f_ledger_Ledger_Acked c_Acked := spec_gm (l := [(f_ledger_Ledger_is, c_lIs), (f_slices_Clone_Mark, c_CloneR)]) ⟨ledger_is_spec, slices_CloneR_spec, trivial⟩ h_ledger_Ledger_Acked rfl rfl fun s _ h _ _ => by
  obtain ⟨ws, first, ms, at_, _⟩ := s
  exact bodyG_ok an_L1 (ledger_Acked_vc ws first ms at_ h) (by kernel_rfl)

theorem ledger_Last_spec : Vse.Spec P f_ledger_Ledger_Last c_Last := spec_gm (l := [(f_ledger_Ledger_is, c_lIs)]) ⟨ledger_is_spec, trivial⟩ h_ledger_Ledger_Last rfl rfl fun s _ _ ok _ => by
  obtain ⟨ws, first, ms, at_, _⟩ := s
  exact bodyG_ok (an_Last ms) (ledger_Last_vc ws first ms at_ ok.2.2.2.1.1) (by kernel_rfl)

theorem ledger_Of_spec : Vse.Spec P f_ledger_Ledger_Of c_Of := spec_gm (l := [(f_ledger_Ledger_is, c_lIs), (f_ledger_own, c_lOwn)]) ⟨ledger_is_spec, ledger_own_spec, trivial⟩ h_ledger_Ledger_Of rfl rfl fun s x h _ _ => by
  obtain ⟨ws, first, ms, at_, _⟩ := s
  obtain ⟨hd, _⟩ := x
  exact bodyG_ok an_L1 (ledger_Of_vc ws first ms at_ hd h.1 h.2) (by kernel_rfl)

end Go.Sal
